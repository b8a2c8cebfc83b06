/-
  Texts of this seat, laid together. No statement of the seat stands here.
-/
import Derived.RangeFuncLeaves
import GoSem.ClaimChange
import GoSem.ClaimJoined
import Derived.ProofKit
import Derived.SizedLaws
import Derived.OpenShut
import Derived.ChangeArms
import Derived.Below
import Derived.ChangeOld
import Derived.Carry
import Derived.Conc.MuLone
import Derived.Test.YtejkgnmjdaohdaaRows
import Derived.KernelRfl
import Derived.Attr
import Derived.IntWalk
import Derived.Test.YtejkgnmjdaohdaaP2
set_option linter.unusedSectionVars false
namespace Go.An
open Go
section
variable [Orc]
variable {P : Program} {cl : CallT} {N b0 : Nat} {ρ : Ren} {W : World} {a : Act}
def exitOf : Ex → Exit
 | .nor => .normal
 | .exit id => .exit id
 | .ret => .ret
theorem callFunc_enter {k : Nat} {fn : Func} {c : Code} (hf : P.funcs[k]? = some fn) (hb : fn.body = some c) (hn : fn.name ≠ "runtime.NumGoroutine") (us : Array Value) : (callFunc k us).run P W = .ok (.enter k us) W := by
 have : (fn.name == "runtime.NumGoroutine") = false := by simpa using hn
 have hp : (program : Sem Program).run P W = .ok P W := rfl
 simp only [callFunc, Sem.run_bind, hp, Result.andThen_ok, hf, this, hb, Option.isNone_some, Bool.false_eq_true, if_false, Sem.run_pure]
def NoNum (P : Program) : Prop := ∀ (k : Nat) (fn : Func), P.funcs[k]? = some fn → fn.body.isSome = true → fn.name ≠ "runtime.NumGoroutine"
variable {ro : Option Nat}
def LoopIn (P : Program) (ro : Option Nat) (c : Code) (Q : Exit → Act → World → Prop) (a : Act) (w : World) : Prop :=
 ∀ (b : Frame) (k : List Item) (cs : List Frame), b.roundOf = (FW ro).round → ∃ e a' w', Q e a' w' ∧ ArrivesIn (Machine.fenced P (FW ro)) P (lone (b.atR a (.code c :: .inLoop c :: k)) cs w) b k cs e a' w'
theorem fw_fn {f : FuncId} : (FW ro).fn f := trivial
theorem fw_room {n : Nat} : (FW ro).room n := room_wide n
theorem LoopIn.wp {c : Code} {Q : Exit → Act → World → Prop} (h : LoopIn P ro c Q a W) : (Code.loop c).wpIn (FW ro) 0 P Q a W := fun b k cs hro hb hr =>
 let ⟨e, a', w', q, r⟩ := h b k cs hro
 ⟨e, a', w', q, .of_steps (.one (fenced_calm hb hr rfl) stepR_loop) r⟩
theorem LoopIn.of {c : Code} {Q : Exit → Act → World → Prop} (h : c.wpIn (FW ro) 0 P (Exit.then (LoopIn P ro c Q) Q) a W) : LoopIn P ro c Q a W := by
 intro b k cs hro
 obtain ⟨e, a₁, w₁, hq, harr⟩ := h b (.inLoop c :: k) cs hro fw_fn fw_room
 cases e with
 | normal =>
  obtain ⟨e₂, a₂, w₂, hq₂, harr₂⟩ := hq b k cs hro
  exact ⟨e₂, a₂, w₂, hq₂, .of_steps (StepsIn.trans harr (.one (fenced_calm (n := 0) fw_fn fw_room rfl) stepR_inLoop)) harr₂⟩
 | exit id => exact ⟨_, a₁, w₁, hq, .pass (x := .inLoop c) rfl (fun _ _ => .inl (by simp)) harr⟩
 | goto l => exact ⟨_, a₁, w₁, hq, .pass (x := .inLoop c) rfl (fun _ _ => .inl (by simp)) harr⟩
 | ret => exact ⟨_, a₁, w₁, hq, .pass (x := .inLoop c) rfl (fun _ _ => .inl (by simp)) harr⟩
 | panic ch => exact ⟨_, a₁, w₁, hq, .pass (x := .inLoop c) rfl (fun _ _ => .inl (by simp)) harr⟩
 | outgrown => exact ⟨_, a₁, w₁, hq, .pass (x := .inLoop c) rfl (fun _ _ => .inl (by simp)) harr⟩
def CodeWp (P : Program) (ro : Option Nat) (c : Code) (Q : Exit → Act → World → Prop) (a : Act) (w : World) : Prop :=
 match c with
 | .loop b => LoopIn P ro b Q a w
 | c => c.wpIn (FW ro) 0 P Q a w
theorem CodeWp.wp {c : Code} {Q : Exit → Act → World → Prop} (h : CodeWp P ro c Q a W) : c.wpIn (FW ro) 0 P Q a W := by
 cases c <;> first | exact h | exact LoopIn.wp h
def CodeOk (P : Program) (N : Nat) (rec : CodeT) : Prop := ∀ c s e s', rec c s = some (e, s') → ∀ b0 ρ ro a W, StR P b0 ρ N ro s a W → ∀ Q : Exit → Act → World → Prop,
 (∀ ρ' a' W', StR P b0 ρ' N ro s' a' W' → Step P b0 ρ ρ' s.H s'.H W W' → Q (exitOf e) a' W') → CodeWp P ro c Q a W
theorem renAdd_le' {id g : Nat} {l : Loc} (h : ρ id g = none) : ρ.Le (renAdd ρ id g l) := by
 refine ⟨fun i k l' h' => ?_, m_refl _⟩
 show (if _ then _ else _) = _
 rw [if_neg]
 ·exact h'
 ·rintro ⟨rfl, rfl⟩
  rw [h] at h'
  cases h'
theorem heap_alloc_two (W : World) (o o' : Obj) : ((W.alloc o).alloc o').heap[W.heap.size]? = some o := by
 rw [heap_alloc_old (W.alloc o) o' (by simp)]
 exact heap_alloc_new W o
theorem rangeFunc_ok (hnn : NoNum P) (hcl : ClOk P cl) {f : Operand} {ps : Array Tmp} {ca cb : Code} {s : St} {k : Nat} {x y : List V} {q : V × Hp} {L : LoopA} (hev : ev s.T f = .fn k x y) (hk : k ≠ Y0) (hrd : inRound s.D = false) (hbd : (P.funcs[k]?).any (·.body.isSome) = true)
  (hq : cl k (x ++ [.yld (s.H.length + 1)] ++ y) (s.H ++ [.dfr true, .loop ⟨s.T, N, ps.toList, ca, cb, 0, .nor, s.H.length⟩]) = some q) (hL : getLoopA q.2 (s.H.length + 1) = some L) (hst : L.st ≠ 1)
  (hs : StR P b0 ρ N ro s a W) {Q : Exit → Act → World → Prop}
  (hn : ∀ ρ' a' W', StR P b0 ρ' N ro { s with D := (Y0, [.ptr s.H.length 0 0]) :: s.D, H := q.2.set (s.H.length + 1) (.loop { L with st := 3 }) } a' W' → Step P b0 ρ ρ' s.H (q.2.set (s.H.length + 1) (.loop { L with st := 3 })) W W' → Q (exitOf L.pend) a' W') :
  (Code.rangeFunc f ps ca cb).wpIn (FW ro) 0 P Q a W := by
 obtain rfl : ro = none := by
  have := hs.df.rnd
  rw [hrd] at this
  cases ro with
  | none => rfl
  | some _ => cases this
 have hv := ev_sim hs.fr f
 rw [hev] at hv
 obtain ⟨x', y', hv, hx, hy⟩ := hv
 refine wpIn_rangeFunc fun fn _ => ?_
 have s1 := hs.rel.pushB (b := .dfr true) (o := .deferred (some [])) rfl ⟨rfl, hs.rel.size, heap_alloc_new W _⟩
 generalize hρ1 : renAdd ρ s.H.length 0 ⟨W.heap.size, 0, 0, true⟩ = ρ1 at s1
 have hdl : ρ1 s.H.length 0 = some ⟨W.heap.size, 0, 0, true⟩ := by rw [← hρ1]; exact renAdd_same _ _ _ _
 let rec0 : Loop := { state := .ready, pending := none, fn, tmps := a.tmps, params := ps, assign := ca, body := cb, defers := W.heap.size }
 have s2 := s1.rel.pushB (b := .loop ⟨s.T, N, ps.toList, ca, cb, 0, .nor, s.H.length⟩) (o := .loop rec0) rfl ⟨rfl, s1.rel.size, rec0, heap_alloc_new (W.alloc _) _, ⟨(hs.fr.mono s1.le).mono (renAdd_le' (s1.rel.fresh _ _ (Nat.le_refl _))), hs.sz, rfl, rfl, rfl, rfl, rfl⟩⟩
 have hlen1 : (s.H ++ [AB.dfr true]).length = s.H.length + 1 := by simp
 have hsz1 : (W.alloc (.deferred (some []))).heap.size = W.heap.size + 1 := by simp
 rw [hlen1, hsz1] at s2
 generalize hρ2 : renAdd ρ1 (s.H.length + 1) 0 ⟨W.heap.size + 1, 0, 0, true⟩ = ρ2 at s2
 have hll : ρ2 (s.H.length + 1) 0 = some ⟨W.heap.size + 1, 0, 0, true⟩ := by rw [← hρ2]; exact renAdd_same _ _ _ _
 rw [List.append_assoc] at s2
 have s12 := s1.trans s2
 have hargs : VL (VR ρ2) (x ++ [.yld (s.H.length + 1)] ++ y) (x' ++ #[Value.func (.yield (W.heap.size + 1)) #[] #[]] ++ y').toList := by
  simp only [Array.toList_append]
  have toR : ∀ {l : List V} {l' : List Value}, VL (VB ρ) l l' → VL (VR ρ2) l l' := fun h => h.imp fun u w h => (VC.toVR (by cases u <;> first | exact h | exact h.elim)).mono s12.le
  have hmid : VL (VR ρ2) [V.yld (s.H.length + 1)] [Value.func (.yield (W.heap.size + 1)) #[] #[]] := ⟨⟨_, hll, rfl⟩, trivial⟩
  exact ((toR hx).append hmid).append (toR hy)
 obtain ⟨F, hF, hFb⟩ : ∃ F, P.funcs[k]? = some F ∧ F.body.isSome = true := by
  cases hF : P.funcs[k]? with
  | none => rw [hF] at hbd; cases hbd
  | some F => rw [hF] at hbd; exact ⟨F, rfl, hbd⟩
 obtain ⟨bd, hbd'⟩ := Option.isSome_iff_exists.1 hFb
 have hent := fun W => callFunc_enter (W := W) hF hbd' (hnn k F hF hFb) (x' ++ #[.func (.yield (W.heap.size + 1)) #[] #[]] ++ y')
 refine ⟨W.heap.size + 1, [{ target := .collected W.heap.size, args := #[] }], (W.alloc (.deferred (some []))).alloc (.loop rec0), { target := .fn (.func k) y', args := x' ++ #[.func (.yield (W.heap.size + 1)) #[] #[]] }, (W.alloc (.deferred (some []))).alloc (.loop rec0), k,
  x' ++ #[.func (.yield (W.heap.size + 1)) #[] #[]] ++ y', (W.alloc (.deferred (some []))).alloc (.loop rec0), ?_, ?_, fun _ _ => trivial, ?_, nofun, ?_⟩
 ·show (Instr.enterLoop fn a.tmps ps ca cb none).run P W = _
  simp [Instr.enterLoop, rec0]
 ·simp only [resolve, hv]
  simp [Deferred.ofValue]
  rfl
 ·simp only [invoke]
  exact callFunc_enter hF hbd' (hnn k F hF hFb) _
 ·rcases (hcl _ _ _ _ _ hq b0 ρ2 _ s12.rel).1 hk _ hargs with ⟨k2, us2, h3, h4⟩ | ⟨u, W', ρ', h3, _⟩
  ·rw [callFunc_enter hF hbd' (hnn k F hF hFb)] at h3
   injection h3 with h3
   injection h3 with h3 h5
   subst h3 h5
   refine callsIn_fw.2 (h4.mono fun e W' he => ?_)
   obtain ⟨u, ρ', rfl, hvu, hst'⟩ := he
   unfold getLoopA at hL
   split at hL
   ·rename_i L' hLb
    injection hL with hL
    subst hL
    have hll' := hst'.le.r _ _ _ hll
    obtain ⟨h5, h6, r, h7, h8⟩ := hst'.rel.at_ (b := .loop L') hLb hll'
    have h7 : W'.heap[W.heap.size + 1]? = some (.loop r) := h7
    have hend : (Instr.endLoop (W.heap.size + 1)).run P W' = .ok r.pending { W' with heap := W'.heap.setIfInBounds (W.heap.size + 1) (.loop { r with state := .exhausted }) } := by
     have hb : ¬ r.state = LoopState.busy := by
      rw [h8.st]
      match hx : L'.st, hst with
      | 0, _ => nofun
      | 1, h => exact absurd rfl h
      | 2, _ => nofun
      | n + 3, _ => nofun
     simp [Instr.endLoop, Instr.getLoop, run_getObj h7 rfl, run_setObj _ h7 rfl, hb]
    have hw : (W'.heap.setIfInBounds (W.heap.size + 1) (.loop { r with state := .exhausted }))[W.heap.size + 1]? = some (.loop { r with state := .exhausted }) := by
     have := (Array.getElem?_eq_some_iff.1 h7).1
     simp [this]
    have s3 := hst'.rel.setB (b := .loop L') (b' := .loop { L' with st := 3 }) (o' := .loop { r with state := .exhausted }) hLb rfl rfl hll' h5 ⟨h5, h6, _, hw, ⟨h8.fr, h8.sz, h8.ps, h8.ca, h8.cb, rfl, h8.pend⟩⟩
    have sall := (s12.trans hst').trans s3
    have hfin : StR P b0 ρ' N none { s with D := (Y0, [.ptr s.H.length 0 0]) :: s.D, H := q.2.set (s.H.length + 1) (.loop { L' with st := 3 }) } { a with defers := [{ target := .collected W.heap.size, args := #[] }] ++ a.defers } { W' with heap := W'.heap.setIfInBounds (W.heap.size + 1) (.loop { r with state := .exhausted }) } :=
     ⟨s3.rel, hs.fr.mono sall.le, hs.sz, ⟨.inr ⟨rfl, _, _, rfl, hst'.le.r _ _ _ (s2.le.r _ _ _ hdl), rfl⟩, DfR.mono sall.le hs.df⟩⟩
    have hQ := hn ρ' _ _ hfin sall
    refine ⟨_, _, hend, ?_⟩
    have hpd := h8.pend
    revert hQ
    generalize ({ W' with heap := W'.heap.setIfInBounds (W.heap.size + 1) (.loop { r with state := .exhausted }) } : World) = W3
    intro hQ
    rw [hpd]
    cases hp : L'.pend with
    | nor => rw [hp] at hQ; exact hQ
    | exit id => rw [hp] at hQ; exact wpIn_exit hQ
    | ret => rw [hp] at hQ; exact wpIn_ret hQ
   ·cases hL
  ·rw [callFunc_enter hF hbd' (hnn k F hF hFb)] at h3
   cases h3
theorem codeF_ok (hm : P.follows .mixedOrders = true) (hnn : NoNum P) (hcl : ClOk P cl) {rec : CodeT} (hrec : CodeOk P N rec) : CodeOk P N (codeF P cl N rec) := by
 intro c s e s' h b0 ρ ro a W hs Q hq
 unfold codeF at h
 split at h
 ·simp only [Option.some.injEq, Prod.mk.injEq] at h
  obtain ⟨rfl, rfl⟩ := h
  exact wpIn_skip (hq ρ a W hs (Step.refl hs.rel))
 ·rename_i id ops draw
  split at h
  ·rename_i hd
   subst hd
   split at h
   ·rename_i hok
    cases ht : traceV P cl N ops.toList ops.toList s with
    | none => rw [ht] at h; cases h
    | some r =>
     rw [ht] at h
     simp only [Option.bind_some] at h
     split at h
     ·rename_i hdy
      simp only [Option.some.injEq, Prod.mk.injEq] at h
      obtain ⟨rfl, rfl⟩ := h
      exact draw_sim hm hcl hs hok ht hdy hq
     ·cases h
   ·cases h
  ·rename_i hd
   obtain rfl : draw = false := by simpa using hd
   obtain ⟨s1, h1, e1⟩ := Option.map_eq_some_iff.1 h
   simp only [Prod.mk.injEq] at e1
   obtain ⟨rfl, rfl⟩ := e1
   refine wpIn_region ?_
   have := opsV_sim (n := 0) (Q := Q) hcl ops.toList 0 ρ s s1 a W rfl hs h1 hq
   rwa [Nat.sub_zero, ← List.range_eq_range'] at this
 ·rename_i x y
  cases h1 : rec x s with
  | none => rw [h1] at h; cases h
  | some r =>
   obtain ⟨e1, s1⟩ := r
   rw [h1] at h
   simp only [Option.bind_some] at h
   refine wpIn_seq (CodeWp.wp (hrec x s e1 s1 h1 b0 ρ ro a W hs _ fun ρ' a' W' hs' hst => ?_))
   cases e1 with
   | nor => exact CodeWp.wp (hrec y s1 e s' h b0 ρ' ro a' W' hs' _ fun ρ'' a'' W'' h2 h3 => hq ρ'' a'' W'' h2 (hst.trans h3))
   | exit id =>
    simp only [Option.some.injEq, Prod.mk.injEq] at h
    obtain ⟨rfl, rfl⟩ := h
    exact hq ρ' a' W' hs' hst
   | ret =>
    simp only [Option.some.injEq, Prod.mk.injEq] at h
    obtain ⟨rfl, rfl⟩ := h
    exact hq ρ' a' W' hs' hst
 ·rename_i c x y
  have hc := ev_sim hs.fr c
  split at h
  ·rename_i hb
   rw [hb] at hc
   exact wpIn_cond_true hc (CodeWp.wp (hrec x s e s' h b0 ρ ro a W hs _ hq))
  ·rename_i hb
   rw [hb] at hc
   exact wpIn_cond_false hc (CodeWp.wp (hrec y s e s' h b0 ρ ro a W hs _ hq))
  ·cases h
 ·rename_i id b
  obtain ⟨⟨e1, s1⟩, h1, e2⟩ := Option.map_eq_some_iff.1 h
  refine wpIn_block (CodeWp.wp (hrec b s e1 s1 h1 b0 ρ ro a W hs _ fun ρ' a' W' hs' hst => ?_))
  cases e1 with
  | nor =>
   simp only [Prod.mk.injEq] at e2
   obtain ⟨rfl, rfl⟩ := e2
   exact hq ρ' a' W' hs' hst
  | exit id' =>
   simp only at e2
   simp only [exitOf, Exit.inBlock]
   split at e2
   ·rename_i hid
    simp only [Prod.mk.injEq] at e2
    obtain ⟨rfl, rfl⟩ := e2
    rw [if_pos hid]
    exact hq ρ' a' W' hs' hst
   ·rename_i hid
    simp only [Prod.mk.injEq] at e2
    obtain ⟨rfl, rfl⟩ := e2
    rw [if_neg hid]
    exact hq ρ' a' W' hs' hst
  | ret =>
   simp only [Prod.mk.injEq] at e2
   obtain ⟨rfl, rfl⟩ := e2
   exact hq ρ' a' W' hs' hst
 ·rename_i b
  cases h1 : rec b s with
  | none => rw [h1] at h; cases h
  | some r =>
   obtain ⟨e1, s1⟩ := r
   rw [h1] at h
   simp only [Option.bind_some] at h
   refine LoopIn.of (CodeWp.wp (hrec b s e1 s1 h1 b0 ρ ro a W hs _ fun ρ' a' W' hs' hst => ?_))
   cases e1 with
   | nor => exact hrec (.loop b) s1 e s' h b0 ρ' ro a' W' hs' Q fun ρ'' a'' W'' h2 h3 => hq ρ'' a'' W'' h2 (hst.trans h3)
   | exit id =>
    simp only [Option.some.injEq, Prod.mk.injEq] at h
    obtain ⟨rfl, rfl⟩ := h
    exact hq ρ' a' W' hs' hst
   | ret =>
    simp only [Option.some.injEq, Prod.mk.injEq] at h
    obtain ⟨rfl, rfl⟩ := h
    exact hq ρ' a' W' hs' hst
 ·simp only [Option.some.injEq, Prod.mk.injEq] at h
  obtain ⟨rfl, rfl⟩ := h
  exact wpIn_exit (hq ρ a W hs (Step.refl hs.rel))
 ·simp only [Option.some.injEq, Prod.mk.injEq] at h
  obtain ⟨rfl, rfl⟩ := h
  exact wpIn_ret (hq ρ a W hs (Step.refl hs.rel))
 ·rename_i f ps ca cb
  split at h
  ·rename_i k x y hev
   split at h
   ·cases h
   ·rename_i hcond
    simp only [not_or] at hcond
    obtain ⟨q, hq1, h⟩ := Option.bind_eq_some_iff.1 h
    obtain ⟨L, hL, h⟩ := Option.bind_eq_some_iff.1 h
    split at h
    ·cases h
    ·rename_i hst
     simp only [Option.some.injEq, Prod.mk.injEq] at h
     obtain ⟨rfl, rfl⟩ := h
     exact rangeFunc_ok hnn hcl hev hcond.1 (by simpa using hcond.2.1) (by simpa using hcond.2.2) hq1 hL hst hs hq
  ·cases h
 ·cases h
def resSem (tmps : Array Value) : ResultVar → Sem Value
 | .tmp t => pure (tmps.getD t undef)
 | .cell a t => do loadVar t (← asAddr (tmps.getD a undef))
theorem results_eq (fn : Func) (tmps : Array Value) : results fn tmps = (do let vs ← fn.results.mapM (resSem tmps); pure (if h : vs.size = 1 then vs[0] else .tuple vs)) := rfl
theorem resList_sim {H : Hp} {T : Fr} {tmps : Array Value} (hR : Rel P b0 ρ H W) (hT : FrR ρ T tmps) : ∀ (rs : List ResultVar) (vs : List V), mapO (resV P H T) rs = some vs →
  ∃ us : List Value, (rs.mapM (resSem tmps)).run P W = .ok us W ∧ VL (VR ρ) vs us
 | [], vs, h => by
  simp only [mapO, Option.some.injEq] at h
  subst h
  exact ⟨[], rfl, trivial⟩
 | r :: rs, vs, h => by
  simp only [mapO] at h
  cases h1 : resV P H T r with
  | none => rw [h1] at h; cases h
  | some v =>
   rw [h1] at h
   obtain ⟨vs', h2, rfl⟩ := Option.map_eq_some_iff.1 h
   obtain ⟨us, h3, h4⟩ := resList_sim hR hT rs vs' h2
   rw [List.mapM_cons]
   cases r with
   | tmp t =>
    simp only [resV, Option.some.injEq] at h1
    subst h1
    exact ⟨tmps.getD t undef :: us, by simp only [resSem, Sem.run_bind, Sem.run_pure, Result.andThen_ok, h3], hT t, h4⟩
   | cell b t =>
    simp only [resV] at h1
    obtain ⟨ad, x, hx, hl, hv⟩ := load_same hR (hT b) h1
    have ha : (asAddr (.pointer (some ad))).run P W = .ok ad W := rfl
    exact ⟨x :: us, by simp only [resSem, Sem.run_bind, Sem.run_pure, Result.andThen_ok, hx, ha, hl, h3], hv, h4⟩
theorem results_sim {fn : Func} {H : Hp} {T : Fr} {tmps : Array Value} (hR : Rel P b0 ρ H W) (hT : FrR ρ T tmps) {v : V} (h : resultsV P fn H T = some v) : ∃ u, (results fn tmps).run P W = .ok u W ∧ VR ρ v u := by
 unfold resultsV at h
 cases h1 : mapO (resV P H T) fn.results.toList with
 | none => rw [h1] at h; cases h
 | some vs =>
  rw [h1] at h
  simp only [Option.bind_some] at h
  obtain ⟨us, h2, h3⟩ := resList_sim hR hT _ _ h1
  have hrun : (results fn tmps).run P W = .ok (if h : us.toArray.size = 1 then us.toArray[0] else .tuple us.toArray) W := by
   rw [results_eq, Array.mapM_eq_mapM_toList]
   simp only [Sem.run_bind, Sem.run_map, h2, Result.andThen_ok, Sem.run_pure]
  refine ⟨_, hrun, ?_⟩
  unfold tupV at h
  split at h
  ·injection h with h
   subst h
   match us, h3 with
   | [u], h3 => simpa using h3.1
  ·rename_i hne
   split at h
   ·rename_i hnt
    injection h with h
    subst h
    rw [dif_neg]
    ·refine ⟨_, rfl, ?_⟩
     rw [List.toList_toArray]
     clear h2 hrun h1 hne
     induction vs generalizing us with
     | nil => match us, h3 with | [], _ => trivial
     | cons x vs ih =>
      match us, h3 with
      | u :: us, h3 =>
       simp only [List.all_cons, Bool.and_eq_true] at hnt
       exact ⟨h3.1.va fun ws e => by subst e; simp [V.isTup] at hnt, ih us h3.2 hnt.2⟩
    ·intro hsz
     have hl := h3.length
     simp only [List.size_toArray] at hsz
     match vs, hl.trans hsz with
     | [x], _ => exact hne x rfl
   ·cases h
theorem init_StR {H : Hp} {args : List V} {us : Array Value} {n : Nat} (hR : Rel P b0 ρ H W) (ha : VL (VR ρ) args us.toList) : StR P b0 ρ (max args.length n) none ⟨args, [], H⟩ { tmps := us ++ Array.replicate (n - us.size) undef, defers := [] } W := by
 have hl : args.length = us.size := by simpa using ha.length
 refine ⟨hR, fun i => ?_, ?_, trivial⟩
 ·unfold get
  rw [List.getD_eq_getElem?_getD, Array.getD_eq_getD_getElem?]
  cases hi : args[i]? with
  | none => trivial
  | some v =>
   obtain ⟨u, hu, hv⟩ := ha.get i hi
   have hlt : i < us.size := by rw [← hl]; exact (List.getElem?_eq_some_iff.1 hi).1
   rw [Array.getElem?_append_left hlt]
   rw [Array.getElem?_toList] at hu
   rw [hu]
   exact hv
 ·simp only [Array.size_append, Array.size_replicate]
  omega
structure PrOk (P : Program) (Pr : Prims) : Prop where
 call : ∀ k p, Pr.call k = some p → ∀ args H v H', p args H = some (v, H') → ∀ b0 ρ W us, Rel P b0 ρ H W → VL (VR ρ) args us.toList → CallOut P b0 ρ H W ((callFunc k us).run P W) v H'
 dfr : ∀ k p, Pr.dfr k = some p → ∀ args H H', p args H = some H' → ∀ b0 ρ W us, Rel P b0 ρ H W → VL (VR ρ) args us.toList → (callFunc k us).run P W = .ok (.enter k us) W ∧
  CallsD P k us .returning W fun e u' W' => u' = .returning ∧ ∃ v ρ', e = .returned v ∧ Step P b0 ρ ρ' H H' W W'
 gc : ∀ k b0 ρ ρ' H H' W W' v u, Rel P b0 ρ H W → VR ρ' v u → Step P b0 ρ ρ' H H' W W' → ∃ ρ2, VR ρ2 (Pr.gc k H (v, H')).1 u ∧ Step P b0 ρ ρ2 H (Pr.gc k H (v, H')).2 W W'
variable {Pr : Prims} {code : Nat → CodeT}
def LeavesM (P : Program) (fn : Func) (tmps : Array Value) (R : Ending → World → Prop) : List Deferred → World → Prop
 | [], w => ∃ v, (results fn tmps).run P w = .ok v w ∧ R (.returned v) w
 | d :: ds, w => (∃ r w', d.target = .collected r ∧ (Instr.takeDeferred r).run P w = .ok [] w' ∧ LeavesM P fn tmps R ds w') ∨
   ∃ fv cap f args, d.target = .fn fv cap ∧ (invoke d.target d.args).run P w = .ok (.enter f args) w ∧ CallsD P f args .returning w fun e u' w' => u' = .returning ∧ ∃ v, e = .returned v ∧ LeavesM P fn tmps R ds w'
theorem leavesM_steps {fn : Func} {tmps : Array Value} {R : Ending → World → Prop} : ∀ (ds : List Deferred) (w : World) (fr : Frame)
  (cs : List Frame), fr.mode = .returning → fr.defers = ds → fr.tmps = tmps → P.funcs[fr.fn]? = some fn → fr.kind = .normal → LeavesM P fn tmps R ds w →
  ∃ e w' fr', R e w' ∧ Comes P (lone fr cs w) (lone fr' cs w') e ∧ fr'.fn = fr.fn ∧ fr'.leaving P w' e := by
 intro ds
 induction ds with
 | nil =>
  intro w fr cs hu hd ht hf hk h
  obtain ⟨v, hr, hR⟩ := h
  exact ⟨.returned v, w, fr, hR, Steps.refl P _, rfl, hu, hd, hk, fn, hf, ht ▸ hr⟩
 | cons d ds ih =>
  intro w fr cs hu hd ht hf hk h
  rcases h with ⟨r, w', htar, htake, hrest⟩ | ⟨fv, cap, f, args, htar, hinv, hcall⟩
  ·have h1 := step_collected (cs := cs) (by rw [hu]; nofun) hd htar htake
   obtain ⟨e', w'', fr', hR', hs', hfn', hl'⟩ := ih w' { fr with defers := [] ++ ds } cs hu rfl ht hf hk hrest
   exact ⟨e', w'', fr', hR', Comes.of_steps (.one h1) hs', hfn', hl'⟩
  ·have h1 := step_defer (cs := cs) (by rw [hu]; nofun) hd htar hinv
   obtain ⟨e, u', w', frX, hR, hsteps, hkX, hgo⟩ := hcall { fr with defers := ds } cs hu
   obtain ⟨rfl, v, rfl, hR⟩ := hR
   have h2 := step_going_returned (c := { { fr with defers := ds } with mode := .returning }) (cs := cs) hkX hgo
   obtain ⟨e', w'', fr', hR', hs', hfn', hl'⟩ := ih w' { { { fr with defers := ds } with mode := .returning } with mode := settle .returning } cs rfl rfl ht hf hk hR
   exact ⟨e', w'', fr', hR', Comes.of_steps (.head h1 (Steps.trans hsteps (.one h2))) hs', hfn', hl'⟩
def bodyM (P : Program) (fn : Func) (R : Ending → World → Prop) : Exit → Act → World → Prop
 | .normal, a, w | .ret, a, w => LeavesM P fn a.tmps R a.defers w
 | _, _, _ => False
theorem calls_of_wp_M {f : FuncId} {fn : Func} {c : Code} {args : Array Value} {w : World} {R : Ending → World → Prop}
  (hf : P.funcs[f]? = some fn) (hb : fn.body = some c)
  (h : c.wp P (bodyM P fn R) { tmps := args ++ Array.replicate (fn.ntmps - args.size) undef, defers := [] } w) : Calls P f args w R := by
 intro cs
 let b : Frame := { (default : Frame) with fn := f, kind := .normal }
 have henter : Frame.enter P f args .normal =
   b.at { tmps := args ++ Array.replicate (fn.ntmps - args.size) undef, defers := [] } [.code c] := by
  simp [Frame.enter, Frame.at, hf, hb, b]
 obtain ⟨e, a', w', hq, harr⟩ := h b [] cs
 rw [← henter] at harr
 cases e with
 | normal =>
  obtain ⟨e', w'', fr', hR, hs, hfn, hl⟩ := leavesM_steps a'.defers w' { b.at a' [] with mode := .returning } cs rfl rfl rfl hf rfl hq
  exact ⟨e', w'', fr', hR, Comes.of_steps (Steps.trans harr (.one step_end)) hs, hfn, hl⟩
 | ret =>
  obtain ⟨todo, hs₀⟩ := harr
  obtain ⟨e', w'', fr', hR, hs, hfn, hl⟩ := leavesM_steps a'.defers w' { b.at a' todo with mode := .returning } cs rfl rfl rfl hf rfl hq
  exact ⟨e', w'', fr', hR, Comes.of_steps hs₀ hs, hfn, hl⟩
 | panic chain => exact hq.elim
 | exit id => exact hq.elim
 | goto l => exact hq.elim
 | outgrown => exact hq.elim
theorem callD_sim (hnn : NoNum P) (hp : PrOk P Pr) (hc : ∀ N, CodeOk P N (code N)) {k : Nat} (hk : k ≠ Y0) {args : List V} {H H' : Hp} (h : callD P Pr code k args H = some H') {us : Array Value} (hR : Rel P b0 ρ H W) (ha : VL (VR ρ) args us.toList) :
  (callFunc k us).run P W = .ok (.enter k us) W ∧ CallsD P k us .returning W fun e u' W' => u' = .returning ∧ ∃ v ρ', e = .returned v ∧ Step P b0 ρ ρ' H H' W W' := by
 unfold callD at h
 rw [if_neg hk] at h
 split at h
 ·exact hp.dfr _ _ (by assumption) _ _ _ h _ _ _ _ hR ha
 ·cases hf : P.funcs[k]? with
  | none => rw [hf] at h; cases h
  | some fn =>
   rw [hf] at h
   simp only [Option.bind_some] at h
   cases hb : fn.body with
   | none => rw [hb] at h; cases h
   | some c =>
    rw [hb] at h
    simp only [Option.bind_some] at h
    cases hr : code (max args.length fn.ntmps) c ⟨args, [], H⟩ with
    | none => rw [hr] at h; cases h
    | some r =>
     obtain ⟨e, s⟩ := r
     rw [hr] at h
     simp only [Option.bind_some] at h
     refine ⟨callFunc_enter hf hb (hnn k fn hf (by rw [hb]; rfl)) us, ?_⟩
     refine callsD_of_wp hf hb (R := fun e W' => ∃ v ρ', e = .returned v ∧ Step P b0 ρ ρ' H H' W W') (wpIn_wide.1 (CodeWp.wp (ro := none) (hc _ c _ e s hr b0 ρ none _ W (init_StR hR ha) _ fun ρ' a' W' hs hst => ?_)))
     cases hD : s.D with
     | cons d ds => rw [hD] at h; cases e <;> cases h
     | nil =>
      rw [hD] at h
      have hdf := hs.df
      rw [hD] at hdf
      have hnil : a'.defers = [] := by
       cases hx : a'.defers with
       | nil => rfl
       | cons d ds => rw [hx] at hdf; exact hdf.elim
      have key : ((resultsV P fn s.H s.T).map fun _ => s.H) = some H' → a'.defers = [] ∧ ∃ v, (results fn a'.tmps).run P W' = .ok v W' ∧ ∃ v' ρ', Ending.returned v = .returned v' ∧ Step P b0 ρ ρ' H H' W W' := by
       intro h
       obtain ⟨v, hv, rfl⟩ := Option.map_eq_some_iff.1 h
       obtain ⟨u, hu, _⟩ := results_sim hs.rel hs.fr hv
       exact ⟨hnil, u, hu, u, ρ', rfl, hst⟩
      cases e with
      | nor => exact key h
      | ret => exact key h
      | exit id => cases h
theorem leaves_sim (hnn : NoNum P) (hp : PrOk P Pr) (hc : ∀ N, CodeOk P N (code N)) {fn : Func} {T : Fr} {tmps : Array Value} : ∀ {D : List (Nat × List V)} {ds : List Deferred} {H H' : Hp} {ρ : Ren} {W : World} {R : Ending → World → Prop} {v : V}, Rel P b0 ρ H W → DfR ρ D ds → FrR ρ T tmps →
  defersV P Pr code D H = some H' → resultsV P fn H' T = some v → (∀ ρ' W' u, VR ρ' v u → Step P b0 ρ ρ' H H' W W' → R (.returned u) W') → LeavesM P fn tmps R ds W
 | [], [], H, H', ρ, W, R, v, hR, _, hT, hd, hv, hq => by
  simp only [defersV, Option.some.injEq] at hd
  subst hd
  obtain ⟨u, h1, h2⟩ := results_sim hR hT hv
  exact ⟨u, h1, hq ρ W u h2 (Step.refl hR)⟩
 | r :: D, d :: ds, H, H', ρ, W, R, v, hR, hD, hT, hd, hv, hq => by
  simp only [defersV] at hd
  cases h1 : callD P Pr code r.1 r.2 H with
  | none => rw [h1] at hd; cases hd
  | some H1 =>
   rw [h1] at hd
   simp only [Option.bind_some] at hd
   rcases hD.1 with ⟨hk, cap, ht, ha⟩ | ⟨hk, id, l, e1, hl, ht⟩
   ·obtain ⟨h2, h3⟩ := callD_sim hnn hp hc hk h1 hR ha
    obtain ⟨tg, ag⟩ := d
    simp only at ht ha
    subst ht
    refine .inr ⟨_, cap, _, _, rfl, h2, h3.mono fun e u' W' hr => ?_⟩
    obtain ⟨rfl, x, ρ', rfl, hst⟩ := hr
    exact ⟨rfl, x, rfl, leaves_sim hnn hp hc hst.rel (hD.2.mono hst.le) (hT.mono hst.le) hd hv fun ρ'' W'' u h4 h5 => hq ρ'' W'' u h4 (hst.trans h5)⟩
   ·unfold callD at h1
    rw [if_pos hk, e1] at h1
    simp only at h1
    split at h1
    ·rename_i hb
     injection h1 with h1
     subst h1
     obtain ⟨h5, h6, h7⟩ := hR.at_ (b := .dfr true) hb hl
     have hlt := (Array.getElem?_eq_some_iff.1 h7).1
     have hst := hR.setB (b := .dfr true) (b' := .dfr false) (o' := .deferred none) hb rfl rfl hl h5 ⟨h5, h6, by simp [hlt]⟩
     refine .inl ⟨_, _, ht, ?_, leaves_sim hnn hp hc hst.rel hD.2 hT hd hv fun ρ'' W'' u h8 h9 => hq ρ'' W'' u h8 (hst.trans h9)⟩
     simp [Instr.takeDeferred, run_getObj h7 rfl, run_setObj _ h7 rfl]
    ·cases h1
 | [], _ :: _, _, _, _, _, _, _, _, h, _, _, _, _ => h.elim
 | _ :: _, [], _, _, _, _, _, _, _, h, _, _, _, _ => h.elim
theorem putL_sim : ∀ {ps : List Nat} {vs : List V} {us : List Value} {T T' : Fr} {tmps : Array Value}, putL T ps vs = some T' → VL (VR ρ) vs us → FrR ρ T tmps → (∀ p ∈ ps, p < tmps.size) →
  FrR ρ T' ((ps.zip us).foldl (fun tmps (p : Nat × Value) => tmps.setIfInBounds p.1 p.2) tmps) ∧ ((ps.zip us).foldl (fun tmps (p : Nat × Value) => tmps.setIfInBounds p.1 p.2) tmps).size = tmps.size
 | [], [], [], T, T', tmps, h, _, hT, _ => by
  simp only [putL, Option.some.injEq] at h
  subst h
  exact ⟨hT, rfl⟩
 | p :: ps, v :: vs, u :: us, T, T', tmps, h, hv, hT, hp => by
  simp only [putL] at h
  simp only [List.zip_cons_cons, List.foldl_cons]
  have h1 : FrR ρ (put T p v) (tmps.setIfInBounds p u) := by
   intro i
   have hlt := hp p (by simp)
   rw [get_put, Array.getD_eq_getD_getElem?]
   by_cases e : i = p
   ·subst e
    rw [if_pos rfl]
    simp [hlt]
    exact hv.1
   ·rw [if_neg e, Array.getElem?_setIfInBounds_ne (fun x => e x.symm), ← Array.getD_eq_getD_getElem?]
    exact hT i
  have := putL_sim (tmps := tmps.setIfInBounds p u) h hv.2 h1 (fun q hq => by simpa using hp q (by simp [hq]))
  simpa using this
 | _ :: _, _ :: _, [], _, _, _, _, hv, _, _ => hv.elim
 | [], _ :: _, _, _, _, _, h, _, _, _ => by simp [putL] at h
 | _ :: _, [], _, _, _, _, h, _, _, _ => by simp [putL] at h
 | [], [], _ :: _, _, _, _, _, hv, _, _ => hv.elim
theorem putL_len : ∀ {ps : List Nat} {vs : List V} {T T' : Fr}, putL T ps vs = some T' → vs.length = ps.length
 | [], [], _, _, _ => rfl
 | _ :: _, _ :: _, _, _, h => by simp only [putL] at h; simp [putL_len h]
 | [], _ :: _, _, _, h => by simp [putL] at h
 | _ :: _, [], _, _, h => by simp [putL] at h
theorem round_ok (hc : ∀ N, CodeOk P N (code N)) {id : Nat} {vs : List V} {l : Loc} {us : Array Value} {H H' : Hp} {v : V} (h : roundV code (.yld id :: vs) H = some (v, H')) (hR : Rel P b0 ρ H W) (hl : ρ id 0 = some l) (ha : VL (VR ρ) vs us.toList) : RoundOut P b0 ρ H W l.blk us v H' := by
 unfold roundV at h
 simp only at h
 obtain ⟨L, hL, h⟩ := Option.bind_eq_some_iff.1 h
 split at h
 ·rename_i hcond
  obtain ⟨T, hT, h⟩ := Option.bind_eq_some_iff.1 h
  obtain ⟨⟨e1, r1⟩, hr, h⟩ := Option.bind_eq_some_iff.1 h
  cases e1 with
  | exit _ => cases h
  | ret => cases h
  | nor =>
   simp only at h
   obtain ⟨L1, hL1, h⟩ := Option.bind_eq_some_iff.1 h
   split at h
   ·rename_i hst1
    obtain ⟨⟨e2, q⟩, hq, h⟩ := Option.bind_eq_some_iff.1 h
    obtain ⟨L2, hL2, h⟩ := Option.map_eq_some_iff.1 h
    simp only at hL2 h
    have blk : ∀ {H : Hp} {L : LoopA}, getLoopA H id = some L → H[id]? = some (.loop L) := by
     intro H L h
     unfold getLoopA at h
     split at h
     ·rename_i hb; injection h with h; subst h; exact hb
     ·cases h
    obtain ⟨g1, g2, r, g3, g4⟩ := hR.at_ (b := .loop L) (blk hL) hl
    have hps : ∀ p ∈ L.ps, p < r.tmps.size := fun p hp => by
     have := List.all_eq_true.1 hcond.2 p hp
     rw [g4.sz]; simpa using this
    obtain ⟨hfr, hsz⟩ := putL_sim hT ha g4.fr hps
    have hlen : vs.length = L.ps.length := by
     exact putL_len hT
    have hyield : (Instr.yield l.blk us).run P W = .ok (.round l.blk r.fn ((r.params.zip us).foldl (fun tmps (t, a) => tmps.setIfInBounds t a) r.tmps) r.assign r.body) W := by
     have hs : us.size = r.params.size := by
      have h1 := ha.length
      have h2 := congrArg List.length g4.ps
      simp only [Array.length_toList] at h1 h2
      omega
     simp [Instr.yield, Instr.getLoop, run_getObj g3 rfl, hs]
    have hfold : (r.params.zip us).foldl (fun tmps (t, a) => tmps.setIfInBounds t a) r.tmps = (L.ps.zip us.toList).foldl (fun tmps (p : Nat × Value) => tmps.setIfInBounds p.1 p.2) r.tmps := by
     rw [← Array.foldl_toList, Array.toList_zip, g4.ps]
    refine ⟨_, _, _, _, hyield, ?_⟩
    rw [hfold, g4.ca, g4.cb]
    refine roundIn_of_wpIn trivial ?_
    have hs0 : StR P b0 ρ L.N (some l.blk) ⟨T, [(Y0, [])], H⟩ { tmps := (L.ps.zip us.toList).foldl (fun tmps (p : Nat × Value) => tmps.setIfInBounds p.1 p.2) r.tmps, defers := [] } W := ⟨hR, hfr, hsz.trans g4.sz, rfl, rfl⟩
    refine CodeWp.wp (ro := some l.blk) (hc _ _ _ _ _ hr b0 ρ (some l.blk) _ W hs0 _ fun ρ1 a1 W1 hs1 hst1' => ?_)
    simp only [exitOf, Exit.then]
    have hl1 := hst1'.le.r _ _ _ hl
    obtain ⟨g5, g6, r1', g7, g8⟩ := hs1.rel.at_ (b := .loop L1) (blk hL1) hl1
    have hlt1 := (Array.getElem?_eq_some_iff.1 g7).1
    have hsb := hs1.rel.setB (b := .loop L1) (b' := .loop { L1 with st := 1 }) (o' := .loop { r1' with state := .busy }) (blk hL1) rfl rfl hl1 g5 ⟨g5, g6, { r1' with state := .busy }, by simp [hlt1], ⟨g8.fr, g8.sz, g8.ps, g8.ca, g8.cb, rfl, g8.pend⟩⟩
    refine ⟨{ W1 with heap := W1.heap.setIfInBounds l.blk (.loop { r1' with state := .busy }) }, ?_, ?_⟩
    ·have hready : r1'.state = .ready := by rw [g8.st, hst1]; rfl
     simp [Instr.beginRound, Instr.getLoop, run_getObj g7 rfl, run_setObj _ g7 rfl, hready]
    ·have hs2 : StR P b0 ρ1 L.N (some l.blk) { r1 with H := r1.H.set id (.loop { L1 with st := 1 }) } a1 { W1 with heap := W1.heap.setIfInBounds l.blk (.loop { r1' with state := .busy }) } := ⟨hsb.rel, hs1.fr, hs1.sz, hs1.df⟩
     refine CodeWp.wp (ro := some l.blk) (hc _ _ _ _ _ hq b0 ρ1 (some l.blk) a1 _ hs2 _ fun ρ2 a2 W2 hs3 hst3 => ?_)
     have hl2 := hst3.le.r _ _ _ hl1
     obtain ⟨g9, g10, r2, g11, g12⟩ := hs3.rel.at_ (b := .loop L2) (blk hL2) hl2
     have hlt2 := (Array.getElem?_eq_some_iff.1 g11).1
     have fin : ∀ (st : Nat) (pe : Ex), Step P b0 ρ ρ2 H (q.H.set id (.loop { L2 with st := st, pend := pe })) W { W2 with heap := W2.heap.setIfInBounds l.blk (.loop { r2 with state := stOf st, pending := codeOf pe }) } := fun st pe =>
      ((hst1'.trans hsb).trans hst3).trans (hs3.rel.setB (b := .loop L2) (b' := .loop { L2 with st := st, pend := pe }) (blk hL2) rfl rfl hl2 g9 ⟨g9, g10, { r2 with state := stOf st, pending := codeOf pe }, by simp [hlt2], ⟨g12.fr, g12.sz, g12.ps, g12.ca, g12.cb, rfl, rfl⟩⟩)
     have run : ∀ (j : Option Code), (Instr.endRound l.blk j).run P W2 = .ok (.bool j.isNone) { W2 with heap := W2.heap.setIfInBounds l.blk (.loop { r2 with state := if j.isNone then .ready else .done, pending := j }) } := fun j => by
      simp [Instr.endRound, Instr.getLoop, run_getObj g11 rfl, run_setObj _ g11 rfl]
     cases e2 with
     | nor =>
      simp only [Prod.mk.injEq] at h
      obtain ⟨rfl, rfl⟩ := h
      exact ⟨_, _, run none, .bool true, ρ2, rfl, rfl, fin 0 .nor⟩
     | exit i =>
      simp only [Prod.mk.injEq] at h
      obtain ⟨rfl, rfl⟩ := h
      exact ⟨_, _, run (some (.exit i)), .bool false, ρ2, rfl, rfl, fin 2 (.exit i)⟩
     | ret =>
      simp only [Prod.mk.injEq] at h
      obtain ⟨rfl, rfl⟩ := h
      exact ⟨_, _, run (some .ret), .bool false, ρ2, rfl, rfl, fin 2 .ret⟩
   ·cases h
 ·cases h
theorem bodyF_ok (hnn : NoNum P) (hp : PrOk P Pr) (hc : ∀ N, CodeOk P N (code N)) {k : Nat} {args : List V} {H H' : Hp} {v : V} (h : bodyF P Pr code k args H = some (v, H')) {b0 : Nat} {ρ : Ren} {W : World} (hR : Rel P b0 ρ H W) {us : Array Value} (ha : VL (VR ρ) args us.toList) : CallOut P b0 ρ H W ((callFunc k us).run P W) v H' := by
 unfold bodyF at h
 cases hf : P.funcs[k]? with
 | none => rw [hf] at h; cases h
 | some fn =>
  rw [hf] at h
  simp only [Option.bind_some] at h
  cases hb : fn.body with
  | none => rw [hb] at h; cases h
  | some c =>
   rw [hb] at h
   simp only [Option.bind_some] at h
   cases hr : code (max args.length fn.ntmps) c ⟨args, [], H⟩ with
   | none => rw [hr] at h; cases h
   | some r =>
    obtain ⟨e, s⟩ := r
    rw [hr] at h
    simp only [Option.bind_some] at h
    refine .inl ⟨k, us, callFunc_enter hf hb (hnn k fn hf (by rw [hb]; rfl)) us, ?_⟩
    refine calls_of_wp_M hf hb (wpIn_wide.1 (CodeWp.wp (ro := none) (hc _ c _ e s hr b0 ρ none _ W (init_StR hR ha) _ fun ρ' a' W' hs hst => ?_)))
    have key : ((defersV P Pr code s.D s.H).bind fun H' => (resultsV P fn H' s.T).map fun v => Pr.gc k H (v, H')) = some (v, H') → LeavesM P fn a'.tmps (fun e W' => ∃ u ρ', e = .returned u ∧ VR ρ' v u ∧ Step P b0 ρ ρ' H H' W W') a'.defers W' := by
     intro h
     cases hd : defersV P Pr code s.D s.H with
     | none => rw [hd] at h; cases h
     | some H2 =>
      rw [hd] at h
      obtain ⟨v', hv, e1⟩ := Option.map_eq_some_iff.1 h
      refine leaves_sim hnn hp hc hs.rel hs.df hs.fr hd hv fun ρ'' W'' u h4 h5 => ?_
      obtain ⟨ρ3, h6, h7⟩ := hp.gc k b0 ρ ρ'' H H2 W W'' v' u hR h4 (hst.trans h5)
      rw [e1] at h6 h7
      exact ⟨u, ρ3, rfl, h6, h7⟩
    cases e with
    | nor => exact key h
    | ret => exact key h
    | exit id => cases h
theorem pure_ok (hnn : NoNum P) (hp : PrOk P Pr) (hc : ∀ N, CodeOk P N (code N)) {k : Nat} {args a : List V} {H : Hp} {q : V × Hp} (hpre : preV k args H = some a) (h : bodyF P Pr code k a [] = some q) (hf : q.1.flat = true) {b0 : Nat} {ρ : Ren} {W : World} (hR : Rel P b0 ρ H W) {us : Array Value} (ha : VL (VR ρ) args us.toList) : CallOut P b0 ρ H W ((callFunc k us).run P W) q.1 H := by
 have hfin : ∀ (u : Value) (ρ' : Ren) (W' : World), VR ρ' q.1 u → Step P W.heap.size (ren0 W) ρ' [] q.2 W W' → VR ρ q.1 u ∧ Step P b0 ρ ρ H H W W' := by
  intro u ρ' W' hu hst
  have hfr : ∀ i, i < W.heap.size → W'.heap[i]? = W.heap[i]? := fun i hi => hst.frame i hi (by rintro ⟨j, b, l, hb, _⟩; simp at hb)
  exact ⟨flat_VR hu hf, hR.grow hfr hst.size, Ren.Le.refl _, fun i hi _ => hfr i hi, fun i h => .inl h, hst.size, Nat.le_refl _, hst.os, hst.tape, hst.output, fun _ _ h => .inl h⟩
 rcases bodyF_ok hnn hp hc h (rel0 P W) (us := us) (pre_ok hR ha hpre) with ⟨k', us', e1, hc⟩ | ⟨u, W', ρ', e1, h2, h3⟩
 ·refine .inl ⟨k', us', e1, hc.mono fun e W' he => ?_⟩
  obtain ⟨u, ρ', rfl, hu, hst⟩ := he
  obtain ⟨h2, h3⟩ := hfin u ρ' W' hu hst
  exact ⟨u, ρ, rfl, h2, h3⟩
 ·obtain ⟨h4, h5⟩ := hfin u ρ' W' h2 h3
  exact .inr ⟨u, W', ρ, e1, h4, h5⟩
theorem callF_ok (hnn : NoNum P) (hp : PrOk P Pr) (hc : ∀ N, CodeOk P N (code N)) : ClOk P (callF P Pr code) := by
 intro k args H v H' h b0 ρ W hR
 unfold callF at h
 split at h
 ·rename_i hk
  refine ⟨fun h => absurd hk h, fun _ id vs l us he hl ha => ?_⟩
  subst he
  exact round_ok hc h hR hl ha
 rename_i hk
 refine ⟨fun _ us ha => ?_, fun h => absurd h hk⟩
 split at h
 ·exact hp.call _ _ (by assumption) _ _ _ _ h _ _ _ _ hR ha
 ·split at h
  ·rename_i a hpre
   obtain ⟨q, hq, h⟩ := Option.bind_eq_some_iff.1 h
   split at h
   ·rename_i hf
    simp only [Option.some.injEq, Prod.mk.injEq] at h
    obtain ⟨rfl, rfl⟩ := h
    exact pure_ok hnn hp hc hpre hq hf hR ha
   ·cases h
  ·exact bodyF_ok hnn hp hc h hR ha
theorem both_ok (hm : P.follows .mixedOrders = true) (hnn : NoNum P) (hp : PrOk P Pr) : ∀ n, (∀ N, CodeOk P N ((both P Pr n).1 N)) ∧ ClOk P (both P Pr n).2
 | 0 => ⟨fun N c s e s' h => (by cases h), fun k args H v H' h => (by cases h)⟩
 | n + 1 => ⟨fun N => codeF_ok hm hnn (both_ok hm hnn hp n).2 ((both_ok hm hnn hp n).1 N), callF_ok hnn hp (both_ok hm hnn hp n).1⟩
theorem callN_ne {n k : Nat} {args : List V} {r : V × Hp} (h : callN P Pr n k args [] = some r) : k ≠ Y0 := by
 rintro rfl
 cases n with
 | zero => cases h
 | succ n =>
  have h : callF P Pr (both P Pr n).1 Y0 args [] = some r := h
  unfold callF at h
  rw [if_pos rfl] at h
  unfold roundV at h
  split at h
  ·cases h
  ·cases h
theorem callN_sound (hm : P.follows .mixedOrders = true) (hnn : NoNum P) (hp : PrOk P Pr) {n k : Nat} (hk : k ≠ Y0) {args : List V} {H H' : Hp} {v : V} (h : callN P Pr n k args H = some (v, H')) {us : Array Value} (hR : Rel P b0 ρ H W) (ha : VL (VR ρ) args us.toList) :
  CallOut P b0 ρ H W ((callFunc k us).run P W) v H' := ((both_ok hm hnn hp n).2 k args H v H' h b0 ρ W hR).1 hk us ha
end
end Go.An
namespace Go.An
open Go
theorem mapM_get {α β : Type} {f : α → Option β} : ∀ {l : List α} {ys : List β}, l.mapM f = some ys → ys.length = l.length ∧ ∀ (i : Nat) (x : α), l[i]? = some x → ∃ y, ys[i]? = some y ∧ f x = some y
 | [], ys, h => by simp at h; subst h; exact ⟨rfl, fun i x h => by simp at h⟩
 | a :: l, ys, h => by
  rw [List.mapM_cons] at h
  simp only [Option.pure_def, Option.bind_eq_bind] at h
  cases h1 : f a with
  | none => rw [h1] at h; cases h
  | some b =>
   rw [h1] at h
   simp only [Option.bind_some] at h
   cases h2 : l.mapM f with
   | none => rw [h2] at h; cases h
   | some bs =>
    rw [h2] at h
    simp only [Option.bind_some, Option.some.injEq] at h
    subst h
    obtain ⟨e1, e2⟩ := mapM_get h2
    refine ⟨by simp [e1], fun i x hx => ?_⟩
    cases i with
    | zero => simp at hx; subst hx; exact ⟨b, rfl, h1⟩
    | succ i => simpa using e2 i x (by simpa using hx)
def RdT (P : Program) : Nat → TypeId → List V → Prop
 | 0, _, _ => False
 | f + 1, t, xs => match P.underlying t with
  | some .bool => ∃ b, xs = [.bool b]
  | some (.int k) => ∃ n, xs = [.int k n] ∧ (Lit.int k n).wf = true
  | some .string => ∃ s, xs = [.str s] ∧ s.length ≤ reachBytes
  | some (.slice e) => xs = [.nilslice] ∨ ∃ (xss : List (List V)), xs = [.isl xss.flatten xss.length (P.cellsOf e)] ∧ xss.length * P.bytesOf e ≤ reachBytes ∧ xss.length ≤ maxLen ∧ ∀ x ∈ xss, x.length = P.cellsOf e ∧ RdT P f e x
  | some (.struct fs) => ∃ (xss : List (List V)), xs = xss.flatten ∧ xss.length = fs.size ∧ ∀ (i : Nat) (fld : Field) (x : List V), fs[i]? = some fld → xss[i]? = some x → x.length = P.cellsOf fld.type ∧ RdT P f fld.type x
  | some (.array n e) => ∃ (xss : List (List V)), xs = xss.flatten ∧ xss.length = n ∧ ∀ x ∈ xss, x.length = P.cellsOf e ∧ RdT P f e x
  | _ => False
def tiles (P : Program) : List Field → Nat → Option Nat
 | [], n => some n
 | f :: fs, n => if f.offset = n then tiles P fs (n + P.cellsOf f.type) else none
def plainT (P : Program) : Nat → TypeId → Bool
 | 0, _ => false
 | f + 1, t => match P.underlying t with
  | some .bool | some (.int _) | some .string => true
  | some (.slice e) => decide (0 < P.cellsOf e) && plainT P f e
  | some (.struct fs) => (tiles P fs.toList 0 == some (P.cellsOf t)) && fs.toList.all fun x => plainT P f x.type
  | some (.array n e) => (n * P.cellsOf e == P.cellsOf t) && plainT P f e
  | _ => false
section
variable [Orc]
variable {P : Program} {W : World}
theorem ren0_at {W : World} {k : Nat} {C : Array Value} {t : TypeId} {fr : Nat × Nat} (h : W.heap[k]? = some (.cells C t fr)) : (ren0 W).m k = some C := by
 simp only [ren0, h]
def Abs (P : Program) (W : World) (f : Nat) (t : TypeId) (cs : List Value) : Prop := ∃ xs : List V, VL (VC (ren0 W)) xs cs ∧ RdT P f t xs
theorem abs_many {f : Nat} : ∀ (L : List (TypeId × List Value)), (∀ p ∈ L, Abs P W f p.1 p.2) → ∃ (xss : List (List V)), xss.length = L.length ∧
  ∀ (i : Nat) (p : TypeId × List Value), L[i]? = some p → ∃ x, xss[i]? = some x ∧ VL (VC (ren0 W)) x p.2 ∧ RdT P f p.1 x
 | [], _ => ⟨[], rfl, fun i p h => by simp at h⟩
 | p :: L, hA => by
  obtain ⟨xs, h4, h5⟩ := hA p (by simp)
  obtain ⟨xss, k4, k5⟩ := abs_many L (fun q hq => hA q (by simp [hq]))
  refine ⟨xs :: xss, by simp [k4], fun i q hq => ?_⟩
  cases i with
  | zero =>
   simp at hq
   subst hq
   exact ⟨xs, rfl, h4, h5⟩
  | succ i =>
   obtain ⟨x, hx, r1, r2⟩ := k5 i q (by simpa using hq)
   exact ⟨x, by simpa using hx, r1, r2⟩
theorem VL.flat {R : V → Value → Prop} : ∀ {xss : List (List V)} {css : List (List Value)}, xss.length = css.length → (∀ (i : Nat) (x : List V) (c : List Value), xss[i]? = some x → css[i]? = some c → VL R x c) → VL R xss.flatten css.flatten
 | [], [], _, _ => trivial
 | x :: xss, c :: css, h, hh => by
  simp only [List.flatten_cons]
  exact (hh 0 x c rfl rfl).append (VL.flat (by simpa using h) fun i y d hy hd => hh (i + 1) y d (by simpa using hy) (by simpa using hd))
 | [], _ :: _, h, _ => by simp at h
 | _ :: _, [], h, _ => by simp at h
theorem tiles_cut : ∀ (fs : List Field) (n m : Nat) (cs : List Value), tiles P fs n = some m → cs.length = m → n ≤ cs.length → (fs.map fun f => (cs.drop f.offset).take (P.cellsOf f.type)).flatten = cs.drop n ∧ ∀ f ∈ fs, f.offset + P.cellsOf f.type ≤ cs.length
 | [], n, m, cs, h, hm, hn => by
  simp only [tiles, Option.some.injEq] at h
  subst h
  simp only [List.map_nil, List.flatten_nil]
  refine ⟨?_, fun f hf => by cases hf⟩
  rw [List.drop_eq_nil_of_le (by omega)]
 | f :: fs, n, m, cs, h, hm, hn => by
  simp only [tiles] at h
  split at h
  ·rename_i e
   have hmono : ∀ (fs : List Field) (n m : Nat), tiles P fs n = some m → n ≤ m := by
    intro fs
    induction fs with
    | nil => intro n m h; simp only [tiles, Option.some.injEq] at h; omega
    | cons g fs ih =>
     intro n m h
     simp only [tiles] at h
     split at h
     ·have := ih _ _ h; omega
     ·cases h
   have hle := hmono _ _ _ h
   obtain ⟨h1, h2⟩ := tiles_cut fs _ m cs h hm (by omega)
   simp only [List.map_cons, List.flatten_cons, h1]
   subst e
   refine ⟨?_, fun g hg => ?_⟩
   ·rw [← List.drop_drop, List.take_append_drop]
   ·rcases List.mem_cons.1 hg with rfl | hg
    ·omega
    ·exact h2 g hg
  ·cases h
theorem blocks_cut (z : Nat) (cs : List Value) : ∀ (n k : Nat), cs.length = (k + n) * z → ((List.range' k n).map fun i => (cs.drop (i * z)).take z).flatten = cs.drop (k * z)
 | 0, k, h => by simp only [List.range'_zero, List.map_nil, List.flatten_nil]; rw [List.drop_eq_nil_of_le (by rw [h]; simp)]
 | n + 1, k, h => by
  rw [List.range'_succ, List.map_cons, List.flatten_cons, blocks_cut z cs n (k + 1) (by rw [h]; congr 1; omega)]
  rw [Nat.add_mul, Nat.one_mul, ← List.drop_drop, List.take_append_drop]
end
end Go.An
namespace Go.An
open Go
section
variable [Orc]
variable {P : Program} {W : World}
mutual
theorem VI_imm {m : Nat → Option (Array Value)} : ∀ {v : V} {u : Value}, VI m v u → v.imm = true
 | .int .., _, _ | .bool _, _, _ | .str _, _, _ | .nilptr, _, _ | .nilslice, _, _ | .nilmap, _, _ | .nilfn, _, _ | .nilif, _, _ => rfl
 | .isl [] n sz, u, h => rfl
 | .isl (c :: cs) n sz, u, h => by
  simp only [VI] at h
  obtain ⟨a, k, _, _, h⟩ := h
  obtain ⟨blk, base, C, _, _, h⟩ := h.resolve_left (by simp)
  simp only [V.imm]
  exact VIs_imm h
 | .ipt cs off, u, h => by
  simp only [VI] at h
  obtain ⟨blk, base, C, _, _, h⟩ := h
  simp only [V.imm]
  exact VIs_imm h
 | .undef, _, h | .ptr .., _, h | .slice .., _, h | .map _, _, h | .fn .., _, h | .agg _, _, h | .tup _, _, h => by simp only [VI] at h
theorem VIs_imm {m : Nat → Option (Array Value)} : ∀ {xs : List V} {C : Array Value} {i : Nat}, VIs m xs C i → immL xs = true
 | [], _, _, _ => rfl
 | x :: xs, C, i, h => by
  simp only [VIs] at h
  obtain ⟨⟨u, _, _, h1⟩, h2⟩ := h
  simp only [immL, Bool.and_eq_true]
  exact ⟨VI_imm h1, VIs_imm h2⟩
end
theorem immL_flat {xss : List (List V)} (h : ∀ x ∈ xss, immL x = true) : immL xss.flatten = true :=
 immL_iff.2 fun v hv => by
  obtain ⟨x, h1, h2⟩ := List.mem_flatten.1 hv
  exact immL_iff.1 (h x h1) v h2
theorem RdT.imm : ∀ (f : Nat) {t : TypeId} {xs : List V}, RdT P f t xs → immL xs = true
 | 0, _, _, h => h.elim
 | f + 1, t, xs, h => by
  unfold RdT at h
  split at h
  ·obtain ⟨b, rfl⟩ := h; rfl
  ·obtain ⟨n, rfl, _⟩ := h; rfl
  ·obtain ⟨s, rfl, _⟩ := h; rfl
  ·rcases h with rfl | ⟨xss, rfl, _, _, h⟩
   ·rfl
   ·simp only [immL, V.imm, Bool.and_true]
    exact immL_flat fun x hx => RdT.imm f (h x hx).2
  ·obtain ⟨xss, rfl, hl, h3⟩ := h
   refine immL_flat fun y hy => ?_
   obtain ⟨i, hi⟩ := List.getElem?_of_mem hy
   have hlt : i < Array.size _ := hl ▸ (List.getElem?_eq_some_iff.1 hi).1
   exact RdT.imm f (h3 i _ y (Array.getElem?_eq_getElem hlt) hi).2
  ·obtain ⟨xss, rfl, hl, h3⟩ := h
   exact immL_flat fun y hy => RdT.imm f (h3 y hy).2
  ·exact h.elim
theorem flat_get {α : Type} {z : Nat} (hz : 0 < z) : ∀ (css : List (List α)), (∀ c ∈ css, c.length = z) → ∀ j : Nat, css.flatten[j]? = (css[j / z]?).bind fun c => c[j % z]?
 | [], _, j => by simp
 | c :: css, h, j => by
  have hc := h c (by simp)
  rw [List.flatten_cons, List.getElem?_append]
  split
  ·rename_i hlt
   rw [hc] at hlt
   rw [Nat.div_eq_of_lt hlt, Nat.mod_eq_of_lt hlt]
   rfl
  ·rename_i hge
   rw [hc] at hge ⊢
   rw [flat_get hz css (fun d hd => h d (by simp [hd]))]
   obtain ⟨k, rfl⟩ : ∃ k, j = k + z := ⟨j - z, by omega⟩
   rw [Nat.add_sub_cancel, Nat.add_div_right _ hz, Nat.add_mod_right]
   rfl
theorem weights_all {Hh : Type} {e : TypeId} : ∀ {ds : List (DataW Hh)} {d : DataW Hh}, d ∈ ds → ∀ x ∈ d.weights P e, x ∈ DataW.weightsAll P e ds
 | d0 :: ds, d, hd, x, hx => by
  rw [DataW.weightsAll]
  rcases List.mem_cons.1 hd with rfl | hd
  ·exact List.mem_append_left _ hx
  ·exact List.mem_append_right _ (weights_all hd x hx)
theorem weights_each {Hh : Type} : ∀ {ts : List TypeId} {ds : List (DataW Hh)} {i : Nat} {t : TypeId} {d : DataW Hh}, ts[i]? = some t → ds[i]? = some d → ∀ x ∈ d.weights P t, x ∈ DataW.weightsEach P ts ds
 | t0 :: ts, d0 :: ds, i, t, d, ht, hd, x, hx => by
  rw [DataW.weightsEach]
  cases i with
  | zero =>
   simp at ht hd
   subst ht hd
   exact List.mem_append_left _ hx
  | succ i => exact List.mem_append_right _ (weights_each (by simpa using ht) (by simpa using hd) x hx)
 | [], _, i, _, _, ht, _, _, _ => by simp at ht
 | _ :: _, [], i, _, _, _, hd, _, _ => by simp at hd
theorem cells_get {a : Addr} {n : Nat} {cs : List Value} (h : W.cells? 0 a n = some cs) : cs.length = n ∧ ∀ j, j < n → W.cell? (a.add j) = cs[j]? := by
 unfold World.cells? at h
 rw [if_pos (Nat.zero_le _)] at h
 obtain ⟨h1, h2⟩ := mapM_get h
 rw [List.length_range] at h1
 refine ⟨h1, fun j hj => ?_⟩
 obtain ⟨y, hy, e⟩ := h2 j j (by rw [List.getElem?_range hj])
 rw [hy, e]
theorem cell_at {a : Addr} {v : Value} (h : W.cell? a = some v) : a.spot = none ∧ ∃ C te fr, W.heap[a.block]? = some (.cells C te fr) := by
 unfold World.cell? at h
 split at h
 ·rename_i C te fr hC
  split at h
  ·cases h
  ·rename_i hs
   exact ⟨by simpa using hs, C, te, fr, hC⟩
 ·cases h
theorem cell_lit {b o : Nat} {C : Array Value} {te : TypeId} {fr : Nat × Nat} (hC : W.heap[b]? = some (.cells C te fr)) : W.cell? ⟨b, o, none⟩ = C[o]? := by
 simp [World.cell?, hC]
theorem abs_cells {Hh : Type} {enc : TypeId × Value → Hh} : ∀ (m f : Nat) (t : TypeId) (cs : List Value) (d : DataW Hh) (ps : List MemPlace), DataW.trod enc P W 0 (fun _ => true) true f t cs = some (d, ps) → plainT P m t = true →
  (∀ x ∈ d.weights P t, x ≤ reachBytes) → Abs P W m t cs
 | 0, _, _, _, _, _, _, h, _ => by cases h
 | m + 1, f, t, cs, d, ps, h, hp, hw => by
  unfold plainT at hp
  split at hp
  ·rename_i hu
   obtain ⟨b, rfl, e⟩ := DataW.trod_bool hu h
   refine ⟨[.bool b], ⟨rfl, trivial⟩, ?_⟩
   unfold RdT
   rw [hu]
   exact ⟨b, rfl⟩
  ·rename_i k hu
   obtain ⟨n, rfl, e, hwf⟩ := DataW.trod_int hu h
   refine ⟨[.int k n], ⟨rfl, trivial⟩, ?_⟩
   unfold RdT
   rw [hu]
   exact ⟨n, rfl, hwf⟩
  ·rename_i hu
   obtain ⟨s, rfl, e, _⟩ := DataW.trod_string hu h
   injection e with e1 e2
   refine ⟨[.str s.data.toList], ⟨by simp [VC, VB], trivial⟩, ?_⟩
   unfold RdT
   rw [hu]
   refine ⟨_, rfl, ?_⟩
   rw [e1, DataW.weights] at hw
   exact hw _ (by simp)
  ·rename_i e hu
   simp only [Bool.and_eq_true, decide_eq_true_eq] at hp
   obtain ⟨hz, hpe⟩ := hp
   rcases DataW.trod_slice hu h with ⟨rfl, _⟩ | ⟨a, len, cap, elems, rest, n, rfl, rfl, e1, _, hlc, hcm, hel, hget, hrest, _⟩
   ·refine ⟨[.nilslice], ⟨rfl, trivial⟩, ?_⟩
    unfold RdT
    rw [hu]
    exact .inl rfl
   ·injection e1 with e1 e2
    rw [e1, DataW.weights, hu] at hw
    simp only at hw
    let css : List (List Value) := (List.range len).map fun i => (W.cells? 0 (a.add (i * P.cellsOf e)) (P.cellsOf e)).getD []
    have hcss : ∀ i, i < len → ∃ c, css[i]? = some c ∧ W.cells? 0 (a.add (i * P.cellsOf e)) (P.cellsOf e) = some c ∧ ∃ y, elems[i]? = some y ∧ DataW.trod enc P W 0 (fun _ => true) true n e c = some y := by
     intro i hi
     have h1 := hget i hi
     rw [List.getElem?_eq_getElem (by omega)] at h1
     obtain ⟨c, hc, hy⟩ := Option.bind_eq_some_iff.1 h1
     refine ⟨c, ?_, hc, _, List.getElem?_eq_getElem (by omega), hy⟩
     show ((List.range len).map _)[i]? = _
     rw [List.getElem?_map, List.getElem?_range hi, Option.map_some, hc]
     rfl
    have hcl : css.length = len := by simp [css]
    have hone : ∀ c ∈ css, c.length = P.cellsOf e := by
     intro c hc
     obtain ⟨i, hi⟩ := List.getElem?_of_mem hc
     have hlt : i < len := hcl ▸ (List.getElem?_eq_some_iff.1 hi).1
     obtain ⟨c', h1, h2, _⟩ := hcss i hlt
     rw [hi] at h1
     injection h1 with h1
     subst h1
     exact (cells_get h2).1
    obtain ⟨xss, hlx, hxs⟩ := abs_many (P := P) (W := W) (f := m) (css.map fun c => (e, c)) (by
     intro p hp
     obtain ⟨c, hc, rfl⟩ := List.mem_map.1 hp
     obtain ⟨i, hi⟩ := List.getElem?_of_mem hc
     have hlt : i < len := hcl ▸ (List.getElem?_eq_some_iff.1 hi).1
     obtain ⟨c', h1, h2, y, h3, h4⟩ := hcss i hlt
     rw [hi] at h1
     injection h1 with h1
     subst h1
     refine abs_cells m n e c y.1 y.2 h4 hpe (fun x hx' => hw x (List.mem_cons_of_mem _ (List.mem_append_left _ ?_)))
     exact weights_all (List.mem_map.2 ⟨y, List.mem_of_getElem? h3, rfl⟩) x hx')
    rw [List.length_map, hcl] at hlx
    have hxs' : ∀ (i : Nat) (x : List V), xss[i]? = some x → ∃ c, css[i]? = some c ∧ VL (VC (ren0 W)) x c ∧ RdT P m e x := by
     intro i x hxi
     have hlt : i < css.length := by rw [hcl, ← hlx]; exact (List.getElem?_eq_some_iff.1 hxi).1
     obtain ⟨x', h1, h2, h3⟩ := hxs i (e, css[i]) (by rw [List.getElem?_map, List.getElem?_eq_getElem hlt]; rfl)
     rw [hxi] at h1
     injection h1 with h1
     subst h1
     exact ⟨css[i], List.getElem?_eq_getElem hlt, h2, h3⟩
    have hflat : VL (VC (ren0 W)) xss.flatten css.flatten := VL.flat (by rw [hlx, hcl]) fun i x c h1 h2 => by
     obtain ⟨c', h3, h4, _⟩ := hxs' i x h1
     rw [h2] at h3
     injection h3 with h3
     exact h3 ▸ h4
    have himm : immL xss.flatten = true := immL_flat fun x hx => by
     obtain ⟨i, hi⟩ := List.getElem?_of_mem hx
     obtain ⟨_, _, _, h⟩ := hxs' i x hi
     exact h.imm m
    have hin : xss.flatten = [] ∨ ∃ blk base C, a = ⟨blk, base, none⟩ ∧ (ren0 W).m blk = some C ∧ VIs (ren0 W).m xss.flatten C base := by
     rcases Nat.eq_zero_or_pos len with h0 | hpos
     ·left
      have : xss = [] := List.eq_nil_of_length_eq_zero (by omega)
      rw [this]; rfl
     ·right
      obtain ⟨c0, _, hc0, _⟩ := hcss 0 hpos
      obtain ⟨h2, h3⟩ := cells_get hc0
      have h4 := h3 0 hz
      rw [Nat.zero_mul] at h4
      have h5 : (a.add 0).add 0 = a := rfl
      rw [h5, List.getElem?_eq_getElem (by omega)] at h4
      obtain ⟨h6, C, te, fr, hC⟩ := cell_at h4
      have ha : a = ⟨a.block, a.off, none⟩ := by cases a; simp_all
      refine ⟨a.block, a.off, C, ha, ren0_at hC, VIs_of himm fun j v hv => ?_⟩
      obtain ⟨u, h1, h2⟩ := hflat.get j hv
      have hj := h1
      rw [flat_get hz css hone] at hj
      obtain ⟨c, k1, k2⟩ := Option.bind_eq_some_iff.1 hj
      have hlt : j / P.cellsOf e < len := hcl ▸ (List.getElem?_eq_some_iff.1 k1).1
      obtain ⟨c', k3, k4, _⟩ := hcss _ hlt
      rw [k1] at k3
      injection k3 with k3
      subst k3
      have k5 := (cells_get k4).2 (j % P.cellsOf e) (Nat.mod_lt _ hz)
      rw [k2] at k5
      have k6 : (a.add (j / P.cellsOf e * P.cellsOf e)).add (j % P.cellsOf e) = ⟨a.block, a.off + j, none⟩ := by
       have h7 := Nat.div_add_mod' j (P.cellsOf e)
       rw [ha, add_lit, add_lit]
       congr 1
       simp only
       omega
      rw [k6, cell_lit hC] at k5
      have hc := immL_cells himm
      have hcv := List.all_eq_true.1 hc v (List.mem_of_getElem? hv)
      exact ⟨u, k5, h2, ((h2.va hcv).cell hcv).2⟩
    refine ⟨[.isl xss.flatten xss.length (P.cellsOf e)], ⟨?_, trivial⟩, ?_⟩
    ·show VI (ren0 W).m _ _
     simp only [VI]
     exact ⟨a, cap, by rw [hlx], by omega, hin⟩
    ·unfold RdT
     rw [hu]
     refine .inr ⟨xss, rfl, ?_, by rw [hlx]; omega, fun x hx' => ?_⟩
     ·rw [hlx]
      have := hw _ List.mem_cons_self
      refine Nat.le_trans (Nat.mul_le_mul_right _ ?_) this
      rw [List.length_map, hel]; omega
     ·obtain ⟨i, hi⟩ := List.getElem?_of_mem hx'
      obtain ⟨c, h1, h2, h3⟩ := hxs' i x hi
      exact ⟨h2.length.trans (hone c (List.mem_of_getElem? h1)), h3⟩
  ·rename_i fs hu
   simp only [Bool.and_eq_true, beq_iff_eq, List.all_eq_true] at hp
   obtain ⟨hti, hpl⟩ := hp
   obtain ⟨xs, n, rfl, e1, hlen, hxl, hget⟩ := DataW.trod_struct hu h
   injection e1 with e1 _
   rw [e1, DataW.weights, hu] at hw
   simp only at hw
   obtain ⟨hfl, hbound⟩ := tiles_cut fs.toList 0 _ cs hti hlen (Nat.zero_le _)
   obtain ⟨xss, hlx, hxs⟩ := abs_many (P := P) (W := W) (f := m) (fs.toList.map fun f => (f.type, (cs.drop f.offset).take (P.cellsOf f.type))) (by
    intro p hp
    obtain ⟨fl, hfm, rfl⟩ := List.mem_map.1 hp
    obtain ⟨i, hi⟩ := List.getElem?_of_mem hfm
    have hi' : fs[i]? = some fl := by simpa using hi
    have hg := hget i fl hi'
    have hlt : i < xs.length := by rw [hxl]; exact (Array.getElem?_eq_some_iff.1 hi').1
    rw [List.getElem?_eq_getElem hlt] at hg
    refine abs_cells m n fl.type _ _ _ hg (hpl fl hfm) (fun x hx' => hw x (weights_each (i := i) (t := fl.type) ?_ ?_ x hx'))
    ·rw [List.getElem?_map, hi]; rfl
    ·rw [List.getElem?_map, List.getElem?_eq_getElem hlt]; rfl)
   rw [List.length_map] at hlx
   refine ⟨xss.flatten, ?_, ?_⟩
   ·rw [List.drop_zero] at hfl
    rw [← hfl]
    refine VL.flat (by simp [hlx]) fun i x c h1 h2 => ?_
    rw [List.getElem?_map] at h2
    obtain ⟨fl, h3, rfl⟩ := Option.map_eq_some_iff.1 h2
    obtain ⟨x', h4, h5, _⟩ := hxs i _ (by rw [List.getElem?_map, h3]; rfl)
    rw [h1] at h4
    injection h4 with h4
    exact h4 ▸ h5
   ·unfold RdT
    rw [hu]
    refine ⟨xss, rfl, by simpa using hlx, fun i fl x h1 h2 => ?_⟩
    have h3 : fs.toList[i]? = some fl := by simpa using h1
    obtain ⟨x', h4, h5, h6⟩ := hxs i _ (by rw [List.getElem?_map, h3]; rfl)
    rw [h2] at h4
    injection h4 with h4
    subst h4
    refine ⟨h5.length.trans ?_, h6⟩
    have := hbound fl (List.mem_of_getElem? h3)
    simp only [List.length_take, List.length_drop]
    omega
  ·rename_i n e hu
   simp only [Bool.and_eq_true, beq_iff_eq] at hp
   obtain ⟨hti, hpl⟩ := hp
   obtain ⟨xs, n', rfl, e1, hlen, hxl, hget⟩ := DataW.trod_array hu h
   injection e1 with e1 _
   rw [e1, DataW.weights, hu] at hw
   simp only at hw
   have hfl := blocks_cut (P.cellsOf e) cs n 0 (by rw [hlen, ← hti]; simp)
   obtain ⟨xss, hlx, hxs⟩ := abs_many (P := P) (W := W) (f := m) ((List.range' 0 n).map fun i => (e, (cs.drop (i * P.cellsOf e)).take (P.cellsOf e))) (by
    intro p hp
    obtain ⟨i, hi, rfl⟩ := List.mem_map.1 hp
    rw [List.mem_range'_1] at hi
    have hg := hget i (by omega)
    have hlt : i < xs.length := by omega
    rw [List.getElem?_eq_getElem hlt] at hg
    exact abs_cells m n' e _ _ _ hg hpl (fun x hx' => hw x (weights_all (List.mem_map.2 ⟨xs[i], List.getElem_mem hlt, rfl⟩) x hx')))
   rw [List.length_map, List.length_range'] at hlx
   have hcut : ∀ i, i < n → ((cs.drop (i * P.cellsOf e)).take (P.cellsOf e)).length = P.cellsOf e := by
    intro i hi
    have h1 : (i + 1) * P.cellsOf e ≤ n * P.cellsOf e := Nat.mul_le_mul_right _ hi
    rw [Nat.add_mul, Nat.one_mul] at h1
    simp only [List.length_take, List.length_drop]
    omega
   have hat : ∀ (i : Nat) (x : List V), xss[i]? = some x → i < n ∧ VL (VC (ren0 W)) x ((cs.drop (i * P.cellsOf e)).take (P.cellsOf e)) ∧ RdT P m e x := by
    intro i x h1
    have hlt : i < n := by rw [← hlx]; exact (List.getElem?_eq_some_iff.1 h1).1
    obtain ⟨x', h4, h5, h6⟩ := hxs i (e, (cs.drop (i * P.cellsOf e)).take (P.cellsOf e)) (by rw [List.getElem?_map, List.getElem?_range' hlt]; simp)
    rw [h1] at h4
    injection h4 with h4
    subst h4
    exact ⟨hlt, h5, h6⟩
   refine ⟨xss.flatten, ?_, ?_⟩
   ·rw [Nat.zero_mul, List.drop_zero] at hfl
    rw [← hfl]
    refine VL.flat (by simp [hlx]) fun i x c h1 h2 => ?_
    obtain ⟨hlt, h3, _⟩ := hat i x h1
    rw [List.getElem?_map, List.getElem?_range' hlt] at h2
    simp only [Option.map_some, Option.some.injEq] at h2
    subst h2
    simpa using h3
   ·unfold RdT
    rw [hu]
    refine ⟨xss, rfl, hlx, fun x h1 => ?_⟩
    obtain ⟨i, hi⟩ := List.getElem?_of_mem h1
    obtain ⟨hlt, h3, h4⟩ := hat i x hi
    exact ⟨h3.length.trans (hcut i hlt), h4⟩
  ·cases hp
end
end Go.An
namespace Go.An
open Go Go.RowKit
def ArgT (P : Program) (m : Nat) (t : TypeId) (x : V) : Prop :=
 match P.underlying t with
 | some (.struct _) | some (.array _ _) => ∃ xs, x = .agg xs ∧ RdT P m t xs
 | _ => RdT P m t [x]
def ArgsT (P : Program) (m : Nat) : List TypeId → List V → Prop
 | [], [] => True
 | t :: ts, x :: xs => ArgT P m t x ∧ ArgsT P m ts xs
 | _, _ => False
section
variable [Orc]
variable {P : Program} {W : World} {base : Nat}
theorem abs_arg {Hh : Type} {enc : TypeId × Value → Hh} {m : Nat} {t : TypeId} {v : Value} {d : DataW Hh} {ps : List MemPlace} (h : DataW.Trod enc P W 0 (fun _ => true) true t v d ps) (hval : Value.okWide P W .any base t v) (hp : plainT P m t = true)
  (hw : ∀ x ∈ d.weights P t, x ≤ reachBytes) : ∃ x : V, VR (ren0 W) x v ∧ ArgT P m t x := by
 obtain ⟨f, hf⟩ := h
 obtain ⟨xs, h4, h5⟩ := abs_cells m f t _ d ps hf hp hw
 have agg : (∃ cs, v = .agg cs ∧ cs.size = P.cellsOf t ∧ Row.okWide P W .any base t cs) → VR (ren0 W) (.agg xs) v := by
  rintro ⟨cs, rfl, _⟩
  exact ⟨cs, rfl, h4⟩
 unfold Value.okWide at hval
 split at hval
 ·rename_i hu
  refine ⟨.agg xs, agg hval, ?_⟩
  unfold ArgT
  simp only [hu]
  exact ⟨xs, rfl, h5⟩
 ·rename_i hu
  refine ⟨.agg xs, agg hval, ?_⟩
  unfold ArgT
  simp only [hu]
  exact ⟨xs, rfl, h5⟩
 ·rename_i n1 n2
  have hcell : v.cells.toList = [v] := by
   cases v with
   | agg cs =>
    exfalso
    cases hu : P.underlying t with
    | none => simp [Cell.okWide, Cell.ok, hu] at hval
    | some u => cases u <;> simp [Cell.okWide, Cell.ok, hu] at hval
   | _ => rfl
  rw [hcell] at h4
  match xs, h4, h5 with
  | [x], h4, h5 =>
   refine ⟨x, h4.1.toVR, ?_⟩
   unfold ArgT
   split
   ·rename_i hu; exact absurd hu (n1 _)
   ·rename_i hu; exact absurd hu (n2 _ _)
   ·exact h5
theorem abs_args {Hh : Type} {enc : TypeId × Value → Hh} {m : Nat} : ∀ {ts : List TypeId} {vs : List Value} {ds : List (DataW Hh)} {ps : List MemPlace}, DataW.TrodAll enc P W 0 (fun _ => true) true ts vs ds ps →
  (∀ (i : Nat) t v, ts[i]? = some t → vs[i]? = some v → Value.okWide P W .any base t v) → ts.all (plainT P m) = true → (∀ x ∈ DataW.weightsEach P ts ds, x ≤ reachBytes) →
  ∃ xs : List V, VL (VR (ren0 W)) xs vs ∧ ArgsT P m ts xs
 | [], [], [], _, _, _, _, _ => ⟨[], trivial, trivial⟩
 | t :: ts, v :: vs, d :: ds, ps, h, hval, hp, hw => by
  obtain ⟨p, q, h1, h2, rfl⟩ := h
  simp only [List.all_cons, Bool.and_eq_true] at hp
  rw [DataW.weightsEach] at hw
  obtain ⟨x, k4, k5⟩ := abs_arg h1 (hval 0 t v rfl rfl) hp.1 (fun x hx => hw x (List.mem_append_left _ hx))
  obtain ⟨xs, l4, l5⟩ := abs_args h2 (fun i t v h1 h2 => hval (i + 1) t v (by simpa using h1) (by simpa using h2)) hp.2 (fun x hx => hw x (List.mem_append_right _ hx))
  exact ⟨x :: xs, ⟨k4, l4⟩, k5, l5⟩
 | [], _ :: _, _, _, h, _, _, _ => h.elim
 | [], [], _ :: _, _, h, _, _, _ => h.elim
 | _ :: _, [], _, _, h, _, _, _ => h.elim
 | _ :: _, _ :: _, [], _, h, _, _, _ => h.elim
theorem law_calls {Hh : Type} {enc : TypeId × Value → Hh} {Pr : Prims} (hm : P.follows .mixedOrders = true) (hnn : NoNum P) (hp : PrOk P Pr) {k m : Nat} {fn : Func} {c : Code} (hf : P.funcs[k]? = some fn) (hb : fn.body = some c) {ts : List TypeId} (hpl : ts.all (plainT P m) = true)
  (hlaw : ∀ xs, ArgsT P m ts xs → ∃ n H', callN P Pr n k xs [] = some (.bool true, H')) {args : Array Value} {ds : List (DataW Hh)} {ps : List MemPlace} (hA : DataW.TrodAll enc P W 0 (fun _ => true) true ts args.toList ds ps)
  (hval : ∀ (i : Nat) t v, ts[i]? = some t → args[i]? = some v → Value.okWide P W .any base t v) (hw : ∀ x ∈ DataW.weightsEach P ts ds, x ≤ reachBytes) :
  Calls P k args W fun e W' => e = .returned (.bool true) ∧ Below W.heap.size W W' := by
 obtain ⟨xs, h4, h5⟩ := abs_args hA (fun i t v h1 h2 => hval i t v h1 (by simpa using h2)) hpl hw
 have h2 := rel0 P W
 obtain ⟨n, H', hcall⟩ := hlaw xs h5
 have hent := callFunc_enter (W := W) hf hb (hnn k fn hf (by rw [hb]; rfl)) args
 have hfin : ∀ (u : Value) (ρ' : Ren) (W' : World), VR ρ' (.bool true) u → Step P W.heap.size (ren0 W) ρ' [] H' W W' → u = .bool true ∧ Below W.heap.size W W' := by
  intro u ρ' W' hu hst
  refine ⟨hu, hst.os, hst.tape, hst.output, hst.size, fun i hi => hst.frame i hi ?_⟩
  rintro ⟨j, b, l, hb, hl, ho, _⟩
  simp at hb
 rcases callN_sound hm hnn hp (callN_ne hcall) hcall h2 h4 with ⟨k', us, e1, hc⟩ | ⟨u, W', ρ', e1, _, _⟩
 ·rw [hent] at e1
  injection e1 with e1
  injection e1 with e1 e2
  subst e1 e2
  refine hc.mono fun e W' he => ?_
  obtain ⟨u, ρ', rfl, hu, hst⟩ := he
  obtain ⟨rfl, hbel⟩ := hfin u ρ' W' hu hst
  exact ⟨rfl, hbel⟩
 ·rw [hent] at e1
  injection e1 with e1 _
  cases e1
theorem trodAll_below {Hh : Type} {enc : TypeId × Value → Hh} (hl : laidOutB P = true) {W' : World} (hb : Below W.heap.size W W') : ∀ {ts : List TypeId} {vs : List Value} {ds : List (DataW Hh)} {ps : List MemPlace}, (ts.all fun t => P.readableRec t && decide (t < P.types.size)) = true →
  DataW.TrodAll enc P W 0 (fun _ => true) true ts vs ds ps → DataW.TrodAll enc P W' 0 (fun b => decide (b < W.heap.size)) true ts vs ds ps
 | [], [], [], _, _, h => h
 | t :: ts, v :: vs, d :: ds, ps, hr, h => by
  simp only [List.all_cons, Bool.and_eq_true, decide_eq_true_eq] at hr
  obtain ⟨p, q, h1, h2, e⟩ := h
  exact ⟨p, q, Below.trod hl hr.1.1 hr.1.2 h1 hb (by obtain ⟨m, hm⟩ := h1; exact DataW.trod_lt m _ _ _ hm), trodAll_below hl hb (by simpa using hr.2) h2, e⟩
 | [], _ :: _, _, _, _, h => h.elim
 | [], [], _ :: _, _, _, h => h.elim
 | _ :: _, [], _, _, _, h => h.elim
 | _ :: _, _ :: _, [], _, _, h => h.elim
theorem noNum_of (h : (P.funcs.toList.all fun f => f.name != "runtime.NumGoroutine") = true) : NoNum P := by
 intro k fn hf _
 have := List.all_eq_true.1 h fn (by
  have : P.funcs.toList[k]? = some fn := by simpa using hf
  exact List.mem_of_getElem? this)
 simpa using this
end
end Go.An
namespace Go.An
open Go
def refB : V → List (Nat × Nat)
 | .ptr id g _ => [(id, g)]
 | .slice id g _ _ _ _ => [(id, g)]
 | .map id => [(id, 0)]
 | _ => []
def fineB : V → Bool
 | .fn _ a b => a.isEmpty && b.isEmpty
 | .agg _ | .tup _ | .undef | .osl .. | .yld _ | .ifc .. => false
 | _ => true
def refA : V → List (Nat × Nat)
 | .agg cs => cs.flatMap refB
 | v => refB v
def fineA : V → Bool
 | .agg cs => cs.all fineB
 | v => fineB v
def refR : V → List (Nat × Nat)
 | .tup vs => vs.flatMap refA
 | v => refA v
def fineR : V → Bool
 | .tup vs => vs.all fineA
 | v => fineA v
def renB (f : Nat → Nat → Nat × Nat) : V → V
 | .ptr id g o => .ptr (f id g).1 (f id g).2 o
 | .slice id g o n sz cp => .slice (f id g).1 (f id g).2 o n sz cp
 | .map id => .map (f id 0).1
 | v => v
def renA (f : Nat → Nat → Nat × Nat) : V → V
 | .agg cs => .agg (cs.map (renB f))
 | v => renB f v
def renR (f : Nat → Nat → Nat × Nat) : V → V
 | .tup vs => .tup (vs.map (renA f))
 | v => renA f v
def Moved (ρ ρ2 : Ren) (f : Nat → Nat → Nat × Nat) (p : Nat × Nat) : Prop := ∀ l, ρ p.1 p.2 = some l → ρ2 (f p.1 p.2).1 (f p.1 p.2).2 = some l
section
variable {ρ ρ2 : Ren} {f : Nat → Nat → Nat × Nat}
theorem ren_VC (hM : ∀ k C, ρ.m k = some C → ∃ C', ρ2.m k = some C' ∧ Sub C C') {v : V} {u : Value} (hm : ∀ p ∈ refB v, Moved ρ ρ2 f p) (h0 : ∀ id, v = .map id → (f id 0).2 = 0) (hf : fineB v = true) (h : VC ρ v u) : VC ρ2 (renB f v) u := by
 cases v <;> simp only [fineB, Bool.false_eq_true, Bool.and_eq_true, List.isEmpty_iff] at hf <;> simp only [VC, VB, renB] at h ⊢ <;> first | exact h | exact VI.mono hM h | skip
 ·obtain ⟨l, hl, e⟩ := h
  exact ⟨l, hm (_, _) (by simp only [refB, List.mem_singleton]) l hl, e⟩
 ·obtain ⟨l, a, c, hl, e⟩ := h
  exact ⟨l, a, c, hm (_, _) (by simp only [refB, List.mem_singleton]) l hl, e⟩
 ·rename_i id
  obtain ⟨l, hl, e⟩ := h
  have := hm (_, _) (by simp only [refB, List.mem_singleton]) l hl
  simp only at this
  rw [h0 id rfl] at this
  exact ⟨l, this, e⟩
 ·obtain ⟨a, b, e, r, s⟩ := h
  obtain ⟨rfl, rfl⟩ := hf
  refine ⟨a, b, e, ?_, ?_⟩
  ·cases ha : a.toList with
   | nil => trivial
   | cons x l => rw [ha] at r; exact r.elim
  ·cases hb : b.toList with
   | nil => trivial
   | cons x l => rw [hb] at s; exact s.elim
theorem VL.ren {R R' : V → Value → Prop} {g : V → V} : ∀ {vs : List V} {us : List Value}, (∀ v ∈ vs, ∀ u, R v u → R' (g v) u) → VL R vs us → VL R' (vs.map g) us
 | [], [], _, _ => trivial
 | v :: vs, u :: us, h, r => ⟨h v (by simp) u r.1, VL.ren (fun x hx => h x (by simp [hx])) r.2⟩
 | [], _ :: _, _, r => r.elim
 | _ :: _, [], _, r => r.elim
theorem VA_of {v : V} (h : ∀ cs, v ≠ .agg cs) : refA v = refB v ∧ fineA v = fineB v ∧ renA f v = renB f v ∧ (∀ ρ u, VA ρ v u = VC ρ v u) ∧ ∀ ρ u, VC ρ (renB f v) u → VA ρ (renB f v) u := by
 cases v <;> first | exact absurd rfl (h _) | exact ⟨rfl, rfl, rfl, fun _ _ => rfl, fun _ _ h => h⟩
theorem VR_of {v : V} (h : ∀ cs, v ≠ .tup cs) : refR v = refA v ∧ fineR v = fineA v ∧ renR f v = renA f v ∧ (∀ ρ u, VR ρ v u = VA ρ v u) ∧ ∀ ρ u, VA ρ (renA f v) u → VR ρ (renA f v) u := by
 cases v <;> first | exact absurd rfl (h _) | exact ⟨rfl, rfl, rfl, fun _ _ => rfl, fun _ _ h => h⟩
theorem ren_VA (hM : ∀ k C, ρ.m k = some C → ∃ C', ρ2.m k = some C' ∧ Sub C C') {v : V} {u : Value} (hm : ∀ p ∈ refA v, Moved ρ ρ2 f p) (h0 : ∀ p ∈ refA v, p.2 = 0 → (f p.1 p.2).2 = 0) (hf : fineA v = true) (h : VA ρ v u) : VA ρ2 (renA f v) u := by
 have one : ∀ {v : V} {u : Value}, (∀ p ∈ refB v, Moved ρ ρ2 f p) → (∀ p ∈ refB v, p.2 = 0 → (f p.1 p.2).2 = 0) → fineB v = true → VC ρ v u → VC ρ2 (renB f v) u := fun a b c d =>
  ren_VC hM a (fun id e => by subst e; exact b (id, 0) (by simp [refB]) rfl) c d
 by_cases hv : ∃ cs, v = .agg cs
 ·obtain ⟨cs, rfl⟩ := hv
  obtain ⟨us, rfl, h⟩ := h
  refine ⟨us, rfl, VL.ren (fun x hx u hu => one (fun p hp => hm p ?_) (fun p hp => h0 p ?_) ?_ hu) h⟩
  ·simp only [refA, List.mem_flatMap]; exact ⟨x, hx, hp⟩
  ·simp only [refA, List.mem_flatMap]; exact ⟨x, hx, hp⟩
  ·simp only [fineA, List.all_eq_true] at hf; exact hf x hx
 ·obtain ⟨e1, e2, e3, e4, e5⟩ := VA_of (f := f) (v := v) fun cs e => hv ⟨cs, e⟩
  rw [e1] at hm h0
  rw [e2] at hf
  rw [e4] at h
  rw [e3]
  exact e5 _ _ (one hm h0 hf h)
theorem ren_VR (hM : ∀ k C, ρ.m k = some C → ∃ C', ρ2.m k = some C' ∧ Sub C C') {v : V} {u : Value} (hm : ∀ p ∈ refR v, Moved ρ ρ2 f p) (h0 : ∀ p ∈ refR v, p.2 = 0 → (f p.1 p.2).2 = 0) (hf : fineR v = true) (h : VR ρ v u) : VR ρ2 (renR f v) u := by
 by_cases hv : ∃ cs, v = .tup cs
 ·obtain ⟨vs, rfl⟩ := hv
  obtain ⟨us, rfl, h⟩ := h
  refine ⟨us, rfl, VL.ren (fun x hx u hu => ren_VA hM (fun p hp => hm p ?_) (fun p hp => h0 p ?_) ?_ hu) h⟩
  ·simp only [refR, List.mem_flatMap]; exact ⟨x, hx, hp⟩
  ·simp only [refR, List.mem_flatMap]; exact ⟨x, hx, hp⟩
  ·simp only [fineR, List.all_eq_true] at hf; exact hf x hx
 ·obtain ⟨e1, e2, e3, e4, e5⟩ := VR_of (f := f) (v := v) fun cs e => hv ⟨cs, e⟩
  rw [e1] at hm h0
  rw [e2] at hf
  rw [e4] at h
  rw [e3]
  exact e5 _ _ (ren_VA hM hm h0 hf h)
end
def V.leaf : V → Bool
 | .int .. | .bool _ | .str _ | .nilptr | .nilslice | .nilmap | .nilfn | .nilif => true
 | _ => false
def keepRow (H H' : Hp) (p : Nat × Nat) : Option (List V) :=
 if H.length ≤ p.1 then
  match H'[p.1]? with
  | some (.row g cs true) => if g = p.2 ∧ immL cs = true then some cs else none
  | _ => none
 else none
def fresh (n : Nat) (ps : List (Nat × Nat)) : List (Nat × Nat) := (ps.filter fun p => n ≤ p.1).eraseDups
def moveTo (n : Nat) (L : List (Nat × Nat)) (id g : Nat) : Nat × Nat := if id < n then (id, g) else (n + L.idxOf (id, g), 0)
open Classical in
noncomputable def gcC (H : Hp) (r : V × Hp) : V × Hp :=
 if r.2.take H.length = H ∧ fineR r.1 = true then
  let L := fresh H.length (refR r.1)
  match mapO (keepRow H r.2) L with
  | some rows => if (L.map (·.1)).Nodup then (renR (moveTo H.length L) r.1, H ++ rows.map fun cs => .row 0 cs true) else r
  | none => r
 else r
def GcOk1 (P : Program) (gc : Hp → V × Hp → V × Hp) : Prop := ∀ b0 ρ ρ' H H' W W' v u, Rel P b0 ρ H W → VR ρ' v u → Step P b0 ρ ρ' H H' W W' → ∃ ρ2, VR ρ2 (gc H (v, H')).1 u ∧ Step P b0 ρ ρ2 H (gc H (v, H')).2 W W'
theorem gcId_ok1 {P : Program} : GcOk1 P (fun _ r => r) := fun _ _ ρ' _ _ _ _ _ _ _ h1 h2 => ⟨ρ', h1, h2⟩
theorem imm_VC {ρ ρ2 : Ren} (hM : ∀ k C, ρ.m k = some C → ∃ C', ρ2.m k = some C' ∧ Sub C C') {v : V} {u : Value} (h : VC ρ v u) (hf : v.imm = true) : VC ρ2 v u := (VI.mono hM (h.vi hf)).vc
theorem keepRow_some {H H' : Hp} {p : Nat × Nat} {cs : List V} (h : keepRow H H' p = some cs) : H.length ≤ p.1 ∧ H'[p.1]? = some (.row p.2 cs true) ∧ immL cs = true := by
 unfold keepRow at h
 split at h
 ·rename_i h1
  split at h
  ·rename_i g cs' h2
   split at h
   ·rename_i h3
    injection h with h
    subst h
    obtain ⟨rfl, h3⟩ := h3
    exact ⟨h1, h2, h3⟩
   ·cases h
  ·cases h
 ·cases h
def renGc (ρ' : Ren) (n : Nat) (L : List (Nat × Nat)) : Ren := ⟨fun id g =>
 if id < n then ρ' id g else
 match L[id - n]? with
 | some p => if g = 0 then ρ' p.1 p.2 else none
 | none => none, ρ'.m⟩
theorem gc_step {P : Program} {b0 : Nat} {ρ ρ' : Ren} {H H' : Hp} {W W' : World} (hR : Rel P b0 ρ H W) (hst : Step P b0 ρ ρ' H H' W W') (hpre : H'.take H.length = H) {L : List (Nat × Nat)} {rows : List (List V)} (hrows : mapO (keepRow H H') L = some rows) (hnd : (L.map (·.1)).Nodup) :
  Step P b0 ρ (renGc ρ' H.length L) H (H ++ rows.map fun cs => .row 0 cs true) W W' ∧ ∀ p : Nat × Nat, (p.1 < H.length ∨ p ∈ L) → Moved ρ' (renGc ρ' H.length L) (moveTo H.length L) p := by
 obtain ⟨hlen, hget⟩ := mapO_get hrows
 have hold : ∀ {id : Nat}, id < H.length → H'[id]? = H[id]? := by
  intro id hid
  have : (H'.take H.length)[id]? = H[id]? := by rw [hpre]
  rw [← this, List.getElem?_take, if_pos hid]
 have hlo : ∀ {id g}, id < H.length → renGc ρ' H.length L id g = ρ' id g := fun h => if_pos h
 have hhi : ∀ {id g}, ¬ id < H.length → renGc ρ' H.length L id g = match L[id - H.length]? with | some p => if g = 0 then ρ' p.1 p.2 else none | none => none := fun h => if_neg h
 have hcut : (ρ'.cut H.length).Le (renGc ρ' H.length L) := by
  refine ⟨fun id g l h => ?_, fun _ C h => ⟨C, h, .refl C⟩⟩
  obtain ⟨h1, h2⟩ := Ren.cut_some h
  rw [hlo h1]; exact h2
 have hH2 : ∀ {id b}, (H ++ rows.map fun cs => AB.row 0 cs true)[id]? = some b → (id < H.length ∧ H[id]? = some b) ∨ (¬ id < H.length ∧ ∃ p cs, L[id - H.length]? = some p ∧ H.length ≤ p.1 ∧ H'[p.1]? = some (.row p.2 cs true) ∧ immL cs = true ∧ b = .row 0 cs true) := by
  intro id b h
  rw [List.getElem?_append] at h
  split at h
  ·exact .inl ⟨by assumption, h⟩
  ·rename_i hn
   rw [List.getElem?_map] at h
   obtain ⟨cs, hcs, rfl⟩ := Option.map_eq_some_iff.1 h
   obtain ⟨p, hp, hk⟩ := hget _ _ hcs
   obtain ⟨h1, h2, h3⟩ := keepRow_some hk
   exact .inr ⟨hn, p, cs, hp, h1, h2, h3, rfl⟩
 have look : ∀ {id b l}, (H ++ rows.map fun cs => AB.row 0 cs true)[id]? = some b → renGc ρ' H.length L id b.gen = some l → ∃ k b', H'[k]? = some b' ∧ b'.isTok = b.isTok ∧ ρ' k b'.gen = some l ∧ ((id < H.length ∧ k = id) ∨ (¬ id < H.length ∧ H.length ≤ k ∧ (L.map (·.1))[id - H.length]? = some k)) := by
  intro id b l hb hl
  rcases hH2 hb with ⟨h1, h2⟩ | ⟨h1, p, cs, h2, h3, h4, h5, rfl⟩
  ·rw [hlo h1] at hl
   exact ⟨id, b, by rw [hold h1]; exact h2, rfl, hl, .inl ⟨h1, rfl⟩⟩
  ·rw [hhi h1, h2] at hl
   exact ⟨p.1, _, h4, rfl, hl, .inr ⟨h1, h3, by rw [List.getElem?_map, h2]; rfl⟩⟩
 refine ⟨⟨⟨fun id b hb hne => ?_, fun id g b hb hbo => ?_, fun i j bi bj li lj hij hi hj hli hlj ho1 ho2 => ?_, fun id g hid => ?_, fun id b g hb hg => ?_, hst.rel.size, fun k C hk => ?_, fun id n l C hb hl hC => ?_⟩, ⟨fun id g l hl => ?_, fun k C h => hst.le.m k C h⟩, hst.frame, fun k ho => ?_, hst.size, by simp, hst.os, hst.tape, hst.output, hst.newm⟩, fun p hp l hl => ?_⟩
 ·rcases hH2 hb with ⟨h1, h2⟩ | ⟨h1, p, cs, h2, h3, h4, h5, rfl⟩
  ·obtain ⟨l, hl, hk⟩ := hst.rel.blk id b (by rw [hold h1]; exact h2) hne
   obtain ⟨l0, hl0, hk0⟩ := hR.blk id b h2 hne
   refine ⟨l, (hlo h1).trans hl, BlkOk.mono hcut (hk.cut (ρ' := ρ) (fun id g h => hR.fresh id g h) hk0)⟩
  ·obtain ⟨l, hl, hk⟩ := hst.rel.blk p.1 _ h4 rfl
   refine ⟨l, by rw [hhi h1, h2]; exact hl, ?_⟩
   obtain ⟨ho, C, t, fr, hC, hc, hr⟩ := hk
   refine ⟨ho, C, t, fr, hC, fun j v hv => ?_, hr⟩
   obtain ⟨u, a, r, c⟩ := hc j v hv
   exact ⟨u, a, imm_VC (ρ := ρ') (ρ2 := renGc ρ' H.length L) (fun _ C h => ⟨C, h, .refl C⟩) r (immL_iff.1 h5 v (List.mem_of_getElem? hv)), c⟩
 ·rcases hH2 hb with ⟨h1, h2⟩ | ⟨_, _, _, _, _, _, _, rfl⟩
  ·rw [hlo h1]
   exact hst.rel.hole id g b (by rw [hold h1]; exact h2) hbo
  ·cases hbo
 ·obtain ⟨k1, b1, h1, _, h2, h3⟩ := look hi hli
  obtain ⟨k2, b2, h4, _, h5, h6⟩ := look hj hlj
  refine hst.rel.inj k1 k2 b1 b2 li lj ?_ h1 h4 h2 h5 ho1 ho2
  rintro rfl
  rcases h3 with ⟨h3, rfl⟩ | ⟨h3, h3', h3''⟩ <;> rcases h6 with ⟨h6, e⟩ | ⟨h6, h6', h6''⟩
  ·exact hij e
  ·omega
  ·omega
  ·obtain ⟨hx1, hx2⟩ := List.getElem?_eq_some_iff.1 h3''
   obtain ⟨hy1, hy2⟩ := List.getElem?_eq_some_iff.1 h6''
   have hpw := List.pairwise_iff_getElem.1 hnd
   rcases Nat.lt_trichotomy (i - H.length) (j - H.length) with hlt | heq | hlt
   ·exact hpw _ _ hx1 hy1 hlt (hx2.trans hy2.symm)
   ·omega
   ·exact hpw _ _ hy1 hx1 hlt (hy2.trans hx2.symm)
 ·have hid' : H.length + L.length ≤ id := by simpa [hlen] using hid
  rw [hhi (by omega), List.getElem?_eq_none (by omega)]
 ·rcases hH2 hb with ⟨h1, h2⟩ | ⟨h1, p, cs, h2, h3, h4, h5, rfl⟩
  ·rw [hlo h1]
   exact hst.rel.gen id b g (by rw [hold h1]; exact h2) hg
  ·rw [hhi h1, h2]
   simp only [AB.gen] at hg
   exact if_neg (by omega)
 ·obtain ⟨h1, h2⟩ := hst.rel.imm k C hk
  refine ⟨h1, fun ho => ?_⟩
  obtain ⟨i, b, l, hb, ht, hl, hlo', hk'⟩ := ho
  obtain ⟨k1, b1, h3, ht', h4, _⟩ := look hb hl
  exact h2 ⟨k1, b1, l, h3, ht'.trans ht, h4, hlo', hk'⟩
 ·rcases hH2 hb with ⟨h1, h2⟩ | ⟨_, _, _, _, _, _, _, h⟩
  ·rw [hlo h1] at hl
   exact hst.rel.tok id n l C (by rw [hold h1]; exact h2) hl hC
  ·cases h
 ·have : id < H.length := by
   rcases Nat.lt_or_ge id H.length with h | h
   ·exact h
   ·rw [hR.fresh id g h] at hl; cases hl
  rw [hlo this]
  exact hst.le.r id g l hl
 ·obtain ⟨i, b, l, hb, hl, hlo', hk⟩ := ho
  obtain ⟨k1, b1, h1, _, h2, _⟩ := look hb hl
  exact hst.new k ⟨k1, b1, l, h1, h2, hlo', hk⟩
 ·unfold moveTo
  split
  ·rename_i h1; rw [hlo h1]; exact hl
  ·rename_i h1
   rcases hp with hp | hp
   ·exact absurd hp h1
   ·have hlt := List.idxOf_lt_length_of_mem hp
    rw [hhi (by simp), Nat.add_sub_cancel_left, List.getElem?_eq_getElem hlt, List.getElem_idxOf hlt]
    simpa using hl
theorem mem_fresh {n : Nat} {ps : List (Nat × Nat)} {p : Nat × Nat} (hp : p ∈ ps) (h : ¬ p.1 < n) : p ∈ fresh n ps := by
 unfold fresh
 rw [List.mem_eraseDups, List.mem_filter]
 exact ⟨hp, by simp; omega⟩
open Classical in
theorem gcC_ok1 {P : Program} : GcOk1 P gcC := by
 intro b0 ρ ρ' H H' W W' v u hR hv hst
 unfold gcC
 split
 ·rename_i hc
  obtain ⟨hpre, hf⟩ := hc
  simp only
  split
  ·rename_i rows hrows
   split
   ·rename_i hnd
    obtain ⟨h1, h2⟩ := gc_step hR hst hpre hrows hnd
    refine ⟨_, ren_VR (ρ := ρ') (ρ2 := renGc ρ' H.length (fresh H.length (refR v))) (fun _ C h => ⟨C, h, .refl C⟩) (fun p hp => h2 p ?_) (fun p hp e => ?_) hf hv, h1⟩
    ·by_cases h : p.1 < H.length
     ·exact .inl h
     ·exact .inr (mem_fresh hp h)
    ·unfold moveTo; split <;> simp [e]
   ·exact ⟨ρ', hv, hst⟩
  ·exact ⟨ρ', hv, hst⟩
 ·exact ⟨ρ', hv, hst⟩
theorem renB_id {n : Nat} {L : List (Nat × Nat)} {v : V} (h : ∀ p ∈ refB v, p.1 < n) : renB (moveTo n L) v = v := by
 cases v <;> simp only [renB] <;> simp only [refB, List.mem_singleton, forall_eq] at h <;> simp only [moveTo, if_pos h]
theorem map_id_of {g : V → V} : ∀ {l : List V}, (∀ x ∈ l, g x = x) → l.map g = l
 | [], _ => rfl
 | x :: l, h => by rw [List.map_cons, h x (by simp), map_id_of fun y hy => h y (by simp [hy])]
theorem renA_id {n : Nat} {L : List (Nat × Nat)} {v : V} (h : ∀ p ∈ refA v, p.1 < n) : renA (moveTo n L) v = v := by
 by_cases hv : ∃ cs, v = .agg cs
 ·obtain ⟨cs, rfl⟩ := hv
  simp only [renA]
  rw [map_id_of fun x hx => renB_id fun p hp => h p (by simp only [refA, List.mem_flatMap]; exact ⟨x, hx, hp⟩)]
 ·obtain ⟨e1, _, e3, _⟩ := VA_of (f := moveTo n L) (v := v) fun cs e => hv ⟨cs, e⟩
  rw [e3]
  exact renB_id (e1 ▸ h)
theorem renR_id {n : Nat} {L : List (Nat × Nat)} {v : V} (h : ∀ p ∈ refR v, p.1 < n) : renR (moveTo n L) v = v := by
 by_cases hv : ∃ cs, v = .tup cs
 ·obtain ⟨vs, rfl⟩ := hv
  simp only [renR]
  rw [map_id_of fun x hx => renA_id fun p hp => h p (by simp only [refR, List.mem_flatMap]; exact ⟨x, hx, hp⟩)]
 ·obtain ⟨e1, _, e3, _⟩ := VR_of (f := moveTo n L) (v := v) fun cs e => hv ⟨cs, e⟩
  rw [e3]
  exact renA_id (e1 ▸ h)
theorem gc_old {H H' : Hp} {v : V} (hpre : H'.take H.length = H) (hf : fineR v = true) (h : ∀ p ∈ refR v, p.1 < H.length) : gcC H (v, H') = (v, H) := by
 have e : fresh H.length (refR v) = [] := by
  unfold fresh
  rw [List.filter_eq_nil_iff.2 fun p hp => by have := h p hp; simp; omega]
  rfl
 unfold gcC
 rw [if_pos ⟨hpre, hf⟩]
 simp only [e, mapO, List.map_nil, List.nodup_nil, if_true, List.append_nil]
 rw [renR_id h]
theorem gc_one {H H' : Hp} {v : V} {id g : Nat} {cs : List V} (hpre : H'.take H.length = H) (hf : fineR v = true) (hid : H.length ≤ id) (hr : H'[id]? = some (.row g cs true)) (hcs : immL cs = true) (hL : fresh H.length (refR v) = [(id, g)]) : gcC H (v, H') = (renR (moveTo H.length [(id, g)]) v, H ++ [.row 0 cs true]) := by
 unfold gcC
 rw [if_pos ⟨hpre, hf⟩]
 have : keepRow H H' (id, g) = some cs := by
  unfold keepRow
  rw [if_pos hid]
  simp only [hr]
  simp only [hcs, and_self, if_true]
 simp [hL, mapO, this]
end Go.An
namespace Go.An
open Go
def inlK (n : Nat) (H : Hp) (f : Nat) : AB → Option AB
 | .row g cs own => (mapO (inlC n H f) cs).map fun xs => .row g xs own
 | .map kt es => (mapO (fun e => (inlA n H f e.2).map fun v => (e.1, v)) es).map (.map kt)
 | .hole => some .hole
 | .tok n => some (.tok n)
 | .siter s p => some (.siter s p)
 | .dfr b => some (.dfr b)
 | .loop _ => none
section
variable {P : Program} {b0 : Nat} {ρ ρ' : Ren} {H H' : Hp} {W W' : World}
theorem ck_VL {ρ2 : Ren} : ∀ {ks : List CK} {vs : List V} {us : List Value}, ckOks ks vs = true → VL (VC ρ) vs us → VL (VC ρ2) vs us
 | [], [], [], _, _ => trivial
 | k :: ks, v :: vs, u :: us, h, hv => by
  simp only [ckOks, Bool.and_eq_true] at h
  refine ⟨?_, ck_VL h.2 hv.2⟩
  have h1 := hv.1
  have h2 := h.1
  cases k <;> cases v <;> simp [ckOk] at h2 <;> exact h1
 | [], [], _ :: _, _, hv => hv.elim
 | [], _ :: _, _, h, _ => by simp [ckOks] at h
 | _ :: _, [], _, h, _ => by simp [ckOks] at h
 | _ :: _, _ :: _, [], _, hv => hv.elim
theorem key_rho {ρ2 : Ren} {kt : TypeId} {k : V} {u : Value} (hk : keyOk P kt k = true) (h : VA ρ k u) : VA ρ2 k u := by
 obtain ⟨ks, _, h2, _⟩ := keyOk_spec hk
 cases k
 case agg cs =>
  obtain ⟨us, e, r⟩ := h
  exact ⟨us, e, ck_VL h2 r⟩
 all_goals
  simp only [V.cells] at h2
  rcases ks with _ | ⟨c, _ | ⟨d, ks⟩⟩
  ·simp [ckOks] at h2
  ·cases c <;> simp [ckOks, ckOk] at h2 <;> exact h
  ·simp [ckOks] at h2
theorem inlK_gen {n f : Nat} {b b' : AB} (h : inlK n H' f b = some b') : b'.gen = b.gen ∧ b'.ho = b.ho ∧ b'.isTok = b.isTok := by
 cases b <;> simp only [inlK] at h
 ·obtain ⟨xs, _, rfl⟩ := Option.map_eq_some_iff.1 h; exact ⟨rfl, rfl, rfl⟩
 ·obtain ⟨xs, _, rfl⟩ := Option.map_eq_some_iff.1 h; exact ⟨rfl, rfl, rfl⟩
 ·injection h with h; subst h; exact ⟨rfl, rfl, rfl⟩
 ·injection h with h; subst h; exact ⟨rfl, rfl, rfl⟩
 ·injection h with h; subst h; exact ⟨rfl, rfl, rfl⟩
 ·cases h
 ·injection h with h; subst h; exact ⟨rfl, rfl, rfl⟩
theorem inlK_ok (hR' : Rel P b0 ρ' H' W') {n f : Nat} {b b' : AB} {l : Loc} (hb : BlkOk P b0 ρ' W' l b) (h : inlK n H' f b = some b') : BlkOk P b0 (frzR ρ' n H' W') W' l b' := by
 cases b with
 | row g cs own =>
  simp only [inlK] at h
  obtain ⟨xs, h1, rfl⟩ := Option.map_eq_some_iff.1 h
  obtain ⟨ho, C, t, fr, hC, hcr, hcap, hlo⟩ := hb
  have hl := (mapO_get h1).1
  refine ⟨ho, C, t, fr, hC, fun j v hv => ?_, fun e => ?_, hlo⟩
  ·obtain ⟨x, h2, h3⟩ := (mapO_get h1).2 j v hv
   obtain ⟨u, h4, h5, h6⟩ := hcr j x h2
   exact ⟨u, h4, inlC_ok hR' h5 h3, h6⟩
  ·rw [hl]; exact hcap e
 | map kt es =>
  simp only [inlK] at h
  obtain ⟨xs, h1, rfl⟩ := Option.map_eq_some_iff.1 h
  obtain ⟨ho, hb0, ents, clk, hC, hE⟩ := hb
  refine ⟨ho, hb0, ents, clk, hC, ⟨by rw [(mapO_get h1).1]; exact hE.size, fun i e he => ?_, hE.born⟩⟩
  obtain ⟨x, h2, h3⟩ := (mapO_get h1).2 i e he
  obtain ⟨v, h4, rfl⟩ := Option.map_eq_some_iff.1 h3
  obtain ⟨m, r1, r2, r3, r4, r5, r6⟩ := hE.at_ i x h2
  obtain ⟨r7, r8⟩ := inlA_ok hR' r3 h4
  exact ⟨m, r1, key_rho r4 r2, r7, r4, r8, r6⟩
 | hole => exact hb.elim
 | tok m =>
  simp only [inlK, Option.some.injEq] at h
  subst h
  obtain ⟨h0, h1, h2, h3, C, h4⟩ := hb
  obtain ⟨C', h5, _⟩ := frz_le hR' n _ _ h4
  exact ⟨h0, h1, h2, h3, C', h5⟩
 | siter s p =>
  simp only [inlK, Option.some.injEq] at h
  subst h
  exact hb
 | dfr b =>
  simp only [inlK, Option.some.injEq] at h
  subst h
  exact hb
 | loop L => simp [inlK] at h
open Classical in
noncomputable def frzK (H H' : Hp) (id : Nat) : Option AB := if H'[id]? = H[id]? then H[id]? else match H[id]?, H'[id]? with
 | some (.loop L), some (.loop L') => if L'.T = L.T then some (.loop L') else none
 | _, b => b.bind (inlK H.length H' 8)
noncomputable def gcF (H : Hp) (r : V × Hp) : V × Hp :=
 match inlR H.length r.2 8 r.1, mapO (frzK H r.2) (List.range H.length) with
 | some v, some bs => (v, bs)
 | _, _ => r
theorem gcF_ok1 : GcOk1 P gcF := by
 intro b0 ρ ρ' H H' W W' v u hR hv hst
 unfold gcF
 split
 ·rename_i v' bs hv' hbs
  simp only at hv' hbs ⊢
  have hR' := hst.rel
  have hM := frz_le hR' H.length
  have hbl : bs.length = H.length := by rw [(mapO_get hbs).1, List.length_range]
  have hat : ∀ {id : Nat} {b : AB}, bs[id]? = some b → id < H.length ∧ ∃ b1, H'[id]? = some b1 ∧ b.gen = b1.gen ∧ (b.ho = b1.ho ∧ b.isTok = b1.isTok) ∧ (∀ l, BlkOk P b0 ρ' W' l b1 → b1.ho = false → ρ' id b1.gen = some l → BlkOk P b0 (frzR ρ' H.length H' W') W' l b) := by
   intro id b hb
   have hlt : id < H.length := by rw [← hbl]; exact (List.getElem?_eq_some_iff.1 hb).1
   obtain ⟨x, h1, h2⟩ := (mapO_get hbs).2 id b hb
   rw [List.getElem?_range hlt] at h1
   injection h1 with h1
   subst h1
   refine ⟨hlt, ?_⟩
   unfold frzK at h2
   split at h2
   ·rename_i he
    refine ⟨b, by rw [he, h2], rfl, ⟨rfl, rfl⟩, fun l hk hne hl => ?_⟩
    obtain ⟨l0, hl0, hk0⟩ := hR.blk id b h2 hne
    have hcut := hk.cut (ρ' := ρ) (n := H.length) (fun i g h => hR.fresh i g h) hk0
    have hle2 : (ρ'.cut H.length).Le (frzR ρ' H.length H' W') := by
     refine ⟨fun i g l' h => ?_, hM⟩
     obtain ⟨h3, h4⟩ := Ren.cut_some h
     rw [frzR_r, if_pos h3]
     exact h4
    exact hcut.mono hle2
   ·split at h2
    ·rename_i L L' e1 e2
     split at h2
     ·rename_i hT
      injection h2 with h2
      subst h2
      refine ⟨_, e2, rfl, ⟨rfl, rfl⟩, fun l hk _ hl => ?_⟩
      obtain ⟨l0, hl0, hk0⟩ := hR.blk id _ e1 rfl
      have hle2 : (ρ'.cut H.length).Le (frzR ρ' H.length H' W') := by
       refine ⟨fun i g l' h => ?_, hM⟩
       obtain ⟨h3, h4⟩ := Ren.cut_some h
       rw [frzR_r, if_pos h3]
       exact h4
      obtain ⟨k1, k2, r, k3, k4⟩ := hk
      obtain ⟨_, _, r0, _, k5⟩ := hk0
      exact ⟨k1, k2, r, k3, ⟨fun i => ((k4.fr i).cut (ρ' := ρ) (n := H.length) (fun i g h => hR.fresh i g h) (hT ▸ k5.fr i)).mono hle2, k4.sz, k4.ps, k4.ca, k4.cb, k4.st, k4.pend⟩⟩
     ·cases h2
    ·obtain ⟨b1, h3, h4⟩ := Option.bind_eq_some_iff.1 h2
     obtain ⟨h5, h6⟩ := inlK_gen h4
     exact ⟨b1, h3, h5, h6, fun l hk _ _ => inlK_ok hR' hk h4⟩
  have hownR : ∀ k, OwnedR (frzR ρ' H.length H' W') bs k → ∃ i b1 l, i < H.length ∧ H'[i]? = some b1 ∧ b1.isTok = false ∧ ρ' i b1.gen = some l ∧ l.own = true ∧ l.blk = k := by
   rintro k ⟨i, b, l, hb, ht, hl, ho, e⟩
   obtain ⟨h1, b1, h2, h3, h4, _⟩ := hat hb
   rw [frzR_r, if_pos h1, h3] at hl
   exact ⟨i, b1, l, h1, h2, h4.2 ▸ ht, hl, ho, e⟩
  have hown : ∀ k, Owned (frzR ρ' H.length H' W') bs k → ∃ i b1 l, i < H.length ∧ H'[i]? = some b1 ∧ ρ' i b1.gen = some l ∧ l.own = true ∧ l.blk = k := by
   rintro k ⟨i, b, l, hb, hl, ho, e⟩
   obtain ⟨h1, b1, h2, h3, _⟩ := hat hb
   rw [frzR_r, if_pos h1, h3] at hl
   exact ⟨i, b1, l, h1, h2, hl, ho, e⟩
  have hm : ∀ k C, frzM ρ' H.length H' W' k = some C → (∃ A t fr, W'.heap[k]? = some (.cells A t fr) ∧ Sub C A) ∧ ((∃ id g cs l, H.length ≤ id ∧ H'[id]? = some (.row g cs true) ∧ ρ' id g = some l ∧ l.blk = k) ∨ ρ'.m k = some C) := by
   intro k C hk
   unfold frzM at hk
   split at hk
   ·rename_i he
    refine ⟨?_, .inl he⟩
    split at hk
    ·rename_i C' t fr hC
     injection hk with hk
     subst hk
     exact ⟨_, t, fr, hC, .refl _⟩
    ·cases hk
   ·exact ⟨(hR'.imm k C hk).1, .inr hk⟩
  have himm : ∀ k C, (frzR ρ' H.length H' W').m k = some C → (∃ A t fr, W'.heap[k]? = some (.cells A t fr) ∧ Sub C A) ∧ ¬ OwnedR (frzR ρ' H.length H' W') bs k := by
   intro k C hk
   obtain ⟨h1, h2⟩ := hm k C hk
   refine ⟨h1, fun ho => ?_⟩
   obtain ⟨i, b1, l, h3, h4, ht, h5, h6, h7⟩ := hownR k ho
   rcases h2 with ⟨id, g, cs, l2, k1, k2, k3, k4⟩ | h2
   ·obtain ⟨_, _, _, hlo⟩ := frz_new hR' k1 k2 k3
    exact hR'.inj i id b1 _ l l2 (by omega) h4 k2 h5 k3 h6 hlo (h7.trans k4.symm)
   ·exact (hR'.imm k C h2).2 ⟨i, b1, l, h4, ht, h5, h6, h7⟩
  have hlen := hst.len
  refine ⟨frzR ρ' H.length H' W', inlR_ok hR' hv hv', ⟨⟨fun id b hb hne => ?_, fun id g b hb hbo => ?_, fun i j bi bj li lj hij hi hj hli hlj ho1 ho2 => ?_, fun id g hid => ?_, fun id b g hb hg => ?_, hR'.size, himm, fun id m l C hb hl hC => ?_⟩, ⟨fun id g l hl => ?_, fun k C hk => let ⟨C1, k1, k2⟩ := hst.le.m k C hk; let ⟨C2, k3, k4⟩ := hM k C1 k1; ⟨C2, k3, k2.trans k4⟩⟩, hst.frame, fun k ho => ?_, hst.size, by rw [hbl]; exact Nat.le_refl _, hst.os, hst.tape, hst.output, fun k C hk => ?_⟩⟩
  ·obtain ⟨h1, b1, h2, h3, h4, h5⟩ := hat hb
   have hne1 : b1.ho = false := h4.1 ▸ hne
   obtain ⟨l, hl, hk⟩ := hR'.blk id b1 h2 hne1
   exact ⟨l, by rw [frzR_r, if_pos h1, h3]; exact hl, h5 l hk hne1 hl⟩
  ·obtain ⟨h1, b1, h2, h3, h4, _⟩ := hat hb
   rw [frzR_r, if_pos h1]
   exact hR'.hole id g b1 h2 (h4.1 ▸ hbo)
  ·obtain ⟨h1, b1, h2, h3, _⟩ := hat hi
   obtain ⟨h4, b2, h5, h6, _⟩ := hat hj
   rw [frzR_r, if_pos h1, h3] at hli
   rw [frzR_r, if_pos h4, h6] at hlj
   exact hR'.inj i j b1 b2 li lj hij h2 h5 hli hlj ho1 ho2
  ·rw [hbl] at hid
   rw [frzR_r, if_neg (by omega)]
  ·obtain ⟨h1, b1, h2, h3, _⟩ := hat hb
   rw [frzR_r, if_pos h1]
   rw [h3] at hg
   exact hR'.gen id b1 g h2 hg
  ·obtain ⟨h1, b1, h2, h3, h4, _⟩ := hat hb
   rw [frzR_r, if_pos h1] at hl
   have hb1 : b1 = .tok m := by
    have h5 : true = b1.isTok := h4.2
    cases b1 <;> simp only [AB.isTok, reduceCtorEq] at h5
    simp only [AB.gen] at h3
    rw [h3]
   subst hb1
   rcases (hm _ C hC).2 with ⟨id2, g, cs, l2, k1, k2, k3, k4⟩ | k
   ·obtain ⟨_, _, _, hlo⟩ := frz_new hR' k1 k2 k3
    exact absurd k4.symm (hR'.inj id id2 _ _ l l2 (by omega) h2 k2 hl k3 (hR'.at_ h2 hl).2.1 hlo)
   ·exact hR'.tok id m l C h2 hl k
  ·have : id < H.length := by
    rcases Nat.lt_or_ge id H.length with h | h
    ·exact h
    ·rw [hR.fresh id g h] at hl; cases hl
   rw [frzR_r, if_pos this]
   exact hst.le.r id g l hl
  ·obtain ⟨i, b1, l, h3, h4, h5, h6, h7⟩ := hown k ho
   exact hst.new k ⟨i, b1, l, h4, h5, h6, h7⟩
  ·obtain ⟨h1, h2⟩ := hm k C hk
   rcases h2 with ⟨id, g, cs, l2, k1, k2, k3, k4⟩ | h2
   ·obtain ⟨_, _, _, hlo⟩ := frz_new hR' k1 k2 k3
    exact .inr (hst.new k ⟨id, _, l2, k2, k3, hlo, k4⟩)
   ·exact hst.newm k C h2
 ·exact ⟨ρ', hv, hst⟩
end
noncomputable def gcM (md : Nat → Nat) (k : Nat) : Hp → V × Hp → V × Hp := if md k = 0 then (fun _ r => r) else if md k = 1 then gcF else gcC
def GcOk (P : Program) (gc : Nat → Hp → V × Hp → V × Hp) : Prop := ∀ k, GcOk1 P (gc k)
theorem gcM_ok {P : Program} (md : Nat → Nat) : GcOk P (gcM md) := by
 intro k
 unfold gcM
 split
 ·exact gcId_ok1
 ·split
  ·exact gcF_ok1
  ·exact gcC_ok1
theorem gcId_ok {P : Program} : GcOk P (fun _ _ r => r) := fun _ => gcId_ok1
end Go.An
namespace Go.An
open Go Go.Conc.Locks
def wordV (x y : Int) : List V → Hp → Option (V × Hp)
 | [.ptr id g off], H => (getRow H id g).bind fun r => match r.1[off]? with
  | some (.int .i32 n) => if n = x ∧ r.2 = true then some (.tup [], H.set id (.row g (setAt r.1 off [.int .i32 y]) true)) else none
  | _ => none
 | _, _ => none
def muPr (L : MuLink) (gc : Nat → Hp → V × Hp → V × Hp := fun _ _ r => r) : Prims :=
 ⟨fun k => if k = L.lock then some (wordV 0 1) else if k = L.unlock then some (wordV 1 0) else none,
  fun k => if k = L.unlock then some fun a H => (wordV 1 0 a H).map (·.2) else none, gc⟩
section
variable [Orc]
variable {P : Program} {b0 : Nat} {ρ : Ren} {H H' : Hp} {W : World}
theorem word_sim {x y : Int} {args : List V} {v : V} (h : wordV x y args H = some (v, H')) (hR : Rel P b0 ρ H W) {us : Array Value} (ha : VL (VR ρ) args us.toList) :
  ∃ a : Addr, us = #[.pointer (some a)] ∧ W.cell? a = some (.int .i32 x) ∧ W.frozen? a = false ∧ v = .tup [] ∧ Step P b0 ρ ρ H H' W (W.setCell a (.int .i32 y)) := by
 unfold wordV at h
 split at h
 ·rename_i id g off
  cases hg : getRow H id g with
  | none => rw [hg] at h; cases h
  | some r =>
   rw [hg] at h
   simp only [Option.bind_some] at h
   split at h
   ·rename_i n hr
    split at h
    ·rename_i hc
     obtain ⟨rfl, ho⟩ := hc
     simp only [Option.some.injEq, Prod.mk.injEq] at h
     obtain ⟨rfl, rfl⟩ := h
     obtain ⟨l, hl, hu⟩ : ∃ l, ρ id g = some l ∧ us = #[.pointer (some ⟨l.blk, l.base + off, none⟩)] := by
      obtain ⟨us, rfl⟩ : ∃ l, us = List.toArray l := ⟨us.toList, by simp⟩
      match us, ha with
      | [u], ha =>
       obtain ⟨l, hl, hu⟩ := ha.1
       exact ⟨l, hl, by rw [hu]⟩
     obtain ⟨hid, hlo, hlb, C, t, fr, hC, hcr, hfr, hCs, hlt⟩ := row_own hR hg ho hl
     obtain ⟨u', hu', hv', _⟩ := hcr off _ hr
     obtain rfl : u' = .int .i32 n := hv'
     have hb : l.base + off < C.size := (Array.getElem?_eq_some_iff.1 hu').1
     have hoff : off < r.1.length := (List.getElem?_eq_some_iff.1 hr).1
     refine ⟨_, hu, ?_, ?_, rfl, ?_⟩
     ·simpa [World.cell?, hC] using hu'
     ·unfold World.frozen?
      rw [hC]
      have := hfr.at (l.base + off) hb
      simp only [Bool.and_eq_false_iff, decide_eq_false_iff_not]
      omega
     ·rw [setCell_eq_setRow W l.blk (l.base + off) C t fr _ hC]
      have hs := hcr.set (vs := [.int .i32 y]) (us := [.int .i32 y]) (off := off) ⟨rfl, trivial⟩ (by simp [Value.oneCell']) hoff (by omega)
      have e : (C.toList.take (l.base + off) ++ [Value.int .i32 y] ++ C.toList.drop (l.base + off + 1)).toArray = C.setIfInBounds (l.base + off) (.int .i32 y) := by
       apply Array.ext'
       rw [Array.toList_setIfInBounds]
       rw [List.set_eq_take_append_cons_drop]
       simp [hb]
      simp only [List.length_singleton] at hs
      rw [e] at hs
      exact hR.put hid rfl hl hs (by simp [hCs]) (by rw [setAt_length _ _ _ hoff]; exact hlt)
    ·cases h
   ·cases h
 ·cases h
theorem muPr_ok {L : MuLink} (hl : MuLib P L) {gc : Nat → Hp → V × Hp → V × Hp} (hgc : GcOk P gc) : PrOk P (muPr L gc) := by
 have ent : ∀ (k : Nat) (fn : Func) (W : World) (us : Array Value), P.funcs[k]? = some fn → fn.body.isSome = true → fn.name ≠ "runtime.NumGoroutine" → (callFunc k us).run P W = .ok (.enter k us) W := by
  intro k fn W us hf hb hn
  obtain ⟨c, hc⟩ := Option.isSome_iff_exists.1 hb
  exact callFunc_enter hf hc hn us
 have elock : ∀ W us, (callFunc L.lock us).run P W = .ok (.enter L.lock us) W := fun W us => ent _ _ W us hl.f_lock rfl (by simp [lockFn])
 have eunlock : ∀ W us, (callFunc L.unlock us).run P W = .ok (.enter L.unlock us) W := fun W us => ent _ _ W us hl.f_unlock rfl (by simp [unlockFn])
 refine ⟨fun k p hk args H v H' h b0 ρ W us hR ha => ?_, fun k p hk args H H' h b0 ρ W us hR ha => ?_, hgc⟩
 ·simp only [muPr] at hk
  split at hk
  ·rename_i e
   injection hk with hk
   subst hk e
   obtain ⟨a, rfl, hc, hz, rfl, hst⟩ := word_sim h hR ha
   exact .inl ⟨_, _, elock W _, (MuLone.lock_free hl a W hc hz).mono fun e W' ⟨he, hw⟩ => ⟨.tuple #[], ρ, he, ⟨_, rfl, trivial⟩, by rw [hw]; exact hst⟩⟩
  ·split at hk
   ·rename_i e
    injection hk with hk
    subst hk e
    obtain ⟨a, rfl, hc, hz, rfl, hst⟩ := word_sim h hR ha
    exact .inl ⟨_, _, eunlock W _, (MuLone.unlock_held hl a W hc hz).mono fun e W' ⟨he, hw⟩ => ⟨.tuple #[], ρ, he, ⟨_, rfl, trivial⟩, by rw [hw]; exact hst⟩⟩
   ·cases hk
 ·simp only [muPr] at hk
  split at hk
  ·rename_i e
   injection hk with hk
   subst hk e
   obtain ⟨⟨v, H1⟩, h1, rfl⟩ := Option.map_eq_some_iff.1 h
   obtain ⟨a, rfl, hc, hz, rfl, hst⟩ := word_sim h1 hR ha
   exact ⟨eunlock W _, (MuLone.unlock_deferred hl a .returning W hc hz).mono fun e u' W' ⟨hu, he, hw⟩ => ⟨hu, .tuple #[], ρ, he, by rw [hw]; exact hst⟩⟩
  ·cases hk
end
end Go.An
namespace Go.Proofs.Ytejkgnmjdaohdaa
open Go Go.An
def immTab : List Nat := [2199081975808, 3298639740928, 3298636595200, 3298620866560, 3298538029057, 2199062052864, 25288806236161, 3298639740929, 2199128113152, 3298636595201, 2199124967424, 5497616859137, 1099616485376, 1099613339648, 1099597611008, 8796102459429, 17592215404545, 4398151368705, 17592214355969, 4398148222977, 3298620866561, 2199109238784, 17592213307393, 4398132494337, 3298586263553, 2199074635776, 14293674229761, 25288794701825, 19791248097281, 1099633262592, 113249736458243, 84662434136065, 32985387630593, 3298567389185, 4398105231361, 27487821103105, 2199026401280, 3298593603584, 42880982843393, 42880981794817, 71468344934401, 61572675272705, 31885915848705, 29686892593153, 9895627718657, 131941425741825, 5497590644736, 15393185857537, 9895607795716, 8796096167939, 7696584540162, 6597072912385, 48378542030849, 45080048041985, 39582449008641, 71468286214145, 46179559669761, 13194178330661, 78065355980801, 51677117808641, 53876100169729, 74766821097473, 12094650974209, 3298559000577, 52776588541953, 3298567389184, 10995139346433, 5497561284610, 4398049656833, 72567790501889, 65970728075265, 57174627713025, 83562914119681, 71468327108609, 20890743996417, 103354117128193, 53876093878273, 82463410880513, 116548271341569, 210006751313921, 159429257330689, 155031169925121, 87960954339329, 68169743990785, 30786364375046, 24189278879746, 15393190051841, 8796120285185, 5497632587778, 4398097891329]
def accTab : List Nat := [13697034, 13697037, 7471111, 7405575, 3473417, 6357001, 4456457, 4456458, 4784136, 3342341, 3407877, 2949123, 2949126, 3211271, 8192013, 7471108, 2031622]
def keepTab : List Nat := []
def pureTab : List Nat := [18, 81, 34, 57, 63, 56]
instance orc : Orc := ⟨fun d a b => immTab.contains (d * 1099511627776 + a * 1048576 + b), fun n d => accTab.contains (n * 65536 + d), fun k => keepTab.contains k, fun k => pureTab.contains k⟩
def modeOf (k : Nat) : Nat := match k with
 | 116 => 0
 | 117 => 0
 | 119 => 0
 | 120 => 0
 | 74 => 0
 | 100 => 0
 | 102 => 0
 | 104 => 0
 | 55 => 0
 | 59 => 0
 | 60 => 0
 | 61 => 0
 | 37 => 0
 | 38 => 0
 | _ => 1
end Go.Proofs.Ytejkgnmjdaohdaa
namespace Go.Proofs.Ytejkgnmjdaohdaa
open Go Go.An Go.Conc.Locks
abbrev muLink : MuLink := { lock := 86, unlock := 87, ilock := 132, iunlock := 133, lockSlow := 157, unlockSlow := 160, disable := 153, enable := 155, acquire := 156, relMerge := 158, cas32 := 154, add32 := 159, tMutex := 128, tIMutex := 126, tPMutex := 174, tPIMutex := 192, tPI32 := 194, tUP := 196, tNoCopy := 123, tU32 := 124 }
theorem muLib : MuLib Try.prog muLink := by
 constructor <;> first | kernel_rfl | (intro w; kernel_rfl)
def prims : Prims := muPr muLink
theorem prims_ok : PrOk Try.prog prims := muPr_ok muLib gcId_ok
noncomputable def primsG : Prims := muPr muLink (gcM modeOf)
theorem primsG_ok : PrOk Try.prog primsG := muPr_ok muLib (gcM_ok modeOf)
theorem noNum : NoNum Try.prog := noNum_of (by kernel_rfl)
theorem mixed : Try.prog.follows .mixedOrders = true := by kernel_rfl
theorem own : ownKnob Try.prog.godebug = none := by kernel_rfl
theorem laidOut : laidOutB Try.prog = true := by kernel_rfl
end Go.Proofs.Ytejkgnmjdaohdaa
namespace Go.An
open Go Go.RowKit
section
variable [Orc]
variable {P : Program} {b0 : Nat} {ρ ρ2 : Ren} {H : Hp} {W : World} {base : Nat}
def withV (Pr : Prims) (k : Nat) (v : V) : Prims :=
 ⟨fun j => if j = k then some fun a H => match a with | [] => some (v, H) | _ => none else Pr.call j, Pr.dfr, Pr.gc⟩
theorem withV_ok {Pr Pr0 : Prims} (hm : P.follows .mixedOrders = true) (hnn : NoNum P) (hp0 : PrOk P Pr0) (hp : PrOk P Pr) {k n : Nat} {v : V} (hv : v.flat = true) (h : (callN P Pr0 n k [] []).map (·.1) = some v) : PrOk P (withV Pr k v) := by
 refine ⟨fun j p hj args H v' H' hcall b0 ρ W us hR ha => ?_, hp.dfr, hp.gc⟩
 simp only [withV] at hj
 split at hj
 ·rename_i e
  subst e
  injection hj with hj
  subst hj
  obtain ⟨⟨v1, H1⟩, h1, e1⟩ := Option.map_eq_some_iff.1 h
  simp only at e1
  subst e1
  match args, ha, hcall with
  | [], ha, hcall =>
   simp only [Option.some.injEq, Prod.mk.injEq] at hcall
   obtain ⟨rfl, rfl⟩ := hcall
   have hfin : ∀ (u : Value) (ρ' : Ren) (W' : World), VR ρ' v1 u → Step P W.heap.size (ren0 W) ρ' [] H1 W W' → VR ρ v1 u ∧ Step P b0 ρ ρ H H W W' := by
    intro u ρ' W' hu hst
    have hfr : ∀ i, i < W.heap.size → W'.heap[i]? = W.heap[i]? := fun i hi => hst.frame i hi (by rintro ⟨j, b, l, hb, _⟩; simp at hb)
    refine ⟨?_, hR.grow hfr hst.size, Ren.Le.refl _, fun i hi _ => hfr i hi, fun i h => .inl h, hst.size, Nat.le_refl _, hst.os, hst.tape, hst.output, fun _ _ h => .inl h⟩
    have hc : VC ρ' v1 u := by cases v1 <;> simp [V.flat] at hv <;> exact hu
    exact (flat_VB hc hv : VC ρ v1 u).toVR
   have hnil : VL (VR (ren0 W)) [] us.toList := by
    cases hu : us.toList with
    | nil => trivial
    | cons x l => rw [hu] at ha; exact ha.elim
   rcases callN_sound hm hnn hp0 (callN_ne h1) h1 (rel0 P W) (us := us) hnil with ⟨k', us', e1, hc⟩ | ⟨u, W', ρ', e1, h2, h3⟩
   ·refine .inl ⟨k', us', e1, hc.mono fun e W' he => ?_⟩
    obtain ⟨u, ρ', rfl, hu, hst⟩ := he
    obtain ⟨h2, h3⟩ := hfin u ρ' W' hu hst
    exact ⟨u, ρ, rfl, h2, h3⟩
   ·obtain ⟨h4, h5⟩ := hfin u ρ' W' h2 h3
    exact .inr ⟨u, W', ρ, e1, h4, h5⟩
 ·exact hp.call j p hj args H v' H' hcall b0 ρ W us hR ha
theorem args_nil {m : Nat} {xs : List V} (h : ArgsT P m [] xs) : xs = [] := by
 cases xs with
 | nil => rfl
 | cons x l => exact h.elim
theorem args_cons {m : Nat} {t : TypeId} {ts : List TypeId} {xs : List V} (h : ArgsT P m (t :: ts) xs) : ∃ x l, xs = x :: l ∧ ArgT P m t x ∧ ArgsT P m ts l := by
 cases xs with
 | nil => exact h.elim
 | cons x l => exact ⟨x, l, rfl, h.1, h.2⟩
theorem rd_int {m : Nat} {t : TypeId} {k : IntKind} {xs : List V} (hu : P.underlying t = some (.int k)) (h : RdT P (m + 1) t xs) : ∃ n, xs = [.int k n] ∧ (Lit.int k n).wf = true := by
 unfold RdT at h; rw [hu] at h; exact h
theorem rd_bool {m : Nat} {t : TypeId} {xs : List V} (hu : P.underlying t = some .bool) (h : RdT P (m + 1) t xs) : ∃ b, xs = [.bool b] := by
 unfold RdT at h; rw [hu] at h; exact h
theorem rd_str {m : Nat} {t : TypeId} {xs : List V} (hu : P.underlying t = some .string) (h : RdT P (m + 1) t xs) : ∃ s, xs = [.str s] ∧ s.length ≤ reachBytes := by
 unfold RdT at h; rw [hu] at h; exact h
theorem rd_slice {m : Nat} {t e : TypeId} {xs : List V} (hu : P.underlying t = some (.slice e)) (h : RdT P (m + 1) t xs) : xs = [.nilslice] ∨ ∃ (xss : List (List V)), xs = [.isl xss.flatten xss.length (P.cellsOf e)] ∧ xss.length * P.bytesOf e ≤ reachBytes ∧ xss.length ≤ maxLen ∧ ∀ x ∈ xss, x.length = P.cellsOf e ∧ RdT P m e x := by
 unfold RdT at h; rw [hu] at h; exact h
theorem rd_struct {m : Nat} {t : TypeId} {fs : Array Field} {xs : List V} (hu : P.underlying t = some (.struct fs)) (h : RdT P (m + 1) t xs) : ∃ (xss : List (List V)), xs = xss.flatten ∧ xss.length = fs.size ∧ ∀ (i : Nat) (fld : Field) (x : List V), fs[i]? = some fld → xss[i]? = some x → x.length = P.cellsOf fld.type ∧ RdT P m fld.type x := by
 unfold RdT at h; rw [hu] at h; exact h
theorem rd_arr {m n : Nat} {t e : TypeId} {xs : List V} (hu : P.underlying t = some (.array n e)) (h : RdT P (m + 1) t xs) : ∃ (xss : List (List V)), xs = xss.flatten ∧ xss.length = n ∧ ∀ x ∈ xss, x.length = P.cellsOf e ∧ RdT P m e x := by
 unfold RdT at h; rw [hu] at h; exact h
theorem arg_int {m : Nat} {t : TypeId} {k : IntKind} {x : V} (hu : P.underlying t = some (.int k)) (h : ArgT P (m + 1) t x) : ∃ n, x = .int k n ∧ (Lit.int k n).wf = true := by
 unfold ArgT at h; rw [hu] at h
 obtain ⟨n, e, hw⟩ := rd_int hu h
 injection e with e
 exact ⟨n, e, hw⟩
theorem arg_bool {m : Nat} {t : TypeId} {x : V} (hu : P.underlying t = some .bool) (h : ArgT P (m + 1) t x) : ∃ b, x = .bool b := by
 unfold ArgT at h; rw [hu] at h
 obtain ⟨b, e⟩ := rd_bool hu h
 injection e with e
 exact ⟨b, e⟩
theorem arg_str {m : Nat} {t : TypeId} {x : V} (hu : P.underlying t = some .string) (h : ArgT P (m + 1) t x) : ∃ s, x = .str s ∧ s.length ≤ reachBytes := by
 unfold ArgT at h; rw [hu] at h
 obtain ⟨s, e, hw⟩ := rd_str hu h
 injection e with e
 exact ⟨s, e, hw⟩
theorem arg_slice {m : Nat} {t e : TypeId} {x : V} (hu : P.underlying t = some (.slice e)) (h : ArgT P (m + 1) t x) : x = .nilslice ∨ ∃ (xss : List (List V)), x = .isl xss.flatten xss.length (P.cellsOf e) ∧ xss.length * P.bytesOf e ≤ reachBytes ∧ xss.length ≤ maxLen ∧ ∀ x ∈ xss, x.length = P.cellsOf e ∧ RdT P m e x := by
 unfold ArgT at h; rw [hu] at h
 rcases rd_slice hu h with e | ⟨xss, e, r⟩
 ·injection e with e; exact .inl e
 ·injection e with e; exact .inr ⟨xss, e, r⟩
theorem arg_arr {m n : Nat} {t e : TypeId} {x : V} (hu : P.underlying t = some (.array n e)) (h : ArgT P (m + 1) t x) : ∃ (xss : List (List V)), x = .agg xss.flatten ∧ xss.length = n ∧ ∀ x ∈ xss, x.length = P.cellsOf e ∧ RdT P m e x := by
 unfold ArgT at h; rw [hu] at h
 obtain ⟨xs, rfl, h⟩ := h
 obtain ⟨xss, rfl, r⟩ := rd_arr hu h
 exact ⟨xss, rfl, r⟩
theorem run_of {Pr : Prims} {n k : Nat} {xs : List V} {v : V} (h : (callN P Pr n k xs H).map (·.1) = some v) : ∃ n H', callN P Pr n k xs H = some (v, H') := by
 obtain ⟨⟨v', H'⟩, h1, h2⟩ := Option.map_eq_some_iff.1 h
 simp only at h2
 subst h2
 exact ⟨n, H', h1⟩
end
end Go.An
namespace Go.An
open Go
section
variable [Orc]
variable {P : Program} {Pr : Prims}
def CallT.Le (c c' : CallT) : Prop := ∀ k a H r, c k a H = some r → c' k a H = some r
def CodeT.Le (c c' : CodeT) : Prop := ∀ x s r, c x s = some r → c' x s = some r
theorem stepV_mono {cl cl' : CallT} (h : cl.Le cl') {o : Oper} {s : St} {r : V × St} (hr : stepV P cl o s = some r) : stepV P cl' o s = some r := by
 obtain ⟨dst, op, type, pos, after, guard⟩ := o
 cases op <;> simp only [stepV] at hr ⊢ <;> try exact hr
 case call c =>
  cases hc : c.callee with
  | value f | invoke f _ =>
   rw [hc] at hr
   simp only at hr ⊢
   cases hv : calleeV P s.T c with
   | none => rw [hv] at hr; cases hr
   | some q =>
    rw [hv] at hr
    simp only [Option.bind_some] at hr ⊢
    obtain ⟨p, hp, e⟩ := Option.map_eq_some_iff.1 hr
    rw [h _ _ _ _ hp, ← e]
    rfl
  | _ => rw [hc] at hr; exact hr
theorem stepA_mono {cl cl' : CallT} (h : cl.Le cl') {N : Nat} {o : Oper} {s : St} {r : V × St} (hr : stepA P cl N o s = some r) : stepA P cl' N o s = some r := by
 unfold stepA at hr ⊢
 split at hr
 ·rename_i e; rw [if_pos e]; exact hr
 ·rename_i e; rw [if_neg e]; exact stepV_mono h hr
theorem opsV_mono {cl cl' : CallT} (h : cl.Le cl') {N : Nat} {all : List Oper} : ∀ {rest : List Oper} {s s' : St}, opsV P cl N all rest s = some s' → opsV P cl' N all rest s = some s'
 | [], s, s', hr => hr
 | o :: rest, s, s', hr => by
  simp only [opsV] at hr ⊢
  cases hw : wantedV all o s.T with
  | none => rw [hw] at hr; cases hr
  | some w =>
   rw [hw] at hr
   simp only [Option.bind_some] at hr ⊢
   cases w with
   | true =>
    simp only [if_true] at hr ⊢
    cases hst : stepA P cl N o s with
    | none => rw [hst] at hr; cases hr
    | some q =>
     rw [hst] at hr
     rw [stepA_mono h hst]
     simp only [Option.bind_some] at hr ⊢
     cases hset : setO N q.2 o.dst q.1 with
     | none => rw [hset] at hr; cases hr
     | some s2 => rw [hset] at hr; exact opsV_mono h hr
   | false =>
    simp only [Bool.false_eq_true, if_false] at hr ⊢
    cases hset : setO N s o.dst (.tup []) with
    | none => rw [hset] at hr; cases hr
    | some s2 => rw [hset] at hr; exact opsV_mono h hr
theorem traceV_mono {cl cl' : CallT} (h : cl.Le cl') {N : Nat} {all : List Oper} : ∀ {rest : List Oper} {s : St} {r : List St × St}, traceV P cl N all rest s = some r → traceV P cl' N all rest s = some r
 | [], s, r, hr => hr
 | o :: rest, s, r, hr => by
  simp only [traceV] at hr ⊢
  cases hw : wantedV all o s.T with
  | none => rw [hw] at hr; cases hr
  | some w =>
   rw [hw] at hr
   simp only [Option.bind_some] at hr ⊢
   have key : ∀ s2, (if w = true then (stepV P cl o s).bind fun q => setO N q.2 o.dst q.1 else setO N s o.dst (.tup [])) = some s2 → (if w = true then (stepV P cl' o s).bind fun q => setO N q.2 o.dst q.1 else setO N s o.dst (.tup [])) = some s2 := by
    intro s2 h2
    split at h2
    ·cases hst : stepV P cl o s with
     | none => rw [hst] at h2; cases h2
     | some q => rw [if_pos (by assumption), stepV_mono h hst]; rw [hst] at h2; exact h2
    ·rw [if_neg (by assumption)]; exact h2
   generalize hq : (if w = true then (stepV P cl o s).bind fun q => setO N q.2 o.dst q.1 else setO N s o.dst (.tup [])) = q at hr
   cases q with
   | none => cases hr
   | some s2 =>
    rw [key s2 hq]
    simp only [Option.bind_some] at hr ⊢
    obtain ⟨p, hp, e⟩ := Option.map_eq_some_iff.1 hr
    rw [traceV_mono h hp, ← e]
    rfl
theorem codeF_mono {cl cl' : CallT} (h : cl.Le cl') {rec rec' : CodeT} (hc : rec.Le rec') {N : Nat} {c : Code} {s : St} {r : Ex × St} (hr : codeF P cl N rec c s = some r) : codeF P cl' N rec' c s = some r := by
 unfold codeF at hr ⊢
 split at hr
 ·exact hr
 ·rename_i id ops draw
  split at hr
  ·rename_i hd
   rw [if_pos hd]
   split at hr
   ·rename_i hok
    rw [if_pos hok]
    cases ht : traceV P cl N ops.toList ops.toList s with
    | none => rw [ht] at hr; cases hr
    | some q => rw [ht] at hr; rw [traceV_mono h ht]; exact hr
   ·cases hr
  ·rename_i hd
   rw [if_neg hd]
   obtain ⟨q, hq, e⟩ := Option.map_eq_some_iff.1 hr
   rw [opsV_mono h hq, ← e]
   rfl
 ·rename_i a b
  cases h1 : rec a s with
  | none => rw [h1] at hr; cases hr
  | some q =>
   rw [h1] at hr
   rw [hc _ _ _ h1]
   simp only [Option.bind_some] at hr ⊢
   split at hr
   ·exact hc _ _ _ hr
   ·exact hr
 ·split at hr
  ·exact hc _ _ _ hr
  ·exact hc _ _ _ hr
  ·cases hr
 ·obtain ⟨q, hq, e⟩ := Option.map_eq_some_iff.1 hr
  rw [hc _ _ _ hq, ← e]
  rfl
 ·rename_i b
  cases h1 : rec b s with
  | none => rw [h1] at hr; cases hr
  | some q =>
   rw [h1] at hr
   rw [hc _ _ _ h1]
   simp only [Option.bind_some] at hr ⊢
   split at hr
   ·exact hc _ _ _ hr
   ·exact hr
 ·exact hr
 ·exact hr
 ·split at hr
  ·split at hr
   ·cases hr
   ·rename_i hc
    rw [if_neg hc]
    obtain ⟨q, hq, h2⟩ := Option.bind_eq_some_iff.1 hr
    rw [h _ _ _ _ hq]
    exact h2
  ·cases hr
 ·cases hr
theorem roundV_mono {code code' : Nat → CodeT} (hc : ∀ N, (code N).Le (code' N)) {a : List V} {H : Hp} {r : V × Hp} (hr : roundV code a H = some r) : roundV code' a H = some r := by
 unfold roundV at hr ⊢
 split at hr
 ·obtain ⟨L, hL, hr⟩ := Option.bind_eq_some_iff.1 hr
  simp only
  rw [hL]
  simp only [Option.bind_some]
  split at hr
  ·rename_i h0
   rw [if_pos h0]
   obtain ⟨T, hT, hr⟩ := Option.bind_eq_some_iff.1 hr
   rw [hT]
   simp only [Option.bind_some]
   obtain ⟨q, hq, hr⟩ := Option.bind_eq_some_iff.1 hr
   rw [hc _ _ _ _ hq]
   simp only [Option.bind_some]
   split at hr
   ·obtain ⟨L1, h1, hr⟩ := Option.bind_eq_some_iff.1 hr
    rw [h1]
    simp only [Option.bind_some]
    split at hr
    ·rename_i h2
     rw [if_pos h2]
     obtain ⟨p, hp, hr⟩ := Option.bind_eq_some_iff.1 hr
     rw [hc _ _ _ _ hp]
     exact hr
    ·cases hr
   ·cases hr
  ·cases hr
 ·cases hr
theorem callD_mono {code code' : Nat → CodeT} (hc : ∀ N, (code N).Le (code' N)) {k : Nat} {a : List V} {H H' : Hp} (hr : callD P Pr code k a H = some H') : callD P Pr code' k a H = some H' := by
 unfold callD at hr ⊢
 split at hr
 ·rename_i h0; rw [if_pos h0]; exact hr
 rename_i h0
 rw [if_neg h0]
 split at hr
 ·exact hr
 ·cases hf : P.funcs[k]? with
  | none => rw [hf] at hr; cases hr
  | some fn =>
   rw [hf] at hr
   simp only [Option.bind_some] at hr ⊢
   cases hb : fn.body with
   | none => rw [hb] at hr; cases hr
   | some c =>
    rw [hb] at hr
    simp only [Option.bind_some] at hr ⊢
    cases h1 : code (max a.length fn.ntmps) c ⟨a, [], H⟩ with
    | none => rw [h1] at hr; cases hr
    | some q => rw [h1] at hr; rw [hc _ _ _ _ h1]; exact hr
theorem defersV_mono {code code' : Nat → CodeT} (hc : ∀ N, (code N).Le (code' N)) : ∀ {D : List (Nat × List V)} {H H' : Hp}, defersV P Pr code D H = some H' → defersV P Pr code' D H = some H'
 | [], H, H', hr => hr
 | d :: D, H, H', hr => by
  simp only [defersV] at hr ⊢
  cases h1 : callD P Pr code d.1 d.2 H with
  | none => rw [h1] at hr; cases hr
  | some q => rw [h1] at hr; rw [callD_mono hc h1]; exact defersV_mono hc hr
theorem bodyF_mono {code code' : Nat → CodeT} (hc : ∀ N, (code N).Le (code' N)) : CallT.Le (bodyF P Pr code) (bodyF P Pr code') := by
 intro k a H r hr
 unfold bodyF at hr ⊢
 cases hf : P.funcs[k]? with
 | none => rw [hf] at hr; cases hr
 | some fn =>
  rw [hf] at hr
  simp only [Option.bind_some] at hr ⊢
  cases hb : fn.body with
  | none => rw [hb] at hr; cases hr
  | some c =>
   rw [hb] at hr
   simp only [Option.bind_some] at hr ⊢
   cases h1 : code (max a.length fn.ntmps) c ⟨a, [], H⟩ with
   | none => rw [h1] at hr; cases hr
   | some q =>
    obtain ⟨e, s⟩ := q
    rw [h1] at hr
    rw [hc _ _ _ _ h1]
    simp only [Option.bind_some] at hr ⊢
    cases e with
    | exit id => cases hr
    | nor =>
     simp only at hr ⊢
     cases h2 : defersV P Pr code s.D s.H with
     | none => rw [h2] at hr; cases hr
     | some q => rw [h2] at hr; rw [defersV_mono hc h2]; exact hr
    | ret =>
     simp only at hr ⊢
     cases h2 : defersV P Pr code s.D s.H with
     | none => rw [h2] at hr; cases hr
     | some q => rw [h2] at hr; rw [defersV_mono hc h2]; exact hr
theorem callF_mono {code code' : Nat → CodeT} (hc : ∀ N, (code N).Le (code' N)) : CallT.Le (callF P Pr code) (callF P Pr code') := by
 intro k a H r hr
 unfold callF at hr ⊢
 split at hr
 ·rename_i h0; rw [if_pos h0]; exact roundV_mono hc hr
 rename_i h0
 rw [if_neg h0]
 split at hr
 ·exact hr
 ·split at hr
  ·rename_i x hx
   obtain ⟨q, hq, h⟩ := Option.bind_eq_some_iff.1 hr
   exact Option.bind_eq_some_iff.2 ⟨q, bodyF_mono hc _ _ _ _ hq, h⟩
  ·exact bodyF_mono hc _ _ _ _ hr
theorem both_mono1 : ∀ n, (∀ N, ((both P Pr n).1 N).Le ((both P Pr (n + 1)).1 N)) ∧ (both P Pr n).2.Le (both P Pr (n + 1)).2
 | 0 => ⟨fun _ _ _ _ h => (by cases h), fun _ _ _ _ h => (by cases h)⟩
 | n + 1 => ⟨fun N x s r h => codeF_mono (both_mono1 n).2 ((both_mono1 n).1 N) h, fun k a H r h => callF_mono (both_mono1 n).1 k a H r h⟩
theorem both_mono (n : Nat) : ∀ d, (∀ N, ((both P Pr n).1 N).Le ((both P Pr (n + d)).1 N)) ∧ (both P Pr n).2.Le (both P Pr (n + d)).2
 | 0 => ⟨fun _ _ _ _ h => h, fun _ _ _ _ h => h⟩
 | d + 1 => ⟨fun N x s r h => (both_mono1 (n + d)).1 N x s r ((both_mono n d).1 N x s r h), fun k a H r h => (both_mono1 (n + d)).2 k a H r ((both_mono n d).2 k a H r h)⟩
theorem exec_up {n m N : Nat} (h : n ≤ m) : (exec P Pr n N).Le (exec P Pr m N) := by
 obtain ⟨d, rfl⟩ : ∃ d, m = n + d := ⟨m - n, by omega⟩
 exact (both_mono n d).1 N
theorem callN_up {n m : Nat} (h : n ≤ m) : (callN P Pr n).Le (callN P Pr m) := by
 obtain ⟨d, rfl⟩ : ∃ d, m = n + d := ⟨m - n, by omega⟩
 exact (both_mono n d).2
open Classical in
noncomputable def codeL (P : Program) (Pr : Prims) (N : Nat) : CodeT := fun c s => if h : ∃ r n, exec P Pr n N c s = some r then some h.choose else none
open Classical in
noncomputable def callL (P : Program) (Pr : Prims) : CallT := fun k a H => if h : ∃ r n, callN P Pr n k a H = some r then some h.choose else none
theorem codeL_iff {N : Nat} {c : Code} {s : St} {r : Ex × St} : codeL P Pr N c s = some r ↔ ∃ n, exec P Pr n N c s = some r := by
 have uniq : ∀ {r r' : Ex × St} {n m : Nat}, exec P Pr n N c s = some r → exec P Pr m N c s = some r' → r = r' := by
  intro r r' n m h1 h2
  have e1 := exec_up (Nat.le_max_left n m) _ _ _ h1
  have e2 := exec_up (Nat.le_max_right n m) _ _ _ h2
  rw [e1] at e2
  exact Option.some.inj e2
 unfold codeL
 constructor
 ·intro h
  split at h
  ·rename_i hx
   injection h with h
   obtain ⟨n, hn⟩ := hx.choose_spec
   exact ⟨n, h ▸ hn⟩
  ·cases h
 ·rintro ⟨n, hn⟩
  have hx : ∃ r n, exec P Pr n N c s = some r := ⟨r, n, hn⟩
  rw [dif_pos hx]
  obtain ⟨m, hm⟩ := hx.choose_spec
  exact congrArg some (uniq hm hn)
theorem callL_iff {k : Nat} {a : List V} {H : Hp} {r : V × Hp} : callL P Pr k a H = some r ↔ ∃ n, callN P Pr n k a H = some r := by
 have uniq : ∀ {r r' : V × Hp} {n m : Nat}, callN P Pr n k a H = some r → callN P Pr m k a H = some r' → r = r' := by
  intro r r' n m h1 h2
  have e1 := callN_up (Nat.le_max_left n m) _ _ _ _ h1
  have e2 := callN_up (Nat.le_max_right n m) _ _ _ _ h2
  rw [e1] at e2
  exact Option.some.inj e2
 unfold callL
 constructor
 ·intro h
  split at h
  ·rename_i hx
   injection h with h
   obtain ⟨n, hn⟩ := hx.choose_spec
   exact ⟨n, h ▸ hn⟩
  ·cases h
 ·rintro ⟨n, hn⟩
  have hx : ∃ r n, callN P Pr n k a H = some r := ⟨r, n, hn⟩
  rw [dif_pos hx]
  obtain ⟨m, hm⟩ := hx.choose_spec
  exact congrArg some (uniq hm hn)
theorem callN_le (n : Nat) : (callN P Pr n).Le (callL P Pr) := fun _ _ _ _ h => callL_iff.2 ⟨n, h⟩
theorem exec_le (n N : Nat) : (exec P Pr n N).Le (codeL P Pr N) := fun _ _ _ h => codeL_iff.2 ⟨n, h⟩
theorem stepV_some {o : Oper} {s : St} {r : V × St} (h : stepV P (callL P Pr) o s = some r) : ∃ n, stepV P (callN P Pr n) o s = some r := by
 obtain ⟨dst, op, type, pos, after, guard⟩ := o
 cases op <;> simp only [stepV] at h ⊢ <;> try exact ⟨0, h⟩
 case call c =>
  cases hc : c.callee with
  | value f | invoke f _ =>
   rw [hc] at h
   simp only at h ⊢
   cases hv : calleeV P s.T c with
   | none => rw [hv] at h; cases h
   | some q =>
    rw [hv] at h
    simp only [Option.bind_some] at h ⊢
    obtain ⟨p, hp, e⟩ := Option.map_eq_some_iff.1 h
    obtain ⟨n, hn⟩ := callL_iff.1 hp
    exact ⟨n, by rw [hn, ← e]; rfl⟩
  | _ => rw [hc] at h; exact ⟨0, h⟩
theorem stepA_some {N : Nat} {o : Oper} {s : St} {r : V × St} (h : stepA P (callL P Pr) N o s = some r) : ∃ n, stepA P (callN P Pr n) N o s = some r := by
 unfold stepA at h ⊢
 split at h
 ·rename_i e; exact ⟨0, by rw [if_pos e]; exact h⟩
 ·rename_i e; obtain ⟨n, hn⟩ := stepV_some h; exact ⟨n, by rw [if_neg e]; exact hn⟩
theorem opsV_some {N : Nat} {all : List Oper} : ∀ {rest : List Oper} {s s' : St}, opsV P (callL P Pr) N all rest s = some s' → ∃ n, opsV P (callN P Pr n) N all rest s = some s'
 | [], s, s', h => ⟨0, h⟩
 | o :: rest, s, s', h => by
  simp only [opsV] at h ⊢
  cases hw : wantedV all o s.T with
  | none => rw [hw] at h; cases h
  | some w =>
   rw [hw] at h
   simp only [Option.bind_some] at h ⊢
   cases w with
   | true =>
    simp only [if_true] at h ⊢
    cases hst : stepA P (callL P Pr) N o s with
    | none => rw [hst] at h; cases h
    | some q =>
     obtain ⟨n, hn⟩ := stepA_some hst
     rw [hst] at h
     simp only [Option.bind_some] at h
     cases hset : setO N q.2 o.dst q.1 with
     | none => rw [hset] at h; cases h
     | some s2 =>
      rw [hset] at h
      obtain ⟨m, hm⟩ := opsV_some h
      refine ⟨max n m, ?_⟩
      rw [stepA_mono (callN_up (Nat.le_max_left n m)) hn]
      simp only [Option.bind_some]
      rw [hset]
      exact opsV_mono (callN_up (Nat.le_max_right n m)) hm
   | false =>
    simp only [Bool.false_eq_true, if_false] at h ⊢
    cases hset : setO N s o.dst (.tup []) with
    | none => rw [hset] at h; cases h
    | some s2 =>
     rw [hset] at h
     obtain ⟨m, hm⟩ := opsV_some h
     exact ⟨m, hm⟩
theorem traceV_some {N : Nat} {all : List Oper} : ∀ {rest : List Oper} {s : St} {r : List St × St}, traceV P (callL P Pr) N all rest s = some r → ∃ n, traceV P (callN P Pr n) N all rest s = some r
 | [], s, r, h => ⟨0, h⟩
 | o :: rest, s, r, h => by
  simp only [traceV] at h ⊢
  cases hw : wantedV all o s.T with
  | none => rw [hw] at h; cases h
  | some w =>
   rw [hw] at h
   simp only [Option.bind_some] at h ⊢
   generalize hq : (if w = true then (stepV P (callL P Pr) o s).bind fun q => setO N q.2 o.dst q.1 else setO N s o.dst (.tup [])) = q at h
   cases q with
   | none => cases h
   | some s2 =>
    simp only [Option.bind_some] at h
    obtain ⟨p, hp, e⟩ := Option.map_eq_some_iff.1 h
    obtain ⟨m, hm⟩ := traceV_some hp
    cases w with
    | true =>
     simp only [if_true] at hq ⊢
     cases hst : stepV P (callL P Pr) o s with
     | none => rw [hst] at hq; cases hq
     | some q =>
      obtain ⟨n, hn⟩ := stepV_some hst
      rw [hst] at hq
      simp only [Option.bind_some] at hq
      refine ⟨max n m, ?_⟩
      rw [stepV_mono (callN_up (Nat.le_max_left n m)) hn]
      simp only [Option.bind_some]
      rw [hq]
      simp only [Option.bind_some]
      rw [traceV_mono (callN_up (Nat.le_max_right n m)) hm, ← e]
      rfl
    | false =>
     simp only [Bool.false_eq_true, if_false] at hq ⊢
     refine ⟨m, ?_⟩
     rw [hq]
     simp only [Option.bind_some]
     rw [hm, ← e]
     rfl
theorem codeF_some {N : Nat} {c : Code} {s : St} {r : Ex × St} (h : codeF P (callL P Pr) N (codeL P Pr N) c s = some r) : ∃ n, codeF P (callN P Pr n) N (exec P Pr n N) c s = some r := by
 unfold codeF at h ⊢
 split at h
 ·exact ⟨0, h⟩
 ·rename_i id ops draw
  split at h
  ·rename_i hd
   split at h
   ·rename_i hok
    cases ht : traceV P (callL P Pr) N ops.toList ops.toList s with
    | none => rw [ht] at h; cases h
    | some q =>
     obtain ⟨n, hn⟩ := traceV_some ht
     rw [ht] at h
     refine ⟨n, ?_⟩
     rw [if_pos hd, if_pos hok, hn]
     exact h
   ·cases h
  ·rename_i hd
   obtain ⟨q, hq, e⟩ := Option.map_eq_some_iff.1 h
   obtain ⟨n, hn⟩ := opsV_some hq
   refine ⟨n, ?_⟩
   rw [if_neg hd, hn, ← e]
   rfl
 ·rename_i a b
  cases h1 : codeL P Pr N a s with
  | none => rw [h1] at h; cases h
  | some q =>
   obtain ⟨n, hn⟩ := codeL_iff.1 h1
   rw [h1] at h
   simp only [Option.bind_some] at h
   obtain ⟨e, s1⟩ := q
   cases e with
   | nor =>
    obtain ⟨m, hm⟩ := codeL_iff.1 h
    refine ⟨max n m, ?_⟩
    rw [exec_up (Nat.le_max_left n m) _ _ _ hn]
    exact exec_up (Nat.le_max_right n m) _ _ _ hm
   | exit id => exact ⟨n, by rw [hn]; exact h⟩
   | ret => exact ⟨n, by rw [hn]; exact h⟩
 ·split at h
  ·obtain ⟨n, hn⟩ := codeL_iff.1 h; exact ⟨n, hn⟩
  ·obtain ⟨n, hn⟩ := codeL_iff.1 h; exact ⟨n, hn⟩
  ·cases h
 ·obtain ⟨q, hq, e⟩ := Option.map_eq_some_iff.1 h
  obtain ⟨n, hn⟩ := codeL_iff.1 hq
  exact ⟨n, by rw [hn, ← e]; rfl⟩
 ·rename_i b
  cases h1 : codeL P Pr N b s with
  | none => rw [h1] at h; cases h
  | some q =>
   obtain ⟨n, hn⟩ := codeL_iff.1 h1
   rw [h1] at h
   simp only [Option.bind_some] at h
   obtain ⟨e, s1⟩ := q
   cases e with
   | nor =>
    obtain ⟨m, hm⟩ := codeL_iff.1 h
    refine ⟨max n m, ?_⟩
    rw [exec_up (Nat.le_max_left n m) _ _ _ hn]
    exact exec_up (Nat.le_max_right n m) _ _ _ hm
   | exit id => exact ⟨n, by rw [hn]; exact h⟩
   | ret => exact ⟨n, by rw [hn]; exact h⟩
 ·exact ⟨0, h⟩
 ·exact ⟨0, h⟩
 ·split at h
  ·split at h
   ·cases h
   ·rename_i hc
    obtain ⟨q, hq, h2⟩ := Option.bind_eq_some_iff.1 h
    obtain ⟨n, hn⟩ := callL_iff.1 hq
    refine ⟨n, ?_⟩
    rw [if_neg hc, hn]
    exact h2
  ·cases h
 ·cases h
theorem codeL_eq (N : Nat) (c : Code) (s : St) : codeL P Pr N c s = codeF P (callL P Pr) N (codeL P Pr N) c s := by
 cases h : codeF P (callL P Pr) N (codeL P Pr N) c s with
 | some r =>
  obtain ⟨n, hn⟩ := codeF_some h
  exact codeL_iff.2 ⟨n + 1, hn⟩
 | none =>
  cases h2 : codeL P Pr N c s with
  | none => rfl
  | some r =>
   obtain ⟨n, hn⟩ := codeL_iff.1 h2
   cases n with
   | zero => cases hn
   | succ n =>
    have := codeF_mono (callN_le n) (exec_le n N) (hn : codeF P (callN P Pr n) N (exec P Pr n N) c s = some r)
    rw [h] at this
    cases this
theorem roundV_some {a : List V} {H : Hp} {r : V × Hp} (hr : roundV (codeL P Pr) a H = some r) : ∃ n, roundV (exec P Pr n) a H = some r := by
 unfold roundV at hr ⊢
 split at hr
 ·obtain ⟨L, hL, hr⟩ := Option.bind_eq_some_iff.1 hr
  simp only
  rw [hL]
  simp only [Option.bind_some]
  split at hr
  ·rename_i h0
   simp only [if_pos h0]
   obtain ⟨T, hT, hr⟩ := Option.bind_eq_some_iff.1 hr
   rw [hT]
   simp only [Option.bind_some]
   obtain ⟨q, hq, hr⟩ := Option.bind_eq_some_iff.1 hr
   obtain ⟨n, hn⟩ := codeL_iff.1 hq
   split at hr
   ·rename_i hq1
    obtain ⟨L1, h1, hr⟩ := Option.bind_eq_some_iff.1 hr
    split at hr
    ·rename_i h2
     obtain ⟨p, hp, hr⟩ := Option.bind_eq_some_iff.1 hr
     obtain ⟨m, hm⟩ := codeL_iff.1 hp
     refine ⟨max n m, ?_⟩
     rw [exec_up (Nat.le_max_left n m) _ _ _ hn]
     simp only [Option.bind_some]
     rw [hq1]
     simp only
     rw [h1]
     simp only [Option.bind_some]
     rw [if_pos h2, exec_up (Nat.le_max_right n m) _ _ _ hm]
     exact hr
    ·cases hr
   ·cases hr
  ·cases hr
 ·cases hr
theorem callD_some {k : Nat} {a : List V} {H H' : Hp} (h : callD P Pr (codeL P Pr) k a H = some H') : ∃ n, callD P Pr (exec P Pr n) k a H = some H' := by
 unfold callD at h ⊢
 split at h
 ·rename_i h0; exact ⟨0, by rw [if_pos h0]; exact h⟩
 rename_i h0
 simp only [if_neg h0]
 split at h
 ·exact ⟨0, h⟩
 ·cases hf : P.funcs[k]? with
  | none => rw [hf] at h; cases h
  | some fn =>
   rw [hf] at h
   simp only [Option.bind_some] at h ⊢
   cases hb : fn.body with
   | none => rw [hb] at h; cases h
   | some c =>
    rw [hb] at h
    simp only [Option.bind_some] at h ⊢
    cases h1 : codeL P Pr (max a.length fn.ntmps) c ⟨a, [], H⟩ with
    | none => rw [h1] at h; cases h
    | some q =>
     obtain ⟨n, hn⟩ := codeL_iff.1 h1
     rw [h1] at h
     exact ⟨n, by rw [hn]; exact h⟩
theorem defersV_some : ∀ {D : List (Nat × List V)} {H H' : Hp}, defersV P Pr (codeL P Pr) D H = some H' → ∃ n, defersV P Pr (exec P Pr n) D H = some H'
 | [], H, H', h => ⟨0, h⟩
 | d :: D, H, H', h => by
  simp only [defersV] at h ⊢
  cases h1 : callD P Pr (codeL P Pr) d.1 d.2 H with
  | none => rw [h1] at h; cases h
  | some q =>
   obtain ⟨n, hn⟩ := callD_some h1
   rw [h1] at h
   obtain ⟨m, hm⟩ := defersV_some h
   refine ⟨max n m, ?_⟩
   rw [callD_mono (fun N => exec_up (Nat.le_max_left n m)) hn]
   exact defersV_mono (fun N => exec_up (Nat.le_max_right n m)) hm
theorem bodyF_some {k : Nat} {a : List V} {H : Hp} {r : V × Hp} (h : bodyF P Pr (codeL P Pr) k a H = some r) : ∃ n, bodyF P Pr (exec P Pr n) k a H = some r := by
 unfold bodyF at h ⊢
 cases hf : P.funcs[k]? with
 | none => rw [hf] at h; cases h
 | some fn =>
  rw [hf] at h
  simp only [Option.bind_some] at h ⊢
  cases hb : fn.body with
  | none => rw [hb] at h; cases h
  | some c =>
   rw [hb] at h
   simp only [Option.bind_some] at h ⊢
   cases h1 : codeL P Pr (max a.length fn.ntmps) c ⟨a, [], H⟩ with
   | none => rw [h1] at h; cases h
   | some q =>
    obtain ⟨n, hn⟩ := codeL_iff.1 h1
    obtain ⟨e, s⟩ := q
    rw [h1] at h
    simp only [Option.bind_some] at h
    have key : ((defersV P Pr (codeL P Pr) s.D s.H).bind fun H' => (resultsV P fn H' s.T).map fun v => Pr.gc k H (v, H')) = some r → ∃ m, n ≤ m ∧ ((defersV P Pr (exec P Pr m) s.D s.H).bind fun H' => (resultsV P fn H' s.T).map fun v => Pr.gc k H (v, H')) = some r := by
     intro h
     cases h2 : defersV P Pr (codeL P Pr) s.D s.H with
     | none => rw [h2] at h; cases h
     | some q =>
      obtain ⟨m, hm⟩ := defersV_some h2
      rw [h2] at h
      exact ⟨max n m, Nat.le_max_left _ _, by rw [defersV_mono (fun N => exec_up (Nat.le_max_right n m)) hm]; exact h⟩
    cases e with
    | exit id => cases h
    | nor =>
     obtain ⟨m, h3, h4⟩ := key h
     exact ⟨m, by rw [exec_up h3 _ _ _ hn]; exact h4⟩
    | ret =>
     obtain ⟨m, h3, h4⟩ := key h
     exact ⟨m, by rw [exec_up h3 _ _ _ hn]; exact h4⟩
theorem callF_some {k : Nat} {a : List V} {H : Hp} {r : V × Hp} (h : callF P Pr (codeL P Pr) k a H = some r) : ∃ n, callF P Pr (exec P Pr n) k a H = some r := by
 unfold callF at h ⊢
 split at h
 ·rename_i h0; simp only [if_pos h0]; exact roundV_some h
 rename_i h0
 simp only [if_neg h0]
 split at h
 ·exact ⟨0, h⟩
 ·split at h
  ·obtain ⟨q, hq, h⟩ := Option.bind_eq_some_iff.1 h
   obtain ⟨n, hn⟩ := bodyF_some hq
   exact ⟨n, Option.bind_eq_some_iff.2 ⟨q, hn, h⟩⟩
  ·exact bodyF_some h
theorem callL_eq (k : Nat) (a : List V) (H : Hp) : callL P Pr k a H = callF P Pr (codeL P Pr) k a H := by
 cases h : callF P Pr (codeL P Pr) k a H with
 | some r =>
  obtain ⟨n, hn⟩ := callF_some h
  exact callL_iff.2 ⟨n + 1, hn⟩
 | none =>
  cases h2 : callL P Pr k a H with
  | none => rfl
  | some r =>
   obtain ⟨n, hn⟩ := callL_iff.1 h2
   cases n with
   | zero => cases hn
   | succ n =>
    have := callF_mono (fun N => exec_le n N) _ _ _ _ (hn : callF P Pr (exec P Pr n) k a H = some r)
    rw [h] at this
    cases this
end
end Go.An
namespace Go.Proofs.Ytejkgnmjdaohdaa
open Go Go.An
abbrev orc0 : Orc := ⟨fun _ _ _ => false, fun _ _ => false, fun _ => false, fun _ => false⟩
set_option maxRecDepth 100000 in
theorem known_eval : (@callN Try.prog orc0 prims 800 15 [] []).map (·.1) = some (.bool true) := by kernel_rfl
def primsK : Prims := withV prims 15 (.bool true)
set_option maxRecDepth 100000 in
set_option maxRecDepth 100000 in
theorem primsK_ok : PrOk Try.prog primsK := @withV_ok orc0 _ _ _ mixed noNum prims_ok prims_ok _ _ _ rfl known_eval
noncomputable def pr : Prims := withV primsG 15 (.bool true)
set_option maxRecDepth 100000 in
set_option maxRecDepth 100000 in
theorem pr_ok : PrOk Try.prog pr := @withV_ok orc0 _ _ _ mixed noNum prims_ok primsG_ok _ _ _ rfl known_eval
theorem known_call (H : Hp) : callL Try.prog pr 15 [] H = some (.bool true, H) := by
 rw [callL_eq]; rfl
end Go.Proofs.Ytejkgnmjdaohdaa
namespace Go.An
open Go
structure Co where
 d : Option Nat
 o : Op
 im : Bool
 g : Option (Nat × Bool)
 still : Bool
 self : Bool
 rd : List (Option (Nat × Bool) × Op)
inductive Cc where
 | skip
 | reg (l : List Co)
 | seq (a b : Cc)
 | cond (c : Operand) (a b : Cc)
 | block (id : Nat) (b : Cc)
 | loop (b : Cc)
 | exit (id : Nat)
 | ret
 | rng (f : Operand) (ps : List Nat) (ca cb : Code)
section
variable [Orc]
def gslot (all : List Oper) (o : Oper) : Option (Option (Nat × Bool)) :=
 match o.guard with
 | none => some none
 | some (j, w) => ((all[j]?).bind (·.dst)).map fun d => some (d, w)
abbrev RdT' := Nat → List (Option (Nat × Bool) × Op)
def coOf (ac : Oper → Bool) (all : List Oper) (fl : Nat → Bool × Bool) (rd : RdT') (i : Nat) (o : Oper) : Option Co := (gslot all o).map fun g => ⟨o.dst, o.op, ac o || immO o, g, (fl i).1, (fl i).2, rd i⟩
def compL (ac : Oper → Bool) (all : List Oper) (fl : Nat → Bool × Bool) (rd : RdT') : Nat → List Oper → Option (List Co)
 | _, [] => some []
 | i, o :: r => (coOf ac all fl rd i o).bind fun c => (compL ac all fl rd (i + 1) r).map (c :: ·)
def unordP (P : Program) (all : List Oper) : List (Nat × Nat) :=
 let B := befores all
 let n := all.length
 (List.range n).flatMap fun q => (List.range n).filterMap fun e => match all[q]?, all[e]? with
  | some oq, some oe => if kind P oq == .read && kind P oe == .eff && !(waitsFor B q e) && !(waitsFor B e q) then some (q, e) else none
  | _, _ => none
def flagsOf (pairs : List (Nat × Nat)) (i : Nat) : Bool × Bool := (pairs.any fun p => decide (min p.1 p.2 ≤ i) && decide (i ≤ max p.1 p.2), pairs.any fun p => p.1 == i)
def readsOf (all : List Oper) (o : Oper) : List Tmp :=
 (o.op.operands.toList.filterMap fun x => match x with | .tmp t => some t | _ => none) ++ (match o.guard with | some (j, _) => ((all[j]?).bind (·.dst)).toList | none => [])
def earlyOk (all : List Oper) (p : Nat × Nat) : Bool :=
 match all[p.1]? with
 | none => false
 | some oq => (gslot all oq).isSome && (List.range p.2).all fun k => decide (k < p.1) || (match all[k]? with
  | some ok => (match ok.dst with | some d => !(readsOf all oq).contains d | none => true)
  | none => true)
def rdOf (all : List Oper) (early : List (Nat × Nat)) (i : Nat) : List (Option (Nat × Bool) × Op) :=
 early.filterMap fun p => if p.2 = i then (all[p.1]?).bind fun oq => (gslot all oq).map fun g => (g, oq.op) else none
def compR (P : Program) (N : Nat) (all : List Oper) (draw : Bool) : Option (List Co) :=
 if draw = true then
  if drawOk P all = true ∧ ((unordP P all).filter fun p => decide (p.1 < p.2)).all (earlyOk all) = true then compL (fun _ => false) all (flagsOf ((unordP P all).filter fun p => !decide (p.1 < p.2))) (rdOf all ((unordP P all).filter fun p => decide (p.1 < p.2))) 0 all else none
 else compL (accO N) all (fun _ => (false, false)) (fun _ => []) 0 all
def compC (P : Program) (N : Nat) : Code → Option Cc
 | .skip => some .skip
 | .region _ ops draw => (compR P N ops.toList draw).map .reg
 | .seq a b => (compC P N a).bind fun x => (compC P N b).map (.seq x)
 | .cond c a b => (compC P N a).bind fun x => (compC P N b).map (.cond c x)
 | .block id b => (compC P N b).map (.block id)
 | .loop b => (compC P N b).map .loop
 | .exit id => some (.exit id)
 | .ret => some .ret
 | .rangeFunc f ps ca cb => some (.rng f ps.toList ca cb)
 | _ => none
def bindW {α : Type} (x : Option α) (k : α → Prop) : Prop := ∃ a, x = some a ∧ k a
abbrev Dfr := List (Nat × List V)
section
variable (P : Program) (cl : CallT) (N : Nat)
def opF (P : Program) (im : Bool) (o : Op) (T : Fr) (H : Hp) : Option (V × Hp) := if im = true then (immV P o T).map fun v => (v, H) else opB P o T H
theorem opV_F (P : Program) (o : Oper) (T : Fr) (H : Hp) : opV P o T H = opF P (immO o) o.op T H := rfl
def stepW (o : Op) (im : Bool) (T : Fr) (D : Dfr) (H : Hp) : Option (V × Dfr × Hp) :=
 match o with
 | .defer c => if inRound D = true then none else match c.callee with
  | .value _ => (calleeV P T c).bind fun r => if r.1 = Y0 then none else some (.tup [], r :: D, H)
  | _ => none
 | .call c => match c.callee with
  | .value _ | .invoke _ _ => (calleeV P T c).bind fun r => (cl r.1 r.2 H).map fun q => (q.1, D, q.2)
  | _ => (opF P im o T H).map fun q => (q.1, D, q.2)
 | .assign x => if im = true then some (.osl H.length [] 0 0, D, H ++ [.tok 0]) else some (ev T x, D, H)
 | _ => (opF P im o T H).map fun q => (q.1, D, q.2)
def dOk (N : Nat) : Option Nat → Prop
 | none => True
 | some d => d < N
def stillP (b : Bool) (n : Nat) (x y : Hp) : Prop := b = true → x.take n = y.take n
def selfP (P : Program) (b : Bool) (n : Nat) (o : Op) (im : Bool) (T : Fr) (H : Hp) : Prop := b = true → ∃ r, opF P im o T (H.take n) = some r ∧ eqA r.1 r.1 = true
def wantB (v : V) (w : Bool) : Option Bool := match v with
 | .bool b => some (b == w)
 | .undef => none
 | _ => some false
def guardR (g : Option (Nat × Bool)) (T : Fr) (c : Prop) : Prop := match g with
 | none => c
 | some (j, w) => ∃ x, wantB (get T j) w = some x ∧ (x = true → c)
def readO (x y : Option (V × Hp)) : Prop := ∃ a b, x = some a ∧ y = some b ∧ b.1 = a.1 ∧ eqA a.1 a.1 = true
def readP (P : Program) : List (Option (Nat × Bool) × Op) → Fr → Hp → Hp → Prop
 | [], _, _, _ => True
 | r :: rs, T, H, H' => guardR r.1 T (readO (opB P r.2 T H) (opB P r.2 T H')) ∧ readP P rs T H H'
def W (n : Nat) : List Co → Fr → Dfr → Hp → (Fr → Dfr → Hp → Prop) → Prop
 | [], T, D, H, Q => Q T D H
 | c :: rest, T, D, H, Q =>
  match c.g with
  | none => bindW (stepW P cl c.o c.im T D H) fun q => dOk N c.d ∧ stillP c.still n q.2.2 H ∧ selfP P c.self n c.o c.im T H ∧ readP P c.rd T H q.2.2 ∧ W n rest (putO T c.d q.1) q.2.1 q.2.2 Q
  | some g => ∃ b, wantB (get T g.1) g.2 = some b ∧ dOk N c.d ∧
    (b = true → bindW (stepW P cl c.o c.im T D H) fun q => stillP c.still n q.2.2 H ∧ selfP P c.self n c.o c.im T H ∧ readP P c.rd T H q.2.2 ∧ W n rest (putO T c.d q.1) q.2.1 q.2.2 Q) ∧
    (b = false → W n rest (putO T c.d (.tup [])) D H Q)
inductive Big : Cc → St → Ex → St → Prop where
 | skip (s) : Big .skip s .nor s
 | reg (l s s') : W P cl N s.H.length l s.T s.D s.H (fun T D H => s' = ⟨T, D, H⟩) → Big (.reg l) s .nor s'
 | seq (a b s s1 e s') : Big a s .nor s1 → Big b s1 e s' → Big (.seq a b) s e s'
 | seqx (a b s e s') : Big a s e s' → e ≠ .nor → Big (.seq a b) s e s'
 | condt (c a b s e s') : ev s.T c = .bool true → Big a s e s' → Big (.cond c a b) s e s'
 | condf (c a b s e s') : ev s.T c = .bool false → Big b s e s' → Big (.cond c a b) s e s'
 | block (id b s e s') : Big b s e s' → e ≠ .exit id → Big (.block id b) s e s'
 | blockx (id b s s') : Big b s (.exit id) s' → Big (.block id b) s .nor s'
 | loop (b s s1 e s') : Big b s .nor s1 → Big (.loop b) s1 e s' → Big (.loop b) s e s'
 | loopx (b s e s') : Big b s e s' → e ≠ .nor → Big (.loop b) s e s'
 | exit (id s) : Big (.exit id) s (.exit id) s
 | ret (s) : Big .ret s .ret s
 | rng (f ps ca cb s k a b q L) : ev s.T f = .fn k a b → k ≠ Y0 → inRound s.D = false → (P.funcs[k]?).any (·.body.isSome) = true → cl k (a ++ [.yld (s.H.length + 1)] ++ b) (s.H ++ [.dfr true, .loop ⟨s.T, N, ps, ca, cb, 0, .nor, s.H.length⟩]) = some q →
   getLoopA q.2 (s.H.length + 1) = some L → L.st ≠ 1 → Big (.rng f ps ca cb) s L.pend { s with D := (Y0, [.ptr s.H.length 0 0]) :: s.D, H := q.2.set (s.H.length + 1) (.loop { L with st := 3 }) }
def Wp (c : Cc) (T : Fr) (D : Dfr) (H : Hp) (Q : Ex → Fr → Dfr → Hp → Prop) : Prop := ∃ e s', Big P cl N c ⟨T, D, H⟩ e s' ∧ Q e s'.T s'.D s'.H
def seqQ (b : Cc) (Q : Ex → Fr → Dfr → Hp → Prop) : Ex → Fr → Dfr → Hp → Prop
 | .nor, T, D, H => Wp P cl N b T D H Q
 | e, T, D, H => Q e T D H
def blockQ (id : Nat) (Q : Ex → Fr → Dfr → Hp → Prop) : Ex → Fr → Dfr → Hp → Prop
 | .exit j, T, D, H => if j = id then Q .nor T D H else Q (.exit j) T D H
 | e, T, D, H => Q e T D H
end
section
variable {P : Program} {cl : CallT} {N : Nat}
theorem W_mono {n : Nat} {Q Q' : Fr → Dfr → Hp → Prop} (h : ∀ T D H, Q T D H → Q' T D H) : ∀ {l : List Co} {T : Fr} {D : Dfr} {H : Hp}, W P cl N n l T D H Q → W P cl N n l T D H Q'
 | [], T, D, H, hw => h T D H hw
 | c :: rest, T, D, H, hw => by
  unfold W at hw ⊢
  split at hw
  ·obtain ⟨q, h1, h2, h3, h4, h4', h5⟩ := hw
   exact ⟨q, h1, h2, h3, h4, h4', W_mono h h5⟩
  ·obtain ⟨b, h1, h2, h3, h4⟩ := hw
   refine ⟨b, h1, h2, fun e => ?_, fun e => W_mono h (h4 e)⟩
   obtain ⟨q, h5, h6, h7, h7', h8⟩ := h3 e
   exact ⟨q, h5, h6, h7, h7', W_mono h h8⟩
theorem W_ex {n : Nat} {Q : Fr → Dfr → Hp → Prop} : ∀ {l : List Co} {T : Fr} {D : Dfr} {H : Hp}, W P cl N n l T D H Q → ∃ s' : St, W P cl N n l T D H (fun T D H => s' = ⟨T, D, H⟩) ∧ Q s'.T s'.D s'.H
 | [], T, D, H, hw => ⟨⟨T, D, H⟩, rfl, hw⟩
 | c :: rest, T, D, H, hw => by
  unfold W at hw
  split at hw
  ·rename_i hg
   obtain ⟨q, h1, h2, h3, h4, h4', h5⟩ := hw
   obtain ⟨s', h6, h7⟩ := W_ex h5
   refine ⟨s', ?_, h7⟩
   unfold W
   rw [hg]
   exact ⟨q, h1, h2, h3, h4, h4', h6⟩
  ·rename_i g hg
   obtain ⟨b, h1, h2, h3, h4⟩ := hw
   by_cases e : b = true
   ·obtain ⟨q, h5, h6, h7, h7', h8⟩ := h3 e
    obtain ⟨s', h9, h10⟩ := W_ex h8
    refine ⟨s', ?_, h10⟩
    unfold W
    rw [hg]
    exact ⟨b, h1, h2, fun _ => ⟨q, h5, h6, h7, h7', h9⟩, fun n => (by rw [e] at n; cases n)⟩
   ·rw [Bool.not_eq_true] at e
    obtain ⟨s', h9, h10⟩ := W_ex (h4 e)
    refine ⟨s', ?_, h10⟩
    unfold W
    rw [hg]
    exact ⟨b, h1, h2, fun n => (by rw [e] at n; cases n), fun _ => h9⟩
theorem W_iff {n : Nat} {Q : Fr → Dfr → Hp → Prop} {l : List Co} {T : Fr} {D : Dfr} {H : Hp} : W P cl N n l T D H Q ↔ ∃ s' : St, W P cl N n l T D H (fun T D H => s' = ⟨T, D, H⟩) ∧ Q s'.T s'.D s'.H :=
 ⟨W_ex, fun ⟨s', h1, h2⟩ => W_mono (fun T D H e => by subst e; exact h2) h1⟩
theorem stepV_eq (o : Oper) (s : St) : stepV P cl o s = (stepW P cl o.op (immO o) s.T s.D s.H).map fun q => (q.1, ⟨s.T, q.2.1, q.2.2⟩) := by
 obtain ⟨dst, op, type, pos, after, guard⟩ := o
 cases op <;> simp only [stepV, stepW, Option.map_map] <;> try rfl
 case defer c =>
  split
  ·rfl
  ·cases c.callee with
   | value f =>
    simp only
    cases calleeV P s.T c with
    | none => rfl
    | some r => simp only [Option.bind_some]; split <;> rfl
   | _ => rfl
 case call c =>
  cases hc : c.callee with
  | value f | invoke f _ =>
   simp only
   cases calleeV P s.T c with
   | none => rfl
   | some r => simp only [Option.bind_some, Option.map_map]; rfl
  | _ => simp only [Option.map_map]; rfl
theorem stepA_eq (o : Oper) (s : St) : stepA P cl N o s = (stepW P cl o.op (accO N o || immO o) s.T s.D s.H).map fun q => (q.1, ⟨s.T, q.2.1, q.2.2⟩) := by
 unfold stepA
 split
 ·rename_i ha
  rw [ha, Bool.true_or]
  unfold accO at ha
  split at ha
  ·rename_i e _
   rw [e]
   rfl
  ·cases ha
 ·rename_i ha
  rw [Bool.not_eq_true] at ha
  rw [ha, Bool.false_or]
  exact stepV_eq o s
theorem dOk_set {s : St} {d : Option Nat} {v : V} (h : dOk N d) : setO N s d v = some { s with T := putO s.T d v } := by
 cases d with
 | none => rfl
 | some d => exact if_pos h
theorem putO_get (T : Fr) (d : Option Nat) (v : V) : ∀ t, d ≠ some t → get (putO T d v) t = get T t := by
 intro t h
 cases d with
 | none => rfl
 | some d =>
  simp only [putO, get_put]
  rw [if_neg fun e => h (by rw [e])]
theorem gslot_want {all : List Oper} {o : Oper} {T : Fr} (h3 : gslot all o = some none) : wantedV all o T = some true := by
 unfold gslot at h3
 unfold wantedV
 cases hg : o.guard with
 | none => rfl
 | some p =>
  rw [hg] at h3
  obtain ⟨_, _, e⟩ := Option.map_eq_some_iff.1 h3
  cases e
theorem gslot_wantB {all : List Oper} {o : Oper} {T : Fr} {p : Nat × Bool} {b : Bool} (h3 : gslot all o = some (some p)) (h5 : wantB (get T p.1) p.2 = some b) : wantedV all o T = some b := by
 unfold gslot at h3
 unfold wantedV
 cases hg : o.guard with
 | none => rw [hg] at h3; cases h3
 | some r =>
  rw [hg] at h3
  obtain ⟨d, h9, e⟩ := Option.map_eq_some_iff.1 h3
  injection e with e
  subst e
  simp only at h5 ⊢
  rw [h9]
  exact h5
theorem W_ops {n : Nat} {all : List Oper} {fl : Nat → Bool × Bool} {rd : RdT'} {s' : St} : ∀ {rest : List Oper} {i : Nat} {l : List Co} {T : Fr} {D : Dfr} {H : Hp}, compL (accO N) all fl rd i rest = some l → W P cl N n l T D H (fun T D H => s' = ⟨T, D, H⟩) → opsV P cl N all rest ⟨T, D, H⟩ = some s'
 | [], i, l, T, D, H, hc, hw => by
  simp only [compL, Option.some.injEq] at hc
  subst hc
  have e : s' = ⟨T, D, H⟩ := hw
  subst e
  rfl
 | o :: rest, i, l, T, D, H, hc, hw => by
  simp only [compL] at hc
  cases h1 : coOf (accO N) all fl rd i o with
  | none => rw [h1] at hc; cases hc
  | some c =>
   rw [h1] at hc
   obtain ⟨l', h2, rfl⟩ := Option.map_eq_some_iff.1 hc
   obtain ⟨g, h3, rfl⟩ := Option.map_eq_some_iff.1 h1
   simp only [opsV]
   unfold W at hw
   cases g with
   | none =>
    rw [gslot_want h3]
    obtain ⟨q, h5, h6, _, _, _, h9⟩ := hw
    simp only at h5 h6 h9
    simp only [Option.bind_some, if_true]
    rw [stepA_eq]
    simp only
    rw [h5]
    simp only [Option.map_some, Option.bind_some]
    rw [dOk_set h6]
    exact W_ops h2 h9
   | some p =>
    obtain ⟨b, h5, h6, h7, h8⟩ := hw
    rw [gslot_wantB h3 h5]
    simp only at h6 h7 h8
    by_cases e : b = true
    ·obtain ⟨q, h9, _, _, _, h12⟩ := h7 e
     simp only [Option.bind_some]
     rw [if_pos e, stepA_eq]
     simp only
     rw [h9]
     simp only [Option.map_some, Option.bind_some]
     rw [dOk_set h6]
     exact W_ops h2 h12
    ·simp only [Option.bind_some]
     rw [if_neg e, dOk_set h6]
     exact W_ops h2 (h8 (by simpa using e))
theorem W_trace {n : Nat} {all : List Oper} {fl : Nat → Bool × Bool} {rd : RdT'} {s' : St} : ∀ {rest : List Oper} {i : Nat} {l : List Co} {T : Fr} {D : Dfr} {H : Hp}, compL (fun _ => false) all fl rd i rest = some l → W P cl N n l T D H (fun T D H => s' = ⟨T, D, H⟩) →
  ∃ tr, traceV P cl N all rest ⟨T, D, H⟩ = some (tr, s') ∧ (tr ++ [s'])[0]? = some ⟨T, D, H⟩ ∧
   ∀ (j : Nat) (o : Oper), rest[j]? = some o → ∃ s1 s2, (tr ++ [s'])[j]? = some s1 ∧ (tr ++ [s'])[j + 1]? = some s2 ∧ stillP (fl (i + j)).1 n s2.H s1.H ∧ (wantedV all o s1.T = some true → selfP P (fl (i + j)).2 n o.op (immO o) s1.T s1.H ∧ readP P (rd (i + j)) s1.T s1.H s2.H) ∧ ∀ t, o.dst ≠ some t → get s2.T t = get s1.T t
 | [], i, l, T, D, H, hc, hw => by
  simp only [compL, Option.some.injEq] at hc
  subst hc
  have e : s' = ⟨T, D, H⟩ := hw
  subst e
  exact ⟨[], rfl, rfl, fun j o h => by simp at h⟩
 | o :: rest, i, l, T, D, H, hc, hw => by
  simp only [compL] at hc
  cases h1 : coOf (fun _ => false) all fl rd i o with
  | none => rw [h1] at hc; cases hc
  | some c =>
   rw [h1] at hc
   obtain ⟨l', h2, rfl⟩ := Option.map_eq_some_iff.1 hc
   obtain ⟨g, h3, rfl⟩ := Option.map_eq_some_iff.1 h1
   have fin : ∀ {w : Bool} {T1 : Fr} {D1 : Dfr} {H1 : Hp}, wantedV all o T = some w →
     (if w = true then (stepV P cl o ⟨T, D, H⟩).bind fun q => setO N q.2 o.dst q.1 else setO N ⟨T, D, H⟩ o.dst (.tup [])) = some ⟨T1, D1, H1⟩ →
     W P cl N n l' T1 D1 H1 (fun T D H => s' = ⟨T, D, H⟩) → stillP (fl i).1 n H1 H → (w = true → selfP P (fl i).2 n o.op (immO o) T H ∧ readP P (rd i) T H H1) → (∀ t, o.dst ≠ some t → get T1 t = get T t) →
     ∃ tr, traceV P cl N all (o :: rest) ⟨T, D, H⟩ = some (tr, s') ∧ (tr ++ [s'])[0]? = some ⟨T, D, H⟩ ∧
      ∀ (j : Nat) (o' : Oper), (o :: rest)[j]? = some o' → ∃ s1 s2, (tr ++ [s'])[j]? = some s1 ∧ (tr ++ [s'])[j + 1]? = some s2 ∧ stillP (fl (i + j)).1 n s2.H s1.H ∧ (wantedV all o' s1.T = some true → selfP P (fl (i + j)).2 n o'.op (immO o') s1.T s1.H ∧ readP P (rd (i + j)) s1.T s1.H s2.H) ∧ ∀ t, o'.dst ≠ some t → get s2.T t = get s1.T t := by
    intro w T1 D1 H1 hw1 hst hW hstill hself hget
    obtain ⟨tr, r2, r3, r4⟩ := W_trace h2 hW
    refine ⟨⟨T, D, H⟩ :: tr, ?_, rfl, fun j o' hj => ?_⟩
    ·simp only [traceV]
     rw [hw1]
     simp only [Option.bind_some]
     rw [hst]
     simp only [Option.bind_some]
     rw [r2]
     rfl
    ·cases j with
     | zero =>
      simp only [List.getElem?_cons_zero, Option.some.injEq] at hj
      subst hj
      refine ⟨⟨T, D, H⟩, ⟨T1, D1, H1⟩, rfl, by simpa using r3, hstill, fun h2 => hself ?_, hget⟩
      rw [hw1] at h2
      injection h2
     | succ j =>
      simp only [List.getElem?_cons_succ] at hj
      obtain ⟨s1, s2, h5, h6, h7, h8⟩ := r4 j o' hj
      refine ⟨s1, s2, by simpa using h5, by simpa using h6, ?_, ?_⟩
      ·rw [show i + (j + 1) = i + 1 + j by omega]; exact h7
      ·rw [show i + (j + 1) = i + 1 + j by omega]; exact h8
   unfold W at hw
   cases g with
   | none =>
    have hw1 : wantedV all o T = some true := by
     unfold gslot at h3
     unfold wantedV
     cases hg : o.guard with
     | none => rfl
     | some p =>
      rw [hg] at h3
      obtain ⟨_, _, e⟩ := Option.map_eq_some_iff.1 h3
      cases e
    obtain ⟨q, h5, h6, h7, h8, h8', h9⟩ := hw
    simp only [Bool.false_or] at h5 h6 h7 h8 h8' h9
    have hst : stepV P cl o ⟨T, D, H⟩ = some (q.1, ⟨T, q.2.1, q.2.2⟩) := by rw [stepV_eq]; simp only; rw [h5]; rfl
    exact fin hw1 (by rw [if_pos rfl, hst]; exact dOk_set h6) h9 h7 (fun _ => ⟨h8, h8'⟩) (putO_get _ _ _)
   | some p =>
    obtain ⟨b, h5, h6, h7, h8⟩ := hw
    simp only [Bool.false_or] at h5 h6 h7 h8
    have hw1 : wantedV all o T = some b := by
     unfold gslot at h3
     unfold wantedV
     cases hg : o.guard with
     | none => rw [hg] at h3; cases h3
     | some r =>
      rw [hg] at h3
      obtain ⟨d, h9, e⟩ := Option.map_eq_some_iff.1 h3
      injection e with e
      subst e
      simp only at h5 ⊢
      rw [h9]
      exact h5
    by_cases e : b = true
    ·obtain ⟨q, h9, h10, h11, h11', h12⟩ := h7 e
     have hst : stepV P cl o ⟨T, D, H⟩ = some (q.1, ⟨T, q.2.1, q.2.2⟩) := by rw [stepV_eq]; simp only; rw [h9]; rfl
     exact fin hw1 (by rw [if_pos e, hst]; exact dOk_set h6) h12 h10 (fun _ => ⟨h11, h11'⟩) (putO_get _ _ _)
    ·exact fin hw1 (by rw [if_neg e]; exact dOk_set h6) (h8 (by simpa using e)) (fun _ => rfl) (fun e2 => absurd e2 e) (putO_get _ _ _)
theorem read_more {o : Op} {T : Fr} {H G : Hp} {r : V × Hp} (hk : kindB P o = .read) (h : opB P o T H = some r) : ∃ H', opB P o T (H ++ G) = some (r.1, H') := by
 obtain ⟨v, H1⟩ := r
 refine ⟨H ++ G, (readB_law hk h).2 _ fun x _ id _ b hb => ?_⟩
 rw [List.getElem?_append_left (List.getElem?_eq_some_iff.1 hb).1, hb]
theorem kind_read {o : Oper} (h : kind P o = .read) : immO o = false ∧ kindB P o.op = .read := by
 cases hi : immO o with
 | true => rw [kind_imm hi] at h; cases h
 | false => exact ⟨rfl, by rw [← kind_base hi]; exact h⟩
theorem opV_base {o : Oper} (h : immO o = false) (T : Fr) (H : Hp) : opV P o T H = opB P o.op T H := by
 unfold opV
 rw [if_neg (by simp [h])]
theorem still_run {n : Nat} {L : List St} {lo hi : Nat} (h : ∀ k, lo ≤ k → k ≤ hi → ∃ a b, L[k]? = some a ∧ L[k + 1]? = some b ∧ b.H.take n = a.H.take n) : ∀ d a b, lo + d ≤ hi + 1 → L[lo]? = some a → L[lo + d]? = some b → b.H.take n = a.H.take n
 | 0, a, b, _, h1, h2 => by rw [Nat.add_zero, h1] at h2; injection h2 with e; rw [e]
 | d + 1, a, b, hd, h1, h2 => by
  obtain ⟨x, y, h3, h4, h5⟩ := h (lo + d) (by omega) (by omega)
  have := still_run h d a x (by omega) h1 h3
  rw [show lo + (d + 1) = lo + d + 1 by omega, h4] at h2
  injection h2 with e
  rw [← e, h5, this]
theorem same_get {all : List Oper} {L : List St} (h : ∀ (j : Nat) (o : Oper), all[j]? = some o → ∃ s1 s2, L[j]? = some s1 ∧ L[j + 1]? = some s2 ∧ ∀ t, o.dst ≠ some t → get s2.T t = get s1.T t) {t : Nat} {lo : Nat} : ∀ (d : Nat) (a b : St), (∀ k o, lo ≤ k → k < lo + d → all[k]? = some o → o.dst ≠ some t) → lo + d ≤ all.length → L[lo]? = some a → L[lo + d]? = some b → get b.T t = get a.T t
 | 0, a, b, _, _, h1, h2 => by rw [Nat.add_zero, h1] at h2; injection h2 with e; rw [e]
 | d + 1, a, b, hk, hl, h1, h2 => by
  obtain ⟨x, y, h3, h4, h5⟩ := h (lo + d) _ (List.getElem?_eq_getElem (by omega : lo + d < all.length))
  have := same_get h d a x (fun k o h6 h7 => hk k o h6 (by omega)) (by omega) h1 h3
  rw [show lo + (d + 1) = lo + d + 1 by omega, h4] at h2
  injection h2 with e
  rw [← e, h5 t (hk (lo + d) _ (by omega) (by omega) (List.getElem?_eq_getElem (by omega))), this]
theorem readP_mem : ∀ {rs : List (Option (Nat × Bool) × Op)} {T : Fr} {H H' : Hp} {r : Option (Nat × Bool) × Op}, readP P rs T H H' → r ∈ rs → guardR r.1 T (readO (opB P r.2 T H) (opB P r.2 T H'))
 | r' :: rs, T, H, H', r, h, hm => by
  rcases List.mem_cons.1 hm with rfl | hm
  ·exact h.1
  ·exact readP_mem h.2 hm
theorem guard_wanted {all : List Oper} {o : Oper} {g : Option (Nat × Bool)} {T : Fr} {c : Prop} (hg : gslot all o = some g) (hw : wantedV all o T = some true) (h : guardR g T c) : c := by
 unfold gslot at hg
 unfold wantedV at hw
 split at hg
 ·rename_i e
  injection hg with hg
  subst hg
  exact h
 ·rename_i j w e
  obtain ⟨d, h1, rfl⟩ := Option.map_eq_some_iff.1 hg
  rw [e] at hw
  simp only [h1] at hw
  obtain ⟨b, h2, h3⟩ := h
  have hw' : wantB (get T d) w = some true := hw
  rw [h2] at hw'
  injection hw' with hw'
  exact h3 hw'
theorem dyn_of {n : Nat} {all : List Oper} {L : List St} (hearly : ((unordP P all).filter fun p => decide (p.1 < p.2)).all (earlyOk all) = true)
  (h : ∀ (j : Nat) (o : Oper), all[j]? = some o → ∃ s1 s2, L[j]? = some s1 ∧ L[j + 1]? = some s2 ∧ stillP (flagsOf ((unordP P all).filter fun p => !decide (p.1 < p.2)) j).1 n s2.H s1.H ∧ (wantedV all o s1.T = some true → selfP P (flagsOf ((unordP P all).filter fun p => !decide (p.1 < p.2)) j).2 n o.op (immO o) s1.T s1.H ∧ readP P (rdOf all ((unordP P all).filter fun p => decide (p.1 < p.2)) j) s1.T s1.H s2.H) ∧ ∀ t, o.dst ≠ some t → get s2.T t = get s1.T t) : drawDyn P all L = true := by
 have hgs : ∀ (j : Nat) (o : Oper), all[j]? = some o → ∃ s1 s2, L[j]? = some s1 ∧ L[j + 1]? = some s2 ∧ ∀ t, o.dst ≠ some t → get s2.T t = get s1.T t := fun j o hj =>
  let ⟨s1, s2, h1, h2, _, _, h3⟩ := h j o hj
  ⟨s1, s2, h1, h2, h3⟩
 unfold drawDyn
 simp only [List.all_eq_true, List.mem_range]
 intro q hq
 split
 ·rename_i oq sq hoq hsq
  simp only [Bool.or_eq_true, List.all_eq_true, List.mem_range]
  by_cases hk : kind P oq = .read
  ·by_cases hw : wantedV all oq sq.T = some true
   ·refine .inr fun e he => ?_
    split
    ·rename_i oe s1 s2 hoe hs1 hs2
     simp only [Bool.or_eq_true]
     by_cases hke : kind P oe = .eff
     ·by_cases hqe : waitsFor (befores all) q e = true
      ·simp [hqe]
      ·by_cases heq : waitsFor (befores all) e q = true
       ·simp [heq]
       ·by_cases hwe : wantedV all oe s1.T = some true
        ·refine .inr ?_
         have hmem : (q, e) ∈ unordP P all := by
          unfold unordP
          simp only [List.mem_flatMap, List.mem_filterMap, List.mem_range]
          refine ⟨q, hq, e, he, ?_⟩
          rw [hoq, hoe]
          simp only
          rw [if_pos]
          simp [hk, hke, hqe, heq]
         by_cases hlt : q < e
         ·have hme : (q, e) ∈ (unordP P all).filter fun p => decide (p.1 < p.2) := List.mem_filter.2 ⟨hmem, by simpa using hlt⟩
          have hok := List.all_eq_true.1 hearly _ hme
          unfold earlyOk at hok
          simp only [hoq, Bool.and_eq_true, List.all_eq_true, List.mem_range] at hok
          obtain ⟨hg, hok⟩ := hok
          obtain ⟨g, hg⟩ := Option.isSome_iff_exists.1 hg
          have hread : (g, oq.op) ∈ rdOf all ((unordP P all).filter fun p => decide (p.1 < p.2)) e := by
           unfold rdOf
           simp only [List.mem_filterMap]
           exact ⟨(q, e), hme, by simp [hoq, hg]⟩
          obtain ⟨s1', s2', h3, h4, _, h6, _⟩ := h e oe hoe
          rw [hs1] at h3
          rw [hs2] at h4
          injection h3 with h3
          injection h4 with h4
          subst h3 h4
          have hagree : ∀ t ∈ readsOf all oq, get s1.T t = get sq.T t := by
           intro t ht
           refine same_get hgs (lo := q) (e - q) sq s1 (fun k o h7 h8 h9 hd => ?_) (by omega) hsq (by rw [show q + (e - q) = e by omega]; exact hs1)
           have := hok k (by omega)
           rw [h9] at this
           simp only [hd, Bool.or_eq_true, decide_eq_true_eq, Bool.not_eq_true'] at this
           rcases this with h10 | h10
           ·omega
           ·rw [List.contains_iff_mem.2 ht] at h10
            cases h10
          have hwq : wantedV all oq s1.T = some true := by
           rw [← hw]
           unfold wantedV
           cases hgd : oq.guard with
           | none => rfl
           | some r =>
            simp only
            cases hd : (all[r.1]?).bind (·.dst) with
            | none => rfl
            | some d =>
             simp only
             rw [hagree d (by unfold readsOf; rw [hgd]; simp [hd])]
          obtain ⟨a, b, k1, k2, k3, k4⟩ := guard_wanted hg hwq (readP_mem (h6 hwe).2 hread)
          have hops : ∀ H, opV P oq s1.T H = opV P oq sq.T H := fun H => opV_congr _ fun x hx => by
           cases x with
           | tmp t => exact hagree t (by unfold readsOf; simp only [List.mem_append, List.mem_filterMap]; exact .inl ⟨.tmp t, by simpa using hx, rfl⟩)
           | const v => rfl
           | global g => rfl
           | func f => rfl
          obtain ⟨hni, hkb⟩ := kind_read hk
          have k1 : opV P oq s1.T s1.H = some a := by rw [opV_base hni]; exact k1
          have k2 : opV P oq s1.T s2.H = some b := by rw [opV_base hni]; exact k2
          rw [hops] at k1 k2
          rw [k1, k2]
          show eqA a.1 b.1 = true
          rw [k3]; exact k4
         ·have hml : (q, e) ∈ (unordP P all).filter fun p => !decide (p.1 < p.2) := List.mem_filter.2 ⟨hmem, by simpa using hlt⟩
          have hfl : ∀ k, min q e ≤ k → k ≤ max q e → ∃ a b, L[k]? = some a ∧ L[k + 1]? = some b ∧ b.H.take n = a.H.take n := by
           intro k h1 h2
           have hlt : k < all.length := by omega
           obtain ⟨a, b, h3, h4, h5, _⟩ := h k _ (List.getElem?_eq_getElem hlt)
           refine ⟨a, b, h3, h4, h5 ?_⟩
           simp only [flagsOf, List.any_eq_true, Bool.and_eq_true, decide_eq_true_eq]
           exact ⟨(q, e), hml, h1, h2⟩
          obtain ⟨s0, _, hs0, _⟩ := h (min q e) _ (List.getElem?_eq_getElem (by omega : min q e < all.length))
          have same : ∀ m s, min q e ≤ m → m ≤ max q e + 1 → L[m]? = some s → s.H.take n = s0.H.take n := by
           intro m s h1 h2 h3
           exact still_run hfl (m - min q e) s0 s (by omega) hs0 (by rw [show min q e + (m - min q e) = m by omega]; exact h3)
          have e1 := same e s1 (by omega) (by omega) hs1
          have e2 := same (e + 1) s2 (by omega) (by omega) hs2
          have e3 := same q sq (by omega) (by omega) hsq
          obtain ⟨sq', _, h3, _, _, h6, _⟩ := h q oq hoq
          rw [hsq] at h3
          injection h3 with h3
          subst h3
          obtain ⟨r, h7, h8⟩ := (h6 hw).1 (by simp only [flagsOf, List.any_eq_true]; exact ⟨(q, e), hml, by simp⟩)
          have k1 : s1.H.take n = sq.H.take n := e1.trans e3.symm
          have k2 : s2.H.take n = sq.H.take n := e2.trans e3.symm
          obtain ⟨hni, hkb⟩ := kind_read hk
          rw [hni] at h7
          have h7 : opB P oq.op sq.T (sq.H.take n) = some r := h7
          obtain ⟨H1, h9⟩ := read_more (G := s1.H.drop n) hkb h7
          obtain ⟨H2, h10⟩ := read_more (G := s2.H.drop n) hkb h7
          rw [← k1, List.take_append_drop] at h9
          rw [← k2, List.take_append_drop] at h10
          rw [opV_base hni, opV_base hni, h9, h10]
          exact h8
        ·simp [hwe]
     ·simp [hke]
    ·rfl
   ·simp [hw]
  ·simp [hk]
 ·rfl
end
end
end Go.An
namespace Go.An
open Go
section
variable [Orc]
variable {P : Program} {Pr : Prims} {N : Nat}
theorem Big_code {c : Cc} {s s' : St} {e : Ex} (h : Big P (callL P Pr) N c s e s') : ∀ code, compC P N code = some c → codeL P Pr N code s = some (e, s') := by
 induction h with
 | skip s =>
  intro code hc
  cases code <;> simp only [compC] at hc <;> try cases hc
  ·rw [codeL_eq]; rfl
  ·obtain ⟨_, _, e⟩ := Option.map_eq_some_iff.1 hc; cases e
  ·obtain ⟨_, _, hc⟩ := Option.bind_eq_some_iff.1 hc; obtain ⟨_, _, e⟩ := Option.map_eq_some_iff.1 hc; cases e
  ·obtain ⟨_, _, hc⟩ := Option.bind_eq_some_iff.1 hc; obtain ⟨_, _, e⟩ := Option.map_eq_some_iff.1 hc; cases e
  ·obtain ⟨_, _, e⟩ := Option.map_eq_some_iff.1 hc; cases e
  ·obtain ⟨_, _, e⟩ := Option.map_eq_some_iff.1 hc; cases e
 | reg l s s' hw =>
  intro code hc
  cases code <;> simp only [compC] at hc <;> try cases hc
  ·rename_i id ops draw
   obtain ⟨l', h1, e⟩ := Option.map_eq_some_iff.1 hc
   injection e with e
   subst e
   rw [codeL_eq]
   unfold compR at h1
   simp only [codeF]
   split at h1
   ·rename_i hd
    split at h1
    ·rename_i hok
     obtain ⟨hok, hearly⟩ := hok
     obtain ⟨tr, h2, _, h3⟩ := W_trace h1 hw
     rw [if_pos hd, if_pos hok, h2]
     simp only [Option.bind_some]
     rw [if_pos]
     refine dyn_of (n := s.H.length) hearly fun j o hj => ?_
     obtain ⟨s1, s2, h4, h5, h6, h7⟩ := h3 j o hj
     rw [Nat.zero_add] at h6 h7
     exact ⟨s1, s2, h4, h5, h6, h7⟩
    ·cases h1
   ·rename_i hd
    have h2 := W_ops h1 hw
    rw [if_neg hd, h2]
    rfl
  ·obtain ⟨_, _, hc⟩ := Option.bind_eq_some_iff.1 hc; obtain ⟨_, _, e⟩ := Option.map_eq_some_iff.1 hc; cases e
  ·obtain ⟨_, _, hc⟩ := Option.bind_eq_some_iff.1 hc; obtain ⟨_, _, e⟩ := Option.map_eq_some_iff.1 hc; cases e
  ·obtain ⟨_, _, e⟩ := Option.map_eq_some_iff.1 hc; cases e
  ·obtain ⟨_, _, e⟩ := Option.map_eq_some_iff.1 hc; cases e
 | seq a b s s1 e s' _ _ ih1 ih2 =>
  intro code hc
  cases code <;> simp only [compC] at hc <;> try cases hc
  ·obtain ⟨_, _, e⟩ := Option.map_eq_some_iff.1 hc; cases e
  ·obtain ⟨x, h1, hc⟩ := Option.bind_eq_some_iff.1 hc
   obtain ⟨y, h2, e⟩ := Option.map_eq_some_iff.1 hc
   injection e with e1 e2
   subst e1 e2
   rw [codeL_eq]
   simp only [codeF]
   rw [ih1 _ h1]
   exact ih2 _ h2
  ·obtain ⟨_, _, hc⟩ := Option.bind_eq_some_iff.1 hc; obtain ⟨_, _, e⟩ := Option.map_eq_some_iff.1 hc; cases e
  ·obtain ⟨_, _, e⟩ := Option.map_eq_some_iff.1 hc; cases e
  ·obtain ⟨_, _, e⟩ := Option.map_eq_some_iff.1 hc; cases e
 | seqx a b s e s' _ hne ih1 =>
  intro code hc
  cases code <;> simp only [compC] at hc <;> try cases hc
  ·obtain ⟨_, _, e⟩ := Option.map_eq_some_iff.1 hc; cases e
  ·obtain ⟨x, h1, hc⟩ := Option.bind_eq_some_iff.1 hc
   obtain ⟨y, h2, e⟩ := Option.map_eq_some_iff.1 hc
   injection e with e1 e2
   subst e1 e2
   rw [codeL_eq]
   simp only [codeF]
   rw [ih1 _ h1]
   cases e with
   | nor => exact absurd rfl hne
   | exit id => rfl
   | ret => rfl
  ·obtain ⟨_, _, hc⟩ := Option.bind_eq_some_iff.1 hc; obtain ⟨_, _, e⟩ := Option.map_eq_some_iff.1 hc; cases e
  ·obtain ⟨_, _, e⟩ := Option.map_eq_some_iff.1 hc; cases e
  ·obtain ⟨_, _, e⟩ := Option.map_eq_some_iff.1 hc; cases e
 | condt c a b s e s' hv _ ih1 =>
  intro code hc
  cases code <;> simp only [compC] at hc <;> try cases hc
  ·obtain ⟨_, _, e⟩ := Option.map_eq_some_iff.1 hc; cases e
  ·obtain ⟨_, _, hc⟩ := Option.bind_eq_some_iff.1 hc; obtain ⟨_, _, e⟩ := Option.map_eq_some_iff.1 hc; cases e
  ·obtain ⟨x, h1, hc⟩ := Option.bind_eq_some_iff.1 hc
   obtain ⟨y, h2, e⟩ := Option.map_eq_some_iff.1 hc
   injection e with e0 e1 e2
   subst e0 e1 e2
   rw [codeL_eq]
   simp only [codeF]
   rw [hv]
   exact ih1 _ h1
  ·obtain ⟨_, _, e⟩ := Option.map_eq_some_iff.1 hc; cases e
  ·obtain ⟨_, _, e⟩ := Option.map_eq_some_iff.1 hc; cases e
 | condf c a b s e s' hv _ ih1 =>
  intro code hc
  cases code <;> simp only [compC] at hc <;> try cases hc
  ·obtain ⟨_, _, e⟩ := Option.map_eq_some_iff.1 hc; cases e
  ·obtain ⟨_, _, hc⟩ := Option.bind_eq_some_iff.1 hc; obtain ⟨_, _, e⟩ := Option.map_eq_some_iff.1 hc; cases e
  ·obtain ⟨x, h1, hc⟩ := Option.bind_eq_some_iff.1 hc
   obtain ⟨y, h2, e⟩ := Option.map_eq_some_iff.1 hc
   injection e with e0 e1 e2
   subst e0 e1 e2
   rw [codeL_eq]
   simp only [codeF]
   rw [hv]
   exact ih1 _ h2
  ·obtain ⟨_, _, e⟩ := Option.map_eq_some_iff.1 hc; cases e
  ·obtain ⟨_, _, e⟩ := Option.map_eq_some_iff.1 hc; cases e
 | block id b s e s' _ hne ih1 =>
  intro code hc
  cases code <;> simp only [compC] at hc <;> try cases hc
  ·obtain ⟨_, _, e⟩ := Option.map_eq_some_iff.1 hc; cases e
  ·obtain ⟨_, _, hc⟩ := Option.bind_eq_some_iff.1 hc; obtain ⟨_, _, e⟩ := Option.map_eq_some_iff.1 hc; cases e
  ·obtain ⟨_, _, hc⟩ := Option.bind_eq_some_iff.1 hc; obtain ⟨_, _, e⟩ := Option.map_eq_some_iff.1 hc; cases e
  ·obtain ⟨x, h1, e⟩ := Option.map_eq_some_iff.1 hc
   injection e with e0 e1
   subst e0 e1
   rw [codeL_eq]
   simp only [codeF]
   rw [ih1 _ h1]
   cases e with
   | nor => rfl
   | ret => rfl
   | exit j =>
    simp only [Option.map_some]
    rw [if_neg fun e => hne (by rw [e])]
  ·obtain ⟨_, _, e⟩ := Option.map_eq_some_iff.1 hc; cases e
 | blockx id b s s' _ ih1 =>
  intro code hc
  cases code <;> simp only [compC] at hc <;> try cases hc
  ·obtain ⟨_, _, e⟩ := Option.map_eq_some_iff.1 hc; cases e
  ·obtain ⟨_, _, hc⟩ := Option.bind_eq_some_iff.1 hc; obtain ⟨_, _, e⟩ := Option.map_eq_some_iff.1 hc; cases e
  ·obtain ⟨_, _, hc⟩ := Option.bind_eq_some_iff.1 hc; obtain ⟨_, _, e⟩ := Option.map_eq_some_iff.1 hc; cases e
  ·obtain ⟨x, h1, e⟩ := Option.map_eq_some_iff.1 hc
   injection e with e0 e1
   subst e0 e1
   rw [codeL_eq]
   simp only [codeF]
   rw [ih1 _ h1]
   simp only [Option.map_some, if_true]
  ·obtain ⟨_, _, e⟩ := Option.map_eq_some_iff.1 hc; cases e
 | loop b s s1 e s' _ _ ih1 ih2 =>
  intro code hc
  cases code <;> simp only [compC] at hc <;> try cases hc
  ·obtain ⟨_, _, e⟩ := Option.map_eq_some_iff.1 hc; cases e
  ·obtain ⟨_, _, hc⟩ := Option.bind_eq_some_iff.1 hc; obtain ⟨_, _, e⟩ := Option.map_eq_some_iff.1 hc; cases e
  ·obtain ⟨_, _, hc⟩ := Option.bind_eq_some_iff.1 hc; obtain ⟨_, _, e⟩ := Option.map_eq_some_iff.1 hc; cases e
  ·obtain ⟨_, _, e⟩ := Option.map_eq_some_iff.1 hc; cases e
  ·rename_i body
   have hc' := hc
   obtain ⟨x, h1, e⟩ := Option.map_eq_some_iff.1 hc
   injection e with e1
   subst e1
   rw [codeL_eq]
   simp only [codeF]
   rw [ih1 _ h1]
   exact ih2 (.loop body) hc'
 | loopx b s e s' _ hne ih1 =>
  intro code hc
  cases code <;> simp only [compC] at hc <;> try cases hc
  ·obtain ⟨_, _, e⟩ := Option.map_eq_some_iff.1 hc; cases e
  ·obtain ⟨_, _, hc⟩ := Option.bind_eq_some_iff.1 hc; obtain ⟨_, _, e⟩ := Option.map_eq_some_iff.1 hc; cases e
  ·obtain ⟨_, _, hc⟩ := Option.bind_eq_some_iff.1 hc; obtain ⟨_, _, e⟩ := Option.map_eq_some_iff.1 hc; cases e
  ·obtain ⟨_, _, e⟩ := Option.map_eq_some_iff.1 hc; cases e
  ·obtain ⟨x, h1, e⟩ := Option.map_eq_some_iff.1 hc
   injection e with e1
   subst e1
   rw [codeL_eq]
   simp only [codeF]
   rw [ih1 _ h1]
   cases e with
   | nor => exact absurd rfl hne
   | exit id => rfl
   | ret => rfl
 | exit id s =>
  intro code hc
  cases code <;> simp only [compC] at hc <;> try cases hc
  ·obtain ⟨_, _, e⟩ := Option.map_eq_some_iff.1 hc; cases e
  ·obtain ⟨_, _, hc⟩ := Option.bind_eq_some_iff.1 hc; obtain ⟨_, _, e⟩ := Option.map_eq_some_iff.1 hc; cases e
  ·obtain ⟨_, _, hc⟩ := Option.bind_eq_some_iff.1 hc; obtain ⟨_, _, e⟩ := Option.map_eq_some_iff.1 hc; cases e
  ·obtain ⟨_, _, e⟩ := Option.map_eq_some_iff.1 hc; cases e
  ·obtain ⟨_, _, e⟩ := Option.map_eq_some_iff.1 hc; cases e
  ·rw [codeL_eq]; rfl
 | ret s =>
  intro code hc
  cases code <;> simp only [compC] at hc <;> try cases hc
  ·obtain ⟨_, _, e⟩ := Option.map_eq_some_iff.1 hc; cases e
  ·obtain ⟨_, _, hc⟩ := Option.bind_eq_some_iff.1 hc; obtain ⟨_, _, e⟩ := Option.map_eq_some_iff.1 hc; cases e
  ·obtain ⟨_, _, hc⟩ := Option.bind_eq_some_iff.1 hc; obtain ⟨_, _, e⟩ := Option.map_eq_some_iff.1 hc; cases e
  ·obtain ⟨_, _, e⟩ := Option.map_eq_some_iff.1 hc; cases e
  ·obtain ⟨_, _, e⟩ := Option.map_eq_some_iff.1 hc; cases e
  ·rw [codeL_eq]; rfl
 | rng f ps ca cb s k a b q L h1 h2 h3 h4 h5 h6 h7 =>
  intro code hc
  cases code <;> simp only [compC] at hc
  case rangeFunc f' ps' ca' cb' =>
   injection hc with hc
   injection hc with e1 e2 e3 e4
   subst e1 e2 e3 e4
   rw [codeL_eq]
   simp only [codeF, h1]
   rw [if_neg (by simp [h2, h3, h4])]
   rw [h5]
   simp only [Option.bind_some, h6]
   rw [if_neg h7]
  all_goals first
   | (cases hc; done)
   | (obtain ⟨_, _, e⟩ := Option.map_eq_some_iff.1 hc; cases e; done)
   | (obtain ⟨_, _, hc⟩ := Option.bind_eq_some_iff.1 hc; obtain ⟨_, _, e⟩ := Option.map_eq_some_iff.1 hc; cases e; done)
theorem Wp_rng {cl : CallT} {f : Operand} {ps : List Nat} {ca cb : Code} {T : Fr} {D : Dfr} {H : Hp} {k : Nat} {a b : List V} {q : V × Hp} {L : LoopA} {Q : Ex → Fr → Dfr → Hp → Prop} (h1 : ev T f = .fn k a b) (h2 : k ≠ Y0) (h3 : inRound D = false) (h4 : (P.funcs[k]?).any (·.body.isSome) = true)
  (h5 : cl k (a ++ [.yld (H.length + 1)] ++ b) (H ++ [.dfr true, .loop ⟨T, N, ps, ca, cb, 0, .nor, H.length⟩]) = some q) (h6 : getLoopA q.2 (H.length + 1) = some L) (h7 : L.st ≠ 1) (h8 : Q L.pend T ((Y0, [.ptr H.length 0 0]) :: D) (q.2.set (H.length + 1) (.loop { L with st := 3 }))) : Wp P cl N (.rng f ps ca cb) T D H Q :=
 ⟨_, _, .rng f ps ca cb ⟨T, D, H⟩ k a b q L h1 h2 h3 h4 h5 h6 h7, h8⟩
theorem callL_round {id : Nat} {H : Hp} {L : LoopA} {vs : List V} {T : Fr} {cca ccb : Cc} {r : V × Hp} (h1 : getLoopA H id = some L) (h2 : L.st = 0) (h3 : L.ps.all (fun p => p < L.N) = true) (h4 : putL L.T L.ps vs = some T) (h5 : compC P L.N L.ca = some cca) (h6 : compC P L.N L.cb = some ccb)
  (h : Wp P (callL P Pr) L.N cca T [(Y0, [])] H fun e T D H1 => e = .nor ∧ ∃ L1, getLoopA H1 id = some L1 ∧ L1.st = 0 ∧ Wp P (callL P Pr) L.N ccb T D (H1.set id (.loop { L1 with st := 1 })) fun e _ _ H2 => ∃ L2, getLoopA H2 id = some L2 ∧ r = (match e with | .nor => (.bool true, H2.set id (.loop { L2 with st := 0, pend := .nor })) | e => (.bool false, H2.set id (.loop { L2 with st := 2, pend := e })))) : callL P Pr Y0 (.yld id :: vs) H = some r := by
 obtain ⟨e1, s1, b1, rfl, L1, g1, g2, e2, s2, b2, L2, g3, rfl⟩ := h
 have r1 := Big_code b1 _ h5
 have r2 := Big_code b2 _ h6
 rw [callL_eq]
 unfold callF
 rw [if_pos rfl]
 unfold roundV
 simp only [h1, Option.bind_some]
 rw [if_pos ⟨h2, h3⟩]
 simp only [h4, Option.bind_some, r1, g1]
 rw [if_pos g2]
 simp only [r2, Option.bind_some, g3, Option.map_some]
 cases e2 <;> rfl
def RetQ (P : Program) (rs : List ResultVar) (R : V → Hp → Prop) : Ex → Fr → Dfr → Hp → Prop
 | .exit _, _, _, _ => False
 | _, T, D, H => D = [] ∧ bindW ((mapO (resV P H T) rs).bind tupV) fun v => R v H
noncomputable def callB (P : Program) (Pr : Prims) : CallT := bodyF P Pr (codeL P Pr)
theorem callL_B {k : Nat} {args : List V} {H : Hp} (hp : Pr.call k = none) (hk : k ≠ Y0) (hu : Orc.pure k = false) : callL P Pr k args H = callB P Pr k args H := by
 rw [callL_eq]
 unfold callF preV
 rw [if_neg hk, hp, hu]
 rfl
theorem callL_pre {k : Nat} {args a : List V} {H : Hp} (hp : Pr.call k = none) (hk : k ≠ Y0) (hu : preV k args H = some a) : callL P Pr k args H = (callB P Pr k a []).bind fun q => if q.1.flat = true then some (q.1, H) else none := by
 rw [callL_eq]
 unfold callF
 rw [if_neg hk, hp]
 simp only [hu]
 rfl
theorem pur_eq {k : Nat} {args : List V} {H : Hp} {v : V} (hp : Pr.call k = none) (hu : Orc.pure k = true) (hi : mapO (inlR 0 H 9) args = some args) (hf : v.flat = true) (h : ∀ H, callB P Pr k args H = some (v, H)) (hk : k ≠ Y0 := by decide) : callL P Pr k args H = some (v, H) := by
 rw [callL_pre hp hk (by unfold preV; rw [if_pos hu]; exact hi), h]
 simp only [Option.bind_some, if_pos hf]
theorem pur_ex {k : Nat} {args : List V} {H : Hp} {R : V → Prop} (hp : Pr.call k = none) (hu : Orc.pure k = true) (hi : mapO (inlR 0 H 9) args = some args) (h : ∃ v H2, callB P Pr k args [] = some (v, H2) ∧ v.flat = true ∧ R v) (hk : k ≠ Y0 := by decide) : ∃ v, callL P Pr k args H = some (v, H) ∧ R v := by
 obtain ⟨v, H2, h1, h2, h3⟩ := h
 refine ⟨v, ?_, h3⟩
 rw [callL_pre hp hk (by unfold preV; rw [if_pos hu]; exact hi), h1]
 simp only [Option.bind_some, if_pos h2]
theorem pur_inl {k : Nat} {args a : List V} {H : Hp} (hp : Pr.call k = none) (hu : Orc.pure k = true) (hi : mapO (inlR 0 H 9) args = some a) (ha : mapO (inlR 0 H 9) a = some a) (hk : k ≠ Y0 := by decide) : callL P Pr k args H = callL P Pr k a H := by
 rw [callL_pre hp hk (by unfold preV; rw [if_pos hu]; exact hi), callL_pre hp hk (by unfold preV; rw [if_pos hu]; exact ha)]
theorem callB_of {k n : Nat} {fn : Func} {code : Code} {c : Cc} (hf : P.funcs[k]? = some fn) (hb : fn.body = some code) (hc : compC P n code = some c) {rs : List ResultVar} (hr : fn.results.toList = rs) {args : List V} (hn : max args.length fn.ntmps = n) {H : Hp} {R : V → Hp → Prop}
  (h : Wp P (callL P Pr) n c args [] H (RetQ P rs R)) : ∃ v H', R v H' ∧ callB P Pr k args H = some (Pr.gc k H (v, H')) := by
 obtain ⟨e, s', h1, h2⟩ := h
 have hrun := Big_code h1 code hc
 cases e with
 | exit id => exact h2.elim
 | nor =>
  obtain ⟨hD, v, hv, hR⟩ := h2
  refine ⟨v, s'.H, hR, ?_⟩
  unfold callB bodyF
  simp only [hf, hb, Option.bind_some, hn, hrun, hD, defersV]
  unfold resultsV
  rw [hr, hv]
  rfl
 | ret =>
  obtain ⟨hD, v, hv, hR⟩ := h2
  refine ⟨v, s'.H, hR, ?_⟩
  unfold callB bodyF
  simp only [hf, hb, Option.bind_some, hn, hrun, hD, defersV]
  unfold resultsV
  rw [hr, hv]
  rfl
theorem call_of {k n : Nat} {fn : Func} {code : Code} {c : Cc} (hp : Pr.call k = none) (hf : P.funcs[k]? = some fn) (hb : fn.body = some code) (hc : compC P n code = some c) {rs : List ResultVar} (hr : fn.results.toList = rs) {args : List V} (hn : max args.length fn.ntmps = n) {H : Hp} {R : V → Hp → Prop}
  (h : Wp P (callL P Pr) n c args [] H (RetQ P rs R)) (hk : k ≠ Y0 := by decide) (hu : Orc.pure k = false := by rfl) : ∃ v H', R v H' ∧ callL P Pr k args H = some (Pr.gc k H (v, H')) := by
 rw [callL_B hp hk hu]
 exact callB_of hf hb hc hr hn h
end
end Go.An
namespace Go.An
open Go
section
variable [Orc]
variable {P : Program} {cl : CallT} {N n0 : Nat} {T : Fr} {D : Dfr} {H : Hp} {Q : Fr → Dfr → Hp → Prop} {R : Ex → Fr → Dfr → Hp → Prop} {rest : List Co}
@[go_sem] theorem bindW_some {α : Type} (a : α) (k : α → Prop) : bindW (some a) k = k a := by simp [bindW]
def brQ (P : Program) (cl : CallT) (N : Nat) (v : V) (a b : Cc) (T : Fr) (D : Dfr) (H : Hp) (R : Ex → Fr → Dfr → Hp → Prop) : Prop := ∃ x, v = .bool x ∧ (x = true → Wp P cl N a T D H R) ∧ (x = false → Wp P cl N b T D H R)
@[go_sem] theorem brQ_t (a b : Cc) : brQ P cl N (.bool true) a b T D H R = Wp P cl N a T D H R := by simp [brQ]
@[go_sem] theorem brQ_f (a b : Cc) : brQ P cl N (.bool false) a b T D H R = Wp P cl N b T D H R := by simp [brQ]
theorem brQ_dec {p : Prop} [Decidable p] {a b : Cc} (h1 : p → Wp P cl N a T D H R) (h2 : ¬ p → Wp P cl N b T D H R) : brQ P cl N (.bool (decide p)) a b T D H R := ⟨_, rfl, fun h => h1 (of_decide_eq_true h), fun h => h2 (of_decide_eq_false h)⟩
theorem brQ_bool {x : Bool} {a b : Cc} (h1 : x = true → Wp P cl N a T D H R) (h2 : x = false → Wp P cl N b T D H R) : brQ P cl N (.bool x) a b T D H R := ⟨_, rfl, h1, h2⟩
@[go_sem] theorem stillP_f (n : Nat) (x y : Hp) : stillP false n x y = True := by simp [stillP]
@[go_sem] theorem stillP_t (n : Nat) (x y : Hp) : stillP true n x y = (x.take n = y.take n) := by simp [stillP]
def selfO (x : Option V) : Prop := ∃ v, x = some v ∧ eqA v v = true
@[go_sem] theorem selfO_some (v : V) : selfO (some v) = (eqA v v = true) := by simp [selfO]
@[go_sem] theorem selfP_f (n : Nat) (o : Op) (im : Bool) : selfP P false n o im T H = True := by simp [selfP]
@[go_sem] theorem readP_nil (H' : Hp) : readP P [] T H H' = True := rfl
@[go_sem] theorem readP_none (o : Op) (rs : List (Option (Nat × Bool) × Op)) (H' : Hp) : readP P ((none, o) :: rs) T H H' = (readO (opB P o T H) (opB P o T H') ∧ readP P rs T H H') := rfl
def guardV (v : V) (w : Bool) (c : Prop) : Prop := ∃ x, wantB v w = some x ∧ (x = true → c)
@[go_sem] theorem guardV_tup (vs : List V) (w : Bool) (c : Prop) : guardV (.tup vs) w c = True := by simp [guardV, wantB]
@[go_sem] theorem guardV_tt (c : Prop) : guardV (.bool true) true c = c := by simp [guardV, wantB]
@[go_sem] theorem guardV_tf (c : Prop) : guardV (.bool true) false c = True := by simp [guardV, wantB]
@[go_sem] theorem guardV_ft (c : Prop) : guardV (.bool false) true c = True := by simp [guardV, wantB]
@[go_sem] theorem guardV_ff (c : Prop) : guardV (.bool false) false c = c := by simp [guardV, wantB]
@[go_sem] theorem readP_some (j : Nat) (w : Bool) (o : Op) (rs : List (Option (Nat × Bool) × Op)) (H' : Hp) : readP P ((some (j, w), o) :: rs) T H H' = (guardV (get T j) w (readO (opB P o T H) (opB P o T H')) ∧ readP P rs T H H') := rfl
def readV (x y : Option V) : Prop := ∃ a b, x = some a ∧ y = some b ∧ b = a ∧ eqA a a = true
@[go_sem] theorem readV_some (a b : V) : readV (some a) (some b) = (b = a ∧ eqA a a = true) := by simp [readV]
theorem readO_of {x y : Option V} {H H' : Hp} : readO (x.map fun v => (v, H)) (y.map fun v => (v, H')) = readV x y := by
 simp only [readO, readV, eq_iff_iff]
 constructor
 ·rintro ⟨a, b, h1, h2, h3, h4⟩
  obtain ⟨v, h5, rfl⟩ := Option.map_eq_some_iff.1 h1
  obtain ⟨w, h6, rfl⟩ := Option.map_eq_some_iff.1 h2
  exact ⟨v, w, h5, h6, h3, h4⟩
 ·rintro ⟨a, b, rfl, rfl, h3, h4⟩
  exact ⟨_, _, rfl, rfl, h3, h4⟩
@[go_sem] theorem readO_load (t : TypeId) (a : Operand) (H' : Hp) : readO (opB P (.load t a) T H) (opB P (.load t a) T H') = readV (loadV P t H (ev T a)) (loadV P t H' (ev T a)) := readO_of
@[go_sem] theorem readO_lookup (t : TypeId) (x i : Operand) (ok : Bool) (H' : Hp) : readO (opB P (.lookup t x i ok) T H) (opB P (.lookup t x i ok) T H') = readV (lookupV P t H (ev T x) (ev T i) ok) (lookupV P t H' (ev T x) (ev T i) ok) := readO_of
@[go_sem] theorem readO_slice (t : TypeId) (x : Operand) (lo hi : Option Operand) (H' : Hp) : readO (opB P (.slice t x lo hi none) T H) (opB P (.slice t x lo hi none) T H') = readV (sliceV P t H (ev T x).dem1 (lo.map (ev T)) (hi.map (ev T))) (sliceV P t H' (ev T x).dem1 (lo.map (ev T)) (hi.map (ev T))) := readO_of
@[go_sem] theorem readO_slice3 (t : TypeId) (x hi mx : Operand) (lo : Option Operand) (H' : Hp) : readO (opB P (.slice t x lo (some hi) (some mx)) T H) (opB P (.slice t x lo (some hi) (some mx)) T H') = readV (slice3V P t (ev T x).dem1 (lo.map (ev T)) (ev T hi) (ev T mx)) (slice3V P t (ev T x).dem1 (lo.map (ev T)) (ev T hi) (ev T mx)) := readO_of
def lenL (P : Program) (t : TypeId) (H : Hp) : List V → Option V
 | [x] => lenV P t H x.dem1
 | _ => none
@[go_sem] theorem lenL_one (t : TypeId) (x : V) : lenL P t H [x] = lenV P t H x.dem1 := rfl
@[go_sem] theorem readO_len (ags : Array Operand) (t : TypeId) (ts : List TypeId) (H' : Hp) : readO (opB P (.call ⟨.builtin .len, ags, List.toArray (t :: ts)⟩) T H) (opB P (.call ⟨.builtin .len, ags, List.toArray (t :: ts)⟩) T H') = readV (lenL P t H (ags.toList.map (ev T))) (lenL P t H' (ags.toList.map (ev T))) := by
 have h : ∀ H, opB P (.call ⟨.builtin .len, ags, List.toArray (t :: ts)⟩) T H = (lenL P t H (ags.toList.map (ev T))).map fun v => (v, H) := by
  intro H
  simp only [opB, builtinV]
  generalize ags.toList.map (ev T) = l
  match l with
  | [x] => rfl
  | [] => rfl
  | _ :: _ :: _ => rfl
 rw [h, h, readO_of]
def bindO (l : List V) (k : V → Prop) : Prop := ∃ x, l = [x] ∧ k x
theorem selfP_of {n : Nat} {o : Op} {x : Option V} (h : opB P o T (H.take n) = x.map fun v => (v, H.take n)) : selfP P true n o false T H = selfO x := by
 simp only [selfP, true_implies, opF, Bool.false_eq_true, if_false, h, selfO, eq_iff_iff]
 constructor
 ·rintro ⟨r, h1, h2⟩
  obtain ⟨v, h3, rfl⟩ := Option.map_eq_some_iff.1 h1
  exact ⟨v, h3, h2⟩
 ·rintro ⟨v, rfl, h2⟩
  exact ⟨_, rfl, h2⟩
@[go_sem] theorem selfP_load (n : Nat) (t : TypeId) (a : Operand) : selfP P true n (.load t a) false T H = selfO (loadV P t (H.take n) (ev T a)) := selfP_of rfl
@[go_sem] theorem selfP_lookup (n : Nat) (t : TypeId) (x i : Operand) (ok : Bool) : selfP P true n (.lookup t x i ok) false T H = selfO (lookupV P t (H.take n) (ev T x) (ev T i) ok) := selfP_of rfl
@[go_sem] theorem selfP_slice (n : Nat) (t : TypeId) (x : Operand) (lo hi : Option Operand) : selfP P true n (.slice t x lo hi none) false T H = selfO (sliceV P t (H.take n) (ev T x).dem1 (lo.map (ev T)) (hi.map (ev T))) := selfP_of rfl
@[go_sem] theorem selfP_slice3 (n : Nat) (t : TypeId) (x hi mx : Operand) (lo : Option Operand) : selfP P true n (.slice t x lo (some hi) (some mx)) false T H = selfO (slice3V P t (ev T x).dem1 (lo.map (ev T)) (ev T hi) (ev T mx)) := selfP_of rfl
@[go_sem] theorem selfP_len (n : Nat) (ags : Array Operand) (t : TypeId) (ts : List TypeId) : selfP P true n (.call ⟨.builtin .len, ags, List.toArray (t :: ts)⟩) false T H = bindO (ags.toList.map (ev T)) fun x => selfO (lenV P t (H.take n) x.dem1) := by
 simp only [selfP, true_implies, opF, Bool.false_eq_true, if_false, opB, builtinV, selfO, bindO, eq_iff_iff]
 generalize ags.toList.map (ev T) = l
 constructor
 ·rintro ⟨r, h1, h2⟩
  match l, h1 with
  | [x], h1 =>
   obtain ⟨v, h3, rfl⟩ := Option.map_eq_some_iff.1 h1
   exact ⟨x, rfl, v, h3, h2⟩
  | [], h1 => cases h1
  | _ :: _ :: _, h1 => cases h1
 ·rintro ⟨x, rfl, v, h1, h2⟩
  simp only [h1]
  exact ⟨_, rfl, h2⟩
@[go_sem] theorem bindO_one (v : V) (k : V → Prop) : bindO [v] k = k v := by simp [bindO]
@[go_sem] theorem eqA_int (k : IntKind) (n : Int) : eqA (.int k n) (.int k n) = true := by simp [eqA, eqC, eqBase]
@[go_sem] theorem eqA_bool (c : Bool) : eqA (.bool c) (.bool c) = true := by simp [eqA, eqC, eqBase]
@[go_sem] theorem eqA_str (c : List UInt8) : eqA (.str c) (.str c) = true := by simp [eqA, eqC, eqBase]
@[go_sem] theorem eqA_agg (cs : List V) : eqA (.agg cs) (.agg cs) = eqList eqC cs cs := rfl
@[go_sem] theorem eqA_nilslice : eqA .nilslice .nilslice = true := rfl
@[go_sem] theorem eqA_slice (a b c d e : Nat) (cp : Cap) : eqA (.slice a b c d e cp) (.slice a b c d e cp) = true := by cases cp <;> simp [eqA, eqC, eqBase]
@[go_sem] theorem eqA_ptr (a b c : Nat) : eqA (.ptr a b c) (.ptr a b c) = true := by simp [eqA, eqC, eqBase]
@[go_sem] theorem eqA_map (a : Nat) : eqA (.map a) (.map a) = true := by simp [eqA, eqC, eqBase]
@[go_sem] theorem take_len (l : Hp) : l.take l.length = l := List.take_length
@[go_sem] theorem take_app1 (l a : Hp) : (l ++ a).take l.length = l := List.take_left' rfl
@[go_sem] theorem take_app2 (l a b : Hp) : ((l ++ a) ++ b).take l.length = l := by rw [List.append_assoc, take_app1]
@[go_sem] theorem take_app3 (l a b c : Hp) : (((l ++ a) ++ b) ++ c).take l.length = l := by rw [List.append_assoc, take_app2]
@[go_sem] theorem take_app4 (l a b c d : Hp) : ((((l ++ a) ++ b) ++ c) ++ d).take l.length = l := by rw [List.append_assoc, take_app3]
@[go_sem] theorem W_nil : W P cl N n0 [] T D H Q = Q T D H := rfl
def stepQ (P : Program) (cl : CallT) (N n0 : Nat) (x : Option (V × Dfr × Hp)) (d : Option Nat) (a : Bool) (rs : List (Option (Nat × Bool) × Op)) (rest : List Co) (T : Fr) (H : Hp) (Q : Fr → Dfr → Hp → Prop) : Prop := ∃ q, x = some q ∧ (stillP a n0 q.2.2 H ∧ readP P rs T H q.2.2 ∧ W P cl N n0 rest (putO T d q.1) q.2.1 q.2.2 Q)
def guardQ (P : Program) (cl : CallT) (N n0 : Nat) (v : V) (w : Bool) (sf : Prop) (x : Option (V × Dfr × Hp)) (d : Option Nat) (a : Bool) (rs : List (Option (Nat × Bool) × Op)) (rest : List Co) (T : Fr) (D : Dfr) (H : Hp) (Q : Fr → Dfr → Hp → Prop) : Prop := ∃ b, wantB v w = some b ∧ (b = true → sf ∧ stepQ P cl N n0 x d a rs rest T H Q) ∧ (b = false → W P cl N n0 rest (putO T d (.tup [])) D H Q)
def guardB (P : Program) (cl : CallT) (N n0 : Nat) (b w : Bool) (sf : Prop) (x : Option (V × Dfr × Hp)) (d : Option Nat) (a : Bool) (rs : List (Option (Nat × Bool) × Op)) (rest : List Co) (T : Fr) (D : Dfr) (H : Hp) (Q : Fr → Dfr → Hp → Prop) : Prop := (b = w → sf ∧ stepQ P cl N n0 x d a rs rest T H Q) ∧ (b ≠ w → W P cl N n0 rest (putO T d (.tup [])) D H Q)
section
variable {sf : Prop} {x : Option (V × Dfr × Hp)} {d : Option Nat} {a : Bool} {rs : List (Option (Nat × Bool) × Op)}
@[go_sem] theorem stepQ_some (v : V) (D' : Dfr) (H' : Hp) (d : Nat) (a : Bool) (rs : List (Option (Nat × Bool) × Op)) : stepQ P cl N n0 (some (v, D', H')) (some d) a rs rest T H Q = (stillP a n0 H' H ∧ readP P rs T H H' ∧ W P cl N n0 rest (put T d v) D' H' Q) := by simp [stepQ, putO]
@[go_sem] theorem stepQ_some0 (v : V) (D' : Dfr) (H' : Hp) (a : Bool) (rs : List (Option (Nat × Bool) × Op)) : stepQ P cl N n0 (some (v, D', H')) none a rs rest T H Q = (stillP a n0 H' H ∧ readP P rs T H H' ∧ W P cl N n0 rest T D' H' Q) := by simp [stepQ, putO]
@[go_sem] theorem guardQ_b (b w : Bool) : guardQ P cl N n0 (.bool b) w sf x d a rs rest T D H Q = guardB P cl N n0 b w sf x d a rs rest T D H Q := by
 simp only [guardQ, guardB, wantB, Option.some.injEq, eq_iff_iff]
 constructor
 ·rintro ⟨c, rfl, h1, h2⟩
  exact ⟨fun e => h1 (by simp [e]), fun e => h2 (by simpa using e)⟩
 ·rintro ⟨h1, h2⟩
  exact ⟨_, rfl, fun e => h1 (by simpa using e), fun e => h2 (by simpa using e)⟩
@[go_sem] theorem guardB_tt : guardB P cl N n0 true true sf x d a rs rest T D H Q = (sf ∧ stepQ P cl N n0 x d a rs rest T H Q) := by simp [guardB]
@[go_sem] theorem guardB_ff : guardB P cl N n0 false false sf x d a rs rest T D H Q = (sf ∧ stepQ P cl N n0 x d a rs rest T H Q) := by simp [guardB]
@[go_sem] theorem guardB_tf (d : Nat) : guardB P cl N n0 true false sf x (some d) a rs rest T D H Q = W P cl N n0 rest (put T d (.tup [])) D H Q := by simp [guardB, putO]
@[go_sem] theorem guardB_ft (d : Nat) : guardB P cl N n0 false true sf x (some d) a rs rest T D H Q = W P cl N n0 rest (put T d (.tup [])) D H Q := by simp [guardB, putO]
@[go_sem] theorem guardB_tf0 : guardB P cl N n0 true false sf x none a rs rest T D H Q = W P cl N n0 rest T D H Q := by simp [guardB, putO]
@[go_sem] theorem guardB_ft0 : guardB P cl N n0 false true sf x none a rs rest T D H Q = W P cl N n0 rest T D H Q := by simp [guardB, putO]
@[go_sem] theorem guardQ_tup (vs : List V) (w : Bool) (d : Nat) : guardQ P cl N n0 (.tup vs) w sf x (some d) a rs rest T D H Q = W P cl N n0 rest (put T d (.tup [])) D H Q := by simp [guardQ, putO, wantB]
@[go_sem] theorem guardQ_tup0 (vs : List V) (w : Bool) : guardQ P cl N n0 (.tup vs) w sf x none a rs rest T D H Q = W P cl N n0 rest T D H Q := by simp [guardQ, putO, wantB]
@[congr] theorem guardB_congr {b b' w : Bool} {sf sf' : Prop} {x x' : Option (V × Dfr × Hp)} (hb : b = b') (hs : b' = w → sf = sf') (hx : b' = w → x = x') : guardB P cl N n0 b w sf x d a rs rest T D H Q = guardB P cl N n0 b' w sf' x' d a rs rest T D H Q := by
 subst hb
 unfold guardB
 by_cases h : b = w
 ·rw [hs h, hx h]
 ·simp [h]
def iteB (b w : Bool) (x y : V) : V := if b = w then x else y
@[go_sem] theorem iteB_tt (x y : V) : iteB true true x y = x := rfl
@[go_sem] theorem iteB_ff (x y : V) : iteB false false x y = x := rfl
@[go_sem] theorem iteB_tf (x y : V) : iteB true false x y = y := rfl
@[go_sem] theorem iteB_ft (x y : V) : iteB false true x y = y := rfl
@[go_sem] theorem guardB_pure (b w : Bool) (v : V) (d : Nat) : guardB P cl N n0 b w True (some (v, D, H)) (some d) false [] rest T D H Q = W P cl N n0 rest (put T d (iteB b w v (.tup []))) D H Q := by
 unfold guardB iteB
 by_cases h : b = w
 ·simp [h, stepQ, stillP, readP, putO]
 ·simp [h, putO]
theorem guardB_dec {p : Prop} [Decidable p] {w : Bool} (h1 : p → guardB P cl N n0 true w sf x d a rs rest T D H Q) (h2 : ¬ p → guardB P cl N n0 false w sf x d a rs rest T D H Q) : guardB P cl N n0 (decide p) w sf x d a rs rest T D H Q := by
 by_cases h : p
 ·rw [decide_eq_true h]; exact h1 h
 ·rw [decide_eq_false h]; exact h2 h
theorem guardB_bool {b w : Bool} (h1 : b = true → guardB P cl N n0 true w sf x d a rs rest T D H Q) (h2 : b = false → guardB P cl N n0 false w sf x d a rs rest T D H Q) : guardB P cl N n0 b w sf x d a rs rest T D H Q := by
 cases b with
 | true => exact h1 rfl
 | false => exact h2 rfl
end
@[go_sem] theorem W_c (d : Nat) (o : Op) (im a b : Bool) (rs : List (Option (Nat × Bool) × Op)) : W P cl N n0 (⟨some d, o, im, none, a, b, rs⟩ :: rest) T D H Q = (d < N ∧ selfP P b n0 o im T H ∧ stepQ P cl N n0 (stepW P cl o im T D H) (some d) a rs rest T H Q) := by
 simp only [W, bindW, dOk, stepQ, eq_iff_iff]
 constructor
 ·rintro ⟨q, h1, h2, h3, h4, h5⟩; exact ⟨h2, h4, q, h1, h3, h5⟩
 ·rintro ⟨h2, h4, q, h1, h3, h5⟩; exact ⟨q, h1, h2, h3, h4, h5⟩
@[go_sem] theorem W_c0 (o : Op) (im a b : Bool) (rs : List (Option (Nat × Bool) × Op)) : W P cl N n0 (⟨none, o, im, none, a, b, rs⟩ :: rest) T D H Q = (selfP P b n0 o im T H ∧ stepQ P cl N n0 (stepW P cl o im T D H) none a rs rest T H Q) := by
 simp only [W, bindW, dOk, stepQ, true_and, eq_iff_iff]
 constructor
 ·rintro ⟨q, h1, h3, h4, h5⟩; exact ⟨h4, q, h1, h3, h5⟩
 ·rintro ⟨h4, q, h1, h3, h5⟩; exact ⟨q, h1, h3, h4, h5⟩
@[go_sem] theorem W_g (d : Nat) (o : Op) (im : Bool) (j : Nat) (w a b : Bool) (rs : List (Option (Nat × Bool) × Op)) : W P cl N n0 (⟨some d, o, im, some (j, w), a, b, rs⟩ :: rest) T D H Q = (d < N ∧ guardQ P cl N n0 (get T j) w (selfP P b n0 o im T H) (stepW P cl o im T D H) (some d) a rs rest T D H Q) := by
 simp only [W, bindW, dOk, stepQ, guardQ, eq_iff_iff]
 constructor
 ·rintro ⟨x, h1, h2, h3, h4⟩
  refine ⟨h2, x, h1, fun e => ?_, h4⟩
  obtain ⟨q, h5, h6, h7, h8⟩ := h3 e
  exact ⟨h7, q, h5, h6, h8⟩
 ·rintro ⟨h2, x, h1, h3, h4⟩
  refine ⟨x, h1, h2, fun e => ?_, h4⟩
  obtain ⟨h7, q, h5, h6, h8⟩ := h3 e
  exact ⟨q, h5, h6, h7, h8⟩
@[go_sem] theorem W_g0 (o : Op) (im : Bool) (j : Nat) (w a b : Bool) (rs : List (Option (Nat × Bool) × Op)) : W P cl N n0 (⟨none, o, im, some (j, w), a, b, rs⟩ :: rest) T D H Q = guardQ P cl N n0 (get T j) w (selfP P b n0 o im T H) (stepW P cl o im T D H) none a rs rest T D H Q := by
 simp only [W, bindW, dOk, stepQ, guardQ, eq_iff_iff, true_and]
 constructor
 ·rintro ⟨x, h1, h3, h4⟩
  refine ⟨x, h1, fun e => ?_, h4⟩
  obtain ⟨q, h5, h6, h7, h8⟩ := h3 e
  exact ⟨h7, q, h5, h6, h8⟩
 ·rintro ⟨x, h1, h3, h4⟩
  refine ⟨x, h1, fun e => ?_, h4⟩
  obtain ⟨h7, q, h5, h6, h8⟩ := h3 e
  exact ⟨q, h5, h6, h7, h8⟩
@[go_sem] theorem get_put_eq (T : Fr) (d : Nat) (v : V) (i : Nat) : get (put T d v) i = if i = d then v else get T i := get_put T d v i
@[go_sem] theorem get_cons0 (v : V) (T : Fr) : get (v :: T) 0 = v := rfl
@[go_sem] theorem get_consS (v : V) (T : Fr) (i : Nat) : get (v :: T) (i + 1) = get T i := rfl
@[go_sem] theorem ev_tmp (t : Nat) : ev T (.tmp t) = get T t := rfl
@[go_sem] theorem ev_func (f : Nat) : ev T (.func f) = .fn f [] [] := rfl
@[go_sem] theorem ev_int (k : IntKind) (n : Int) : ev T (.const (.int k n)) = .int k n := rfl
@[go_sem] theorem ev_bool (b : Bool) : ev T (.const (.bool b)) = .bool b := rfl
@[go_sem] theorem ev_str (a : Array UInt8) : ev T (.const (.string ⟨a⟩)) = .str a.toList := rfl
@[go_sem] theorem ev_nilptr : ev T (.const (.pointer none)) = .nilptr := rfl
@[go_sem] theorem ev_nilslice : ev T (.const (.slice none 0 0)) = .nilslice := rfl
@[go_sem] theorem ev_nilmap : ev T (.const (.map none)) = .nilmap := rfl
@[go_sem] theorem ev_nilfn : ev T (.const .nilFunc) = .nilfn := rfl
@[go_sem] theorem ev_agg (cs : Array Value) : ev T (.const (.agg cs)) = .agg (cs.toList.map ofCell) := rfl
@[go_sem] theorem ofCell_int (k : IntKind) (n : Int) : ofCell (.int k n) = .int k n := rfl
@[go_sem] theorem ofCell_bool (b : Bool) : ofCell (.bool b) = .bool b := rfl
@[go_sem] theorem ofCell_str (a : Array UInt8) : ofCell (.string ⟨a⟩) = .str a.toList := rfl
@[go_sem] theorem ofCell_nilptr : ofCell (.pointer none) = .nilptr := rfl
@[go_sem] theorem ofCell_nilslice : ofCell (.slice none 0 0) = .nilslice := rfl
@[go_sem] theorem ofCell_nilmap : ofCell (.map none) = .nilmap := rfl
def mapS (D : Dfr) (x : Option (V × Hp)) : Option (V × Dfr × Hp) := x.map fun q => (q.1, D, q.2)
def mapV (D : Dfr) (H : Hp) (x : Option V) : Option (V × Dfr × Hp) := x.map fun v => (v, D, H)
def mapH (D : Dfr) (x : Option Hp) : Option (V × Dfr × Hp) := x.map fun h => (.tup [], D, h)
@[go_sem] theorem mapS_some (v : V) (h : Hp) : mapS D (some (v, h)) = some (v, D, h) := rfl
@[go_sem] theorem mapV_some (v : V) : mapV D H (some v) = some (v, D, H) := rfl
@[go_sem] theorem mapH_some (h : Hp) : mapH D (some h) = some (.tup [], D, h) := rfl
theorem map_map_V (x : Option V) : (x.map fun v => (v, H)).map (fun q : V × Hp => (q.1, D, q.2)) = mapV D H x := by cases x <;> rfl
theorem map_map_H (x : Option Hp) : (x.map fun h => (V.tup [], h)).map (fun q : V × Hp => (q.1, D, q.2)) = mapH D x := by cases x <;> rfl
@[go_sem] theorem s_move (x : Operand) : stepW P cl (.move x) false T D H = some (ev T x, D, H) := rfl
@[go_sem] theorem s_assign (x : Operand) : stepW P cl (.assign x) false T D H = some (ev T x, D, H) := rfl
@[go_sem] theorem si_assign (x : Operand) : stepW P cl (.assign x) true T D H = some (.osl H.length [] 0 0, D, H ++ [.tok 0]) := rfl
def pickV : V → V → V → Option V
 | .bool true, a, _ => some a
 | .bool false, _, b => some b
 | _, _, _ => none
@[go_sem] theorem pickV_t (a b : V) : pickV (.bool true) a b = some a := rfl
@[go_sem] theorem pickV_f (a b : V) : pickV (.bool false) a b = some b := rfl
@[go_sem] theorem pickV_and (b c : Bool) (y : V) : pickV (.bool b) (iteB b true (.bool c) y) (.bool false) = some (.bool (b && c)) := by cases b <;> rfl
@[go_sem] theorem pickV_or (b c : Bool) (y : V) : pickV (.bool b) (.bool true) (iteB b false (.bool c) y) = some (.bool (b || c)) := by cases b <;> rfl
@[go_sem] theorem s_pick (c a b : Operand) : stepW P cl (.pick c a b) false T D H = mapV D H (pickV (ev T c) (ev T a) (ev T b)) := by
 simp only [stepW, opF, Bool.false_eq_true, if_false, opB]
 generalize ev T c = v
 cases v with
 | bool b => cases b <;> rfl
 | _ => rfl
@[go_sem] theorem s_alloc (e : TypeId) : stepW P cl (.alloc e) false T D H = mapS D ((zeroV P e).bind fun z => newRowV z.cells H) := rfl
@[go_sem] theorem si_box (e : TypeId) (x : Operand) : stepW P cl (.box e x) true T D H = mapV D H (if immL (ev T x).dem.cells = true then some (.ipt (ev T x).dem.cells 0) else none) := by
 simp only [stepW, opF, if_true, immV]; split <;> rfl
@[go_sem] theorem si_buildSlice (t : TypeId) (n : Nat) (ps : Array (Nat × Operand)) : stepW P cl (.buildSlice t n ps) true T D H = mapV D H (immSl P t n (ps.toList.map fun p => (p.1, (ev T p.2).dem))) := by
 simp only [stepW, opF, if_true, immV]
 generalize immSl P t n _ = r
 cases r <;> rfl
@[go_sem] theorem si_conv (s d : TypeId) (x : Operand) : stepW P cl (.convert s d x) true T D H = mapV D H (immCv P s d (ev T x)) := by
 simp only [stepW, opF, if_true, immV]
 generalize immCv P s d _ = r
 cases r <;> rfl
def appI (P : Program) (t t1 : TypeId) : List V → Option V
 | [s, x] => immApp P t t1 s x
 | _ => none
@[go_sem] theorem appI_two (t t1 : TypeId) (s x : V) : appI P t t1 [s, x] = immApp P t t1 s x := rfl
@[go_sem] theorem si_append (ags : Array Operand) (t t1 : TypeId) : stepW P cl (.call ⟨.builtin .append, ags, #[t, t1]⟩) true T D H = mapV D H (appI P t t1 (ags.toList.map fun x => (ev T x).dem1)) := by
 simp only [stepW, opF, if_true, immV]
 generalize (ags.toList.map fun x => (ev T x).dem1) = l
 match l with
 | [] => rfl
 | [_] => rfl
 | [s, x] =>
  simp only [appI]
  generalize immApp P t t1 s x = r
  cases r <;> rfl
 | _ :: _ :: _ :: _ => rfl
@[go_sem] theorem imm_int (k : IntKind) (n : Int) : (V.int k n).imm = true := rfl
@[go_sem] theorem imm_bool (b : Bool) : (V.bool b).imm = true := rfl
@[go_sem] theorem imm_str (b : List UInt8) : (V.str b).imm = true := rfl
@[go_sem] theorem imm_nilptr : V.nilptr.imm = true := rfl
@[go_sem] theorem imm_nilslice : V.nilslice.imm = true := rfl
@[go_sem] theorem imm_nilmap : V.nilmap.imm = true := rfl
@[go_sem] theorem imm_nilfn : V.nilfn.imm = true := rfl
@[go_sem] theorem imm_nilif : V.nilif.imm = true := rfl
@[go_sem] theorem imm_isl (cs : List V) (n sz : Nat) : (V.isl cs n sz).imm = immL cs := by simp [V.imm]
@[go_sem] theorem imm_ipt (cs : List V) (off : Nat) : (V.ipt cs off).imm = immL cs := by simp [V.imm]
@[go_sem] theorem immL_nil : immL [] = true := rfl
@[go_sem] theorem immL_cons (c : V) (cs : List V) : immL (c :: cs) = (c.imm && immL cs) := by simp [immL]
@[go_sem] theorem isBase_isl (cs : List V) (n sz : Nat) : (V.isl cs n sz).isBase = true := rfl
@[go_sem] theorem isBase_ipt (cs : List V) (off : Nat) : (V.ipt cs off).isBase = true := rfl
@[go_sem] theorem isBase_nilfn : V.nilfn.isBase = true := rfl
@[go_sem] theorem isBase_nilif : V.nilif.isBase = true := rfl
@[go_sem] theorem isCell_isl (cs : List V) (n sz : Nat) : (V.isl cs n sz).isCell = true := rfl
@[go_sem] theorem isCell_ipt (cs : List V) (off : Nat) : (V.ipt cs off).isCell = true := rfl
@[go_sem] theorem isCell_nilif : V.nilif.isCell = true := rfl
@[go_sem] theorem cells_isl (cs : List V) (n sz : Nat) : (V.isl cs n sz).cells = [.isl cs n sz] := rfl
@[go_sem] theorem cells_ipt (cs : List V) (off : Nat) : (V.ipt cs off).cells = [.ipt cs off] := rfl
@[go_sem] theorem cells_nilif : V.nilif.cells = [.nilif] := rfl
@[go_sem] theorem nt_isl (cs : List V) (n sz : Nat) : (V.isl cs n sz).isTup = false := rfl
@[go_sem] theorem nt_ipt (cs : List V) (off : Nat) : (V.ipt cs off).isTup = false := rfl
@[go_sem] theorem nt_fn (f : Nat) (a b : List V) : (V.fn f a b).isTup = false := rfl
@[go_sem] theorem nt_nilfn : V.nilfn.isTup = false := rfl
@[go_sem] theorem nt_nilif : V.nilif.isTup = false := rfl
@[go_sem] theorem nt_nilmap : V.nilmap.isTup = false := rfl
@[go_sem] theorem eqA_isl (cs : List V) (n sz : Nat) : eqA (.isl cs n sz) (.isl cs n sz) = true := by simp [eqA, eqC, eqBase, eqIL_refl]
@[go_sem] theorem eqA_ipt (cs : List V) (off : Nat) : eqA (.ipt cs off) (.ipt cs off) = true := by simp [eqA, eqC, eqBase, eqIL_refl]
@[go_sem] theorem s_box (e : TypeId) (x : Operand) : stepW P cl (.box e x) false T D H = mapS D (newRowV (ev T x).cells H) := rfl
@[go_sem] theorem s_build (t : TypeId) (ps : Array (Nat × Operand)) : stepW P cl (.build t ps) false T D H = mapV D H (buildV P t (ps.toList.map fun p => (p.1, ev T p.2))) := map_map_V _
@[go_sem] theorem s_buildSlice (t : TypeId) (n : Nat) (ps : Array (Nat × Operand)) : stepW P cl (.buildSlice t n ps) false T D H = mapS D (buildSliceV P t n (ps.toList.map fun p => (p.1, ev T p.2)) H) := rfl
@[go_sem] theorem s_load (t : TypeId) (a : Operand) : stepW P cl (.load t a) false T D H = mapV D H (loadV P t H (ev T a)) := map_map_V _
@[go_sem] theorem s_store (t : TypeId) (a x : Operand) : stepW P cl (.store t a x) false T D H = mapH D (storeV P t H (ev T a) (ev T x)) := map_map_H _
def nilckV : V → Option V
 | .ptr id g off => some (.ptr id g off)
 | .fn f a b => some (.fn f a b)
 | .ipt cs off => some (.ipt cs off)
 | .ifc t b cs => some (.ifc t b cs)
 | _ => none
@[go_sem] theorem nilckV_ifc (t : TypeId) (b : Bool) (cs : List V) : nilckV (.ifc t b cs) = some (.ifc t b cs) := rfl
@[go_sem] theorem nilckV_ipt (cs : List V) (off : Nat) : nilckV (.ipt cs off) = some (.ipt cs off) := rfl
@[go_sem] theorem nilckV_ptr (id g off : Nat) : nilckV (.ptr id g off) = some (.ptr id g off) := rfl
@[go_sem] theorem nilckV_fn (f : Nat) (a b : List V) : nilckV (.fn f a b) = some (.fn f a b) := rfl
@[go_sem] theorem s_nilck (x : Operand) : stepW P cl (.nilCheck x) false T D H = mapV D H (nilckV (ev T x)) := by
 simp only [stepW, opF, Bool.false_eq_true, if_false, opB]
 generalize ev T x = v
 cases v <;> rfl
@[go_sem] theorem s_bin (op : BinOp) (t : TypeId) (x y : Operand) (u : TypeId) : stepW P cl (.binOp op t x y u) false T D H = mapV D H (binV P op t (ev T x).dem1 (ev T y).dem1) := map_map_V _
@[go_sem] theorem s_un (op : UnOp) (t : TypeId) (x : Operand) : stepW P cl (.unOp op t x) false T D H = mapV D H (unV op (ev T x)) := map_map_V _
@[go_sem] theorem s_conv (s d : TypeId) (x : Operand) : stepW P cl (.convert s d x) false T D H = mapS D (convV P s d H (ev T x).dem1) := rfl
@[go_sem] theorem s_func (f : Nat) (a b : Array Operand) : stepW P cl (.makeFunc (.func f) a b) false T D H = mapV D H (if (a.toList.map fun x => (ev T x).dem1).all V.isBase = true ∧ (b.toList.map fun x => (ev T x).dem1).all V.isBase = true then some (.fn f (a.toList.map fun x => (ev T x).dem1) (b.toList.map fun x => (ev T x).dem1)) else none) := by
 simp only [stepW, opF, Bool.false_eq_true, if_false, opB]; split <;> rfl
@[go_sem] theorem s_makeSlice (t : TypeId) (l c : Operand) : stepW P cl (.makeSlice t l c) false T D H = mapS D (makeSliceV P t H (ev T l) (ev T c)) := rfl
@[go_sem] theorem s_slice (t : TypeId) (x : Operand) (lo hi : Option Operand) : stepW P cl (.slice t x lo hi none) false T D H = mapV D H (sliceV P t H (ev T x).dem1 (lo.map (ev T)) (hi.map (ev T))) := map_map_V _
@[go_sem] theorem s_slice3 (t : TypeId) (x hi mx : Operand) (lo : Option Operand) : stepW P cl (.slice t x lo (some hi) (some mx)) false T D H = mapV D H (slice3V P t (ev T x).dem1 (lo.map (ev T)) (ev T hi) (ev T mx)) := map_map_V _
@[go_sem] theorem s_fieldAddr (s : TypeId) (x : Operand) (f : Nat) : stepW P cl (.fieldAddr s x f) false T D H = mapV D H (fieldAddrV P s (ev T x) f) := map_map_V _
@[go_sem] theorem s_field (s : TypeId) (x : Operand) (f : Nat) : stepW P cl (.field s x f) false T D H = mapV D H (fieldV P s (ev T x) f) := map_map_V _
@[go_sem] theorem s_indexAddr (t : TypeId) (x i : Operand) : stepW P cl (.indexAddr t x i) false T D H = mapV D H (indexAddrV P t (ev T x).dem1 (ev T i)) := map_map_V _
@[go_sem] theorem s_index (t : TypeId) (x i : Operand) : stepW P cl (.index t x i) false T D H = mapV D H (indexV P t (ev T x) (ev T i)) := map_map_V _
@[go_sem] theorem s_lookup (t : TypeId) (x i : Operand) (ok : Bool) : stepW P cl (.lookup t x i ok) false T D H = mapV D H (lookupV P t H (ev T x) (ev T i) ok) := map_map_V _
@[go_sem] theorem s_mapUpdate (t : TypeId) (m k x : Operand) : stepW P cl (.mapUpdate t m k x) false T D H = mapH D (updateV P t H (ev T m) (ev T k) (ev T x)) := map_map_H _
@[go_sem] theorem s_insert (t : TypeId) (m k x : Operand) : stepW P cl (.insert t m k x) false T D H = mapH D (updateV P t H (ev T m) (ev T k) (ev T x)) := map_map_H _
def extV : V → Nat → Option V
 | .tup vs, i => vs[i]?
 | _, _ => none
@[go_sem] theorem extV_tup0 (v : V) (vs : List V) : extV (.tup (v :: vs)) 0 = some v := rfl
@[go_sem] theorem extV_tupS (v : V) (vs : List V) (i : Nat) : extV (.tup (v :: vs)) (i + 1) = extV (.tup vs) i := by simp [extV]
@[go_sem] theorem s_extract (x : Operand) (i : Nat) : stepW P cl (.extract x i) false T D H = mapV D H (extV (ev T x) i) := by
 simp only [stepW, opF, Bool.false_eq_true, if_false, opB]
 generalize ev T x = v
 cases v <;> first | exact map_map_V _ | rfl
@[go_sem] theorem s_builtin (b : Builtin) (ags : Array Operand) (ts : Array TypeId) : stepW P cl (.call ⟨.builtin b, ags, ts⟩) false T D H = mapS D (builtinV P b ts (ags.toList.map (ev T)) H) := rfl
def demK (k : Nat) (v : V) : V := if k = Y0 then .undef else if Orc.keep k = true then v else v.dem
theorem ne_demK {k : Nat} (h : ∀ v, demK k v = v.dem) : k ≠ Y0 := by
 rintro rfl
 have := h (.bool true)
 unfold demK at this
 rw [if_pos rfl] at this
 cases this
theorem demK_ne {k : Nat} (h : k ≠ Y0) : demK k = fun v => if Orc.keep k = true then v else v.dem := by
 funext v
 unfold demK
 rw [if_neg h]
def appW (cl : CallT) (D : Dfr) (f : V) (ags : List V) (H : Hp) : Option (V × Dfr × Hp) :=
 match f with
 | .fn k a b => if k = Y0 then none else mapS D (cl k (a ++ ags.map (demK k) ++ b) H)
 | .yld id => mapS D (cl Y0 (.yld id :: ags.map V.dem) H)
 | _ => none
@[go_sem] theorem appW_fn (k : Nat) (a b ags : List V) (h : k ≠ Y0) : appW cl D (.fn k a b) ags H = mapS D (cl k (a ++ ags.map (demK k) ++ b) H) := if_neg h
@[go_sem] theorem appW_yld (id : Nat) (ags : List V) : appW cl D (.yld id) ags H = mapS D (cl Y0 (.yld id :: ags.map V.dem) H) := rfl
@[go_sem] theorem s_call (im : Bool) (f : Operand) (ags : Array Operand) (ts : Array TypeId) : stepW P cl (.call ⟨.value f, ags, ts⟩) im T D H = appW cl D (ev T f) (ags.toList.map (ev T)) H := by
 simp only [stepW, calleeV]
 generalize ev T f = v
 cases v <;> try rfl
 ·rename_i k a b
  simp only [appW]
  by_cases h : k = Y0
  ·rw [if_pos h, if_pos h]; rfl
  ·rw [if_neg h, if_neg h, demK_ne h, List.map_map]; rfl
 ·simp only [appW, List.map_map]; rfl
def metW (P : Program) (cl : CallT) (D : Dfr) (f : V) (nm : String) (ags : List V) (H : Hp) : Option (V × Dfr × Hp) :=
 match f with
 | .ifc t b cs => (methV P t nm).bind fun k => if k = Y0 then none else (if b then some (V.agg cs) else cs.head?).bind fun v => mapS D (cl k (v :: ags.map (demK k)) H)
 | _ => none
@[go_sem] theorem metW_ifc (t : TypeId) (b : Bool) (cs ags : List V) (nm : String) {k : Nat} {v : V} (h1 : methV P t nm = some k) (h2 : k ≠ Y0) (h3 : (if b then some (V.agg cs) else cs.head?) = some v) : metW P cl D (.ifc t b cs) nm ags H = mapS D (cl k (v :: ags.map (demK k)) H) := by
 simp only [metW, h1, h3, Option.bind_some, if_neg h2]
@[go_sem] theorem s_meth (im : Bool) (f : Operand) (nm : String) (ags : Array Operand) (ts : Array TypeId) : stepW P cl (.call ⟨.invoke f nm, ags, ts⟩) im T D H = metW P cl D (ev T f) nm (ags.toList.map (ev T)) H := by
 simp only [stepW, calleeV]
 generalize ev T f = v
 cases v <;> try rfl
 rename_i t b cs
 simp only [metW]
 cases methV P t nm with
 | none => rfl
 | some k =>
  simp only [Option.bind_some]
  by_cases h : k = Y0
  ·rw [if_pos h, if_pos h]; rfl
  ·rw [if_neg h, if_neg h, demK_ne h, List.map_map]
   generalize (if b = true then some (V.agg cs) else cs.head?) = r
   cases r <;> rfl
def deferW (D : Dfr) (H : Hp) (f : V) (ags : List V) : Option (V × Dfr × Hp) :=
 match f with
 | .fn k a b => if inRound D = true ∨ k = Y0 then none else some (.tup [], (k, a ++ ags.map (demK k) ++ b) :: D, H)
 | _ => none
@[go_sem] theorem deferW_fn (k : Nat) (a b ags : List V) (h : k ≠ Y0) (hD : inRound D = false) : deferW D H (.fn k a b) ags = some (.tup [], (k, a ++ ags.map (demK k) ++ b) :: D, H) := if_neg (by simp [hD, h])
@[go_sem] theorem s_defer (im : Bool) (f : Operand) (ags : Array Operand) (ts : Array TypeId) : stepW P cl (.defer ⟨.value f, ags, ts⟩) im T D H = deferW D H (ev T f) (ags.toList.map (ev T)) := by
 simp only [stepW, calleeV]
 generalize ev T f = v
 cases v <;> try (simp only [deferW]; split <;> rfl)
 rename_i k a b
 simp only [deferW]
 by_cases h : k = Y0
 ·have e : (inRound D = true ∨ k = Y0) := Or.inr h
  rw [if_pos h, if_pos e]; split <;> rfl
 ·rw [if_neg h, demK_ne h, List.map_map]
  by_cases hD : inRound D = true
  ·have e : (inRound D = true ∨ k = Y0) := Or.inl hD
   rw [if_pos hD, if_pos e]
  ·rw [if_neg hD, if_neg (by simp [hD, h])]
   simp only [Option.bind_some, if_neg h]
   rfl
@[go_sem] theorem s_range (t : TypeId) (x : Operand) : stepW P cl (.range t x) false T D H = mapS D (rangeV P t H (ev T x)) := rfl
@[go_sem] theorem s_next (x : Operand) : stepW P cl (.next x true) false T D H = mapS D (nextV H (ev T x)) := rfl
@[go_sem] theorem s_ifc (t : TypeId) (x : Operand) : stepW P cl (.makeInterface t x) false T D H = mapV D H (ifcV P t (ev T x).dem) := map_map_V _
@[go_sem] theorem dem1_yld (id : Nat) : (V.yld id).dem1 = .yld id := rfl
@[go_sem] theorem dem1_ifc (t : TypeId) (b : Bool) (cs : List V) : (V.ifc t b cs).dem1 = .ifc t b cs := rfl
@[go_sem] theorem dem_yld (id : Nat) : (V.yld id).dem = .yld id := rfl
@[go_sem] theorem dem_ifc (t : TypeId) (b : Bool) (cs : List V) : (V.ifc t b cs).dem = .ifc t b cs := rfl
@[go_sem] theorem isCell_yld (id : Nat) : (V.yld id).isCell = true := rfl
@[go_sem] theorem isCell_ifc (t : TypeId) (b : Bool) (cs : List V) : (V.ifc t b cs).isCell = true := rfl
@[go_sem] theorem isBase_yld (id : Nat) : (V.yld id).isBase = true := rfl
@[go_sem] theorem cells_yld (id : Nat) : (V.yld id).cells = [.yld id] := rfl
@[go_sem] theorem cells_ifc (t : TypeId) (b : Bool) (cs : List V) : (V.ifc t b cs).cells = [.ifc t b cs] := rfl
@[go_sem] theorem nt_yld (id : Nat) : (V.yld id).isTup = false := rfl
@[go_sem] theorem nt_ifc (t : TypeId) (b : Bool) (cs : List V) : (V.ifc t b cs).isTup = false := rfl
@[go_sem] theorem eqA_yld (id : Nat) : eqA (.yld id) (.yld id) = true := by simp [eqA, eqC, eqBase]
@[go_sem] theorem dem1_int (k : IntKind) (n : Int) : (V.int k n).dem1 = .int k n := rfl
@[go_sem] theorem dem1_bool (b : Bool) : (V.bool b).dem1 = .bool b := rfl
@[go_sem] theorem dem1_str (b : List UInt8) : (V.str b).dem1 = .str b := rfl
@[go_sem] theorem dem1_nilptr : V.nilptr.dem1 = .nilptr := rfl
@[go_sem] theorem dem1_nilslice : V.nilslice.dem1 = .nilslice := rfl
@[go_sem] theorem dem1_nilmap : V.nilmap.dem1 = .nilmap := rfl
@[go_sem] theorem dem1_nilfn : V.nilfn.dem1 = .nilfn := rfl
@[go_sem] theorem dem1_nilif : V.nilif.dem1 = .nilif := rfl
@[go_sem] theorem dem1_ptr (a b c : Nat) : (V.ptr a b c).dem1 = .ptr a b c := rfl
@[go_sem] theorem dem1_slice (a b c d e : Nat) (cp : Cap) : (V.slice a b c d e cp).dem1 = .slice a b c d e cp := rfl
@[go_sem] theorem dem1_map (a : Nat) : (V.map a).dem1 = .map a := rfl
@[go_sem] theorem dem1_fn (f : Nat) (a b : List V) : (V.fn f a b).dem1 = .fn f a b := rfl
@[go_sem] theorem dem1_agg (cs : List V) : (V.agg cs).dem1 = .agg cs := rfl
@[go_sem] theorem dem1_tup (cs : List V) : (V.tup cs).dem1 = .tup cs := rfl
@[go_sem] theorem dem1_isl (cs : List V) (n sz : Nat) : (V.isl cs n sz).dem1 = .isl cs n sz := rfl
@[go_sem] theorem dem1_ipt (cs : List V) (off : Nat) : (V.ipt cs off).dem1 = .ipt cs off := rfl
theorem dem1_imm {v : V} (h : v.imm = true) : v.dem1 = v := by
 cases v <;> first | rfl | (simp [V.imm] at h; done)
theorem dem1_immL {l : List V} (h : immL l = true) : l.map V.dem1 = l := by
 have := immL_iff.1 h
 induction l with
 | nil => rfl
 | cons a l ih =>
  rw [List.map_cons, dem1_imm (this a (by simp)), ih (immL_iff.2 fun v hv => this v (by simp [hv])) fun v hv => this v (by simp [hv])]
@[go_sem] theorem dem_int (k : IntKind) (n : Int) : (V.int k n).dem = .int k n := rfl
@[go_sem] theorem dem_bool (b : Bool) : (V.bool b).dem = .bool b := rfl
@[go_sem] theorem dem_str (b : List UInt8) : (V.str b).dem = .str b := rfl
@[go_sem] theorem dem_nilptr : V.nilptr.dem = .nilptr := rfl
@[go_sem] theorem dem_nilslice : V.nilslice.dem = .nilslice := rfl
@[go_sem] theorem dem_nilmap : V.nilmap.dem = .nilmap := rfl
@[go_sem] theorem dem_nilfn : V.nilfn.dem = .nilfn := rfl
@[go_sem] theorem dem_nilif : V.nilif.dem = .nilif := rfl
@[go_sem] theorem dem_ptr (a b c : Nat) : (V.ptr a b c).dem = .ptr a b c := rfl
@[go_sem] theorem dem_slice (a b c d e : Nat) (cp : Cap) : (V.slice a b c d e cp).dem = .slice a b c d e cp := rfl
@[go_sem] theorem dem_map (a : Nat) : (V.map a).dem = .map a := rfl
@[go_sem] theorem dem_fn (f : Nat) (a b : List V) : (V.fn f a b).dem = .fn f a b := rfl
@[go_sem] theorem dem_agg (cs : List V) : (V.agg cs).dem = .agg (cs.map V.dem1) := rfl
@[go_sem] theorem dem_isl (cs : List V) (n sz : Nat) : (V.isl cs n sz).dem = .isl cs n sz := rfl
@[go_sem] theorem dem_ipt (cs : List V) (off : Nat) : (V.ipt cs off).dem = .ipt cs off := rfl
@[go_sem] theorem isCell_osl (id : Nat) (cs : List V) (n sz : Nat) : (V.osl id cs n sz).isCell = true := rfl
@[go_sem] theorem cells_osl (id : Nat) (cs : List V) (n sz : Nat) : (V.osl id cs n sz).cells = [.osl id cs n sz] := rfl
@[go_sem] theorem nt_osl (id : Nat) (cs : List V) (n sz : Nat) : (V.osl id cs n sz).isTup = false := rfl
@[go_sem] theorem eqA_osl (id : Nat) (cs : List V) (n sz : Nat) : eqA (.osl id cs n sz) (.osl id cs n sz) = true := by simp [eqA, eqC, eqBase, eqIL_refl]
attribute [go_sem] Int.natCast_zero Int.cast_ofNat_Int and_self if_true if_false true_and and_true decide_true decide_false Bool.not_true Bool.not_false Bool.false_eq_true Bool.and_true Bool.true_and Bool.and_false Bool.false_and ne_eq not_true_eq_false not_false_eq_true List.not_mem_nil Int.toNat_natCast
@[go_sem] theorem lmap_nil {α β : Type} (f : α → β) : [].map f = [] := rfl
@[go_sem] theorem lmap_cons {α β : Type} (f : α → β) (a : α) (l : List α) : (a :: l).map f = f a :: l.map f := rfl
@[go_sem] theorem omap_some' {α β : Type} (f : α → β) (a : α) : Option.map f (some a) = some (f a) := rfl
@[go_sem] theorem omap_none' {α β : Type} (f : α → β) : Option.map f none = none := rfl
@[go_sem] theorem obind_some' {α β : Type} (f : α → Option β) (a : α) : Option.bind (some a) f = f a := rfl
@[go_sem] theorem atoList {α : Type} (l : List α) : (List.toArray l).toList = l := rfl
@[go_sem] theorem nil_app {α : Type} (l : List α) : [] ++ l = l := rfl
@[go_sem] theorem cons_app {α : Type} (a : α) (l k : List α) : (a :: l) ++ k = a :: (l ++ k) := rfl
@[go_sem] theorem app_nil {α : Type} (l : List α) : l ++ [] = l := List.append_nil l
@[go_sem] theorem all_nil' {α : Type} (f : α → Bool) : [].all f = true := rfl
@[go_sem] theorem all_cons' {α : Type} (f : α → Bool) (a : α) (l : List α) : (a :: l).all f = (f a && l.all f) := rfl
@[go_sem] theorem tt_and (b : Bool) : (true && b) = b := rfl
@[go_sem] theorem isBase_ptr (a b c : Nat) : (V.ptr a b c).isBase = true := rfl
@[go_sem] theorem isBase_int (k : IntKind) (n : Int) : (V.int k n).isBase = true := rfl
@[go_sem] theorem isBase_bool (b : Bool) : (V.bool b).isBase = true := rfl
@[go_sem] theorem isBase_str (b : List UInt8) : (V.str b).isBase = true := rfl
@[go_sem] theorem isBase_slice (a b c d e : Nat) (cp : Cap) : (V.slice a b c d e cp).isBase = true := rfl
@[go_sem] theorem isBase_nilslice : V.nilslice.isBase = true := rfl
@[go_sem] theorem isBase_map (a : Nat) : (V.map a).isBase = true := rfl
@[go_sem] theorem isBase_nilmap : V.nilmap.isBase = true := rfl
@[go_sem] theorem isBase_nilptr : V.nilptr.isBase = true := rfl
@[go_sem] theorem isCell_ptr (a b c : Nat) : (V.ptr a b c).isCell = true := rfl
@[go_sem] theorem isCell_int (k : IntKind) (n : Int) : (V.int k n).isCell = true := rfl
@[go_sem] theorem isCell_bool (b : Bool) : (V.bool b).isCell = true := rfl
@[go_sem] theorem isCell_str (b : List UInt8) : (V.str b).isCell = true := rfl
@[go_sem] theorem isCell_slice (a b c d e : Nat) (cp : Cap) : (V.slice a b c d e cp).isCell = true := rfl
@[go_sem] theorem isCell_nilslice : V.nilslice.isCell = true := rfl
@[go_sem] theorem isCell_map (a : Nat) : (V.map a).isCell = true := rfl
@[go_sem] theorem isCell_nilmap : V.nilmap.isCell = true := rfl
@[go_sem] theorem isCell_nilptr : V.nilptr.isCell = true := rfl
@[go_sem] theorem isCell_fn (f : Nat) (a b : List V) : (V.fn f a b).isCell = true := rfl
@[go_sem] theorem isCell_nilfn : V.nilfn.isCell = true := rfl
@[go_sem] theorem cells_agg (cs : List V) : (V.agg cs).cells = cs := rfl
@[go_sem] theorem cells_int (k : IntKind) (n : Int) : (V.int k n).cells = [.int k n] := rfl
@[go_sem] theorem cells_bool (b : Bool) : (V.bool b).cells = [.bool b] := rfl
@[go_sem] theorem cells_str (b : List UInt8) : (V.str b).cells = [.str b] := rfl
@[go_sem] theorem cells_ptr (a b c : Nat) : (V.ptr a b c).cells = [.ptr a b c] := rfl
@[go_sem] theorem cells_slice (a b c d e : Nat) (cp : Cap) : (V.slice a b c d e cp).cells = [.slice a b c d e cp] := rfl
@[go_sem] theorem cells_nilslice : V.nilslice.cells = [.nilslice] := rfl
@[go_sem] theorem cells_map (a : Nat) : (V.map a).cells = [.map a] := rfl
@[go_sem] theorem cells_nilmap : V.nilmap.cells = [.nilmap] := rfl
@[go_sem] theorem cells_nilptr : V.nilptr.cells = [.nilptr] := rfl
@[go_sem] theorem cells_fn (f : Nat) (a b : List V) : (V.fn f a b).cells = [.fn f a b] := rfl
@[go_sem] theorem cells_nilfn : V.nilfn.cells = [.nilfn] := rfl
@[go_sem] theorem b_add (t : TypeId) (k : IntKind) (x y : Int) : binV P .add t (.int k x) (.int k y) = some (.int k (k.wrap (x + y))) := by simp [binV, intV]
@[go_sem] theorem b_sub (t : TypeId) (k : IntKind) (x y : Int) : binV P .sub t (.int k x) (.int k y) = some (.int k (k.wrap (x - y))) := by simp [binV, intV]
@[go_sem] theorem b_mul (t : TypeId) (k : IntKind) (x y : Int) : binV P .mul t (.int k x) (.int k y) = some (.int k (k.wrap (x * y))) := by simp [binV, intV]
@[go_sem] theorem b_quo (t : TypeId) (k : IntKind) (x y : Int) : binV P .quo t (.int k x) (.int k y) = if y = 0 then none else some (.int k (k.wrap (x.tdiv y))) := by simp [binV, intV]
@[go_sem] theorem b_rem (t : TypeId) (k : IntKind) (x y : Int) : binV P .rem t (.int k x) (.int k y) = if y = 0 then none else some (.int k (x.tmod y)) := by simp [binV, intV]
@[go_sem] theorem b_eql (t : TypeId) (k : IntKind) (x y : Int) : binV P .eql t (.int k x) (.int k y) = some (.bool (decide (x = y))) := by simp [binV, intV]; rfl
@[go_sem] theorem b_neq (t : TypeId) (k : IntKind) (x y : Int) : binV P .neq t (.int k x) (.int k y) = some (.bool (!decide (x = y))) := by simp [binV, intV]; rfl
@[go_sem] theorem b_lss (t : TypeId) (k : IntKind) (x y : Int) : binV P .lss t (.int k x) (.int k y) = some (.bool (decide (x < y))) := by simp [binV, intV]
@[go_sem] theorem b_leq (t : TypeId) (k : IntKind) (x y : Int) : binV P .leq t (.int k x) (.int k y) = some (.bool (decide (x ≤ y))) := by simp [binV, intV]
@[go_sem] theorem b_gtr (t : TypeId) (k : IntKind) (x y : Int) : binV P .gtr t (.int k x) (.int k y) = some (.bool (decide (y < x))) := by simp [binV, intV]
@[go_sem] theorem b_geq (t : TypeId) (k : IntKind) (x y : Int) : binV P .geq t (.int k x) (.int k y) = some (.bool (decide (y ≤ x))) := by simp [binV, intV]
@[go_sem] theorem b_str (op : BinOp) (t : TypeId) (x y : List UInt8) : binV P op t (.str x) (.str y) = strV op x y := by simp [binV]
@[go_sem] theorem b_seql (x y : List UInt8) : strV .eql x y = some (.bool (decide (x = y))) := by
 by_cases h : x = y <;> simp [strV, h]
@[go_sem] theorem b_sneq (x y : List UInt8) : strV .neq x y = some (.bool (!decide (x = y))) := by
 by_cases h : x = y <;> simp [strV, h]
theorem b_beql (t : TypeId) (x y : Bool) (h : P.underlying t = some .bool) : binV P .eql t (.bool x) (.bool y) = some (.bool (x == y)) := by simp [binV, eqV, h]
theorem b_bneq (t : TypeId) (x y : Bool) (h : P.underlying t = some .bool) : binV P .neq t (.bool x) (.bool y) = some (.bool (!(x == y))) := by simp [binV, eqV, h]
@[go_sem] theorem u_not (b : Bool) : unV .not (.bool b) = some (.bool (!b)) := by simp [unV]
@[go_sem] theorem u_neg (k : IntKind) (n : Int) : unV .neg (.int k n) = some (.int k (k.wrap (0 - n))) := by simp [unV]
@[go_sem] theorem Wp_skip : Wp P cl N .skip T D H R = R .nor T D H := by
 unfold Wp
 refine propext ⟨fun ⟨e, s', h, hq⟩ => ?_, fun h => ⟨.nor, _, .skip _, h⟩⟩
 cases h; exact hq
@[go_sem] theorem Wp_ret : Wp P cl N .ret T D H R = R .ret T D H := by
 unfold Wp
 refine propext ⟨fun ⟨e, s', h, hq⟩ => ?_, fun h => ⟨.ret, _, .ret _, h⟩⟩
 cases h; exact hq
@[go_sem] theorem Wp_exit (id : Nat) : Wp P cl N (.exit id) T D H R = R (.exit id) T D H := by
 unfold Wp
 refine propext ⟨fun ⟨e, s', h, hq⟩ => ?_, fun h => ⟨.exit id, _, .exit _ _, h⟩⟩
 cases h; exact hq
@[go_sem] theorem Wp_reg (l : List Co) : Wp P cl N (.reg l) T D H R = W P cl N H.length l T D H (R .nor) := by
 unfold Wp
 refine propext ⟨fun ⟨e, s', h, hq⟩ => ?_, fun h => ?_⟩
 ·cases h with
  | reg _ _ _ hw => exact W_iff.2 ⟨s', hw, hq⟩
 ·obtain ⟨s', hw, hq⟩ := W_iff.1 h
  exact ⟨.nor, s', .reg _ _ _ hw, hq⟩
@[go_sem] theorem Wp_seq (a b : Cc) : Wp P cl N (.seq a b) T D H R = Wp P cl N a T D H (seqQ P cl N b R) := by
 unfold Wp
 refine propext ⟨fun ⟨e, s', h, hq⟩ => ?_, fun ⟨e, s', h, hq⟩ => ?_⟩
 ·cases h with
  | seq _ _ _ s1 _ _ h1 h2 => exact ⟨.nor, s1, h1, e, s', h2, hq⟩
  | seqx _ _ _ _ _ h1 hne =>
   refine ⟨e, s', h1, ?_⟩
   cases e with
   | nor => exact absurd rfl hne
   | exit id => exact hq
   | ret => exact hq
 ·cases e with
  | nor =>
   obtain ⟨e, s2, h2, hq⟩ := hq
   exact ⟨e, s2, .seq _ _ _ s' _ _ h h2, hq⟩
  | exit id => exact ⟨_, s', .seqx _ _ _ _ _ h (by simp), hq⟩
  | ret => exact ⟨_, s', .seqx _ _ _ _ _ h (by simp), hq⟩
@[go_sem] theorem seqQ_nor (b : Cc) : seqQ P cl N b R .nor T D H = Wp P cl N b T D H R := rfl
@[go_sem] theorem seqQ_ret (b : Cc) : seqQ P cl N b R .ret T D H = R .ret T D H := rfl
@[go_sem] theorem seqQ_exit (b : Cc) (id : Nat) : seqQ P cl N b R (.exit id) T D H = R (.exit id) T D H := rfl
@[go_sem] theorem Wp_cond (c : Operand) (a b : Cc) : Wp P cl N (.cond c a b) T D H R = brQ P cl N (ev T c) a b T D H R := by
 unfold brQ
 refine propext ⟨fun ⟨e, s', h, hq⟩ => ?_, fun ⟨x, hx, h1, h2⟩ => ?_⟩
 ·cases h with
  | condt _ _ _ _ _ _ hv h1 => exact ⟨true, hv, fun _ => ⟨e, s', h1, hq⟩, fun h => by cases h⟩
  | condf _ _ _ _ _ _ hv h1 => exact ⟨false, hv, fun h => (by cases h), fun _ => ⟨e, s', h1, hq⟩⟩
 ·cases x with
  | true => obtain ⟨e, s', h, hq⟩ := h1 rfl; exact ⟨e, s', .condt _ _ _ _ _ _ hx h, hq⟩
  | false => obtain ⟨e, s', h, hq⟩ := h2 rfl; exact ⟨e, s', .condf _ _ _ _ _ _ hx h, hq⟩
@[go_sem] theorem Wp_block (id : Nat) (b : Cc) : Wp P cl N (.block id b) T D H R = Wp P cl N b T D H (blockQ id R) := by
 unfold Wp
 refine propext ⟨fun ⟨e, s', h, hq⟩ => ?_, fun ⟨e, s', h, hq⟩ => ?_⟩
 ·cases h with
  | block _ _ _ _ _ h1 hne =>
   refine ⟨e, s', h1, ?_⟩
   cases e with
   | nor => exact hq
   | ret => exact hq
   | exit j =>
    simp only [blockQ]
    rw [if_neg fun e => hne (by rw [e])]
    exact hq
  | blockx _ _ _ _ h1 =>
   refine ⟨_, s', h1, ?_⟩
   simp only [blockQ, if_true]
   exact hq
 ·cases e with
  | nor => exact ⟨_, s', .block _ _ _ _ _ h (by simp), hq⟩
  | ret => exact ⟨_, s', .block _ _ _ _ _ h (by simp), hq⟩
  | exit j =>
   simp only [blockQ] at hq
   split at hq
   ·rename_i e; subst e; exact ⟨_, s', .blockx _ _ _ _ h, hq⟩
   ·rename_i e; exact ⟨_, s', .block _ _ _ _ _ h (by simpa using e), hq⟩
@[go_sem] theorem blockQ_nor (id : Nat) : blockQ id R .nor T D H = R .nor T D H := rfl
@[go_sem] theorem blockQ_ret (id : Nat) : blockQ id R .ret T D H = R .ret T D H := rfl
@[go_sem] theorem blockQ_exit (id j : Nat) : blockQ id R (.exit j) T D H = if j = id then R .nor T D H else R (.exit j) T D H := rfl
theorem Wp_mono {R' : Ex → Fr → Dfr → Hp → Prop} {c : Cc} (h : Wp P cl N c T D H R) (hR : ∀ e T D H, R e T D H → R' e T D H) : Wp P cl N c T D H R' := by
 obtain ⟨e, s', h1, h2⟩ := h
 exact ⟨e, s', h1, hR _ _ _ _ h2⟩
def loopQ (I : Fr → Dfr → Hp → Prop) (R : Ex → Fr → Dfr → Hp → Prop) : Ex → Fr → Dfr → Hp → Prop
 | .nor, T, D, H => I T D H
 | e, T, D, H => R e T D H
@[go_sem] theorem loopQ_nor (I : Fr → Dfr → Hp → Prop) : loopQ I R .nor T D H = I T D H := rfl
@[go_sem] theorem loopQ_ret (I : Fr → Dfr → Hp → Prop) : loopQ I R .ret T D H = R .ret T D H := rfl
@[go_sem] theorem loopQ_exit (I : Fr → Dfr → Hp → Prop) (id : Nat) : loopQ I R (.exit id) T D H = R (.exit id) T D H := rfl
theorem Wp_loop (I : Nat → Fr → Dfr → Hp → Prop) {b : Cc} (h : ∀ m T D H, I m T D H → Wp P cl N b T D H (loopQ (fun T D H => ∃ m' < m, I m' T D H) R)) : ∀ m T D H, I m T D H → Wp P cl N (.loop b) T D H R := by
 intro m
 induction m using Nat.strongRecOn with
 | ind m ih =>
  intro T D H hI
  obtain ⟨e, s', h1, h2⟩ := h m T D H hI
  cases e with
  | nor =>
   obtain ⟨m', hm, h3⟩ := h2
   obtain ⟨e, s2, h4, h5⟩ := ih m' hm _ _ _ h3
   exact ⟨e, s2, .loop _ _ s' _ _ h1 h4, h5⟩
  | exit id => exact ⟨_, s', .loopx _ _ _ _ h1 (by simp), h2⟩
  | ret => exact ⟨_, s', .loopx _ _ _ _ h1 (by simp), h2⟩
@[go_sem] theorem RetQ_ret (rs : List ResultVar) (K : V → Hp → Prop) : RetQ P rs K .ret T D H = (D = [] ∧ bindW ((mapO (resV P H T) rs).bind tupV) fun v => K v H) := rfl
@[go_sem] theorem RetQ_nor (rs : List ResultVar) (K : V → Hp → Prop) : RetQ P rs K .nor T D H = (D = [] ∧ bindW ((mapO (resV P H T) rs).bind tupV) fun v => K v H) := rfl
@[go_sem] theorem mapO_nil {α β : Type} (f : α → Option β) : mapO f [] = some [] := rfl
@[go_sem] theorem mapO_cons {α β : Type} (f : α → Option β) (x : α) (l : List α) : mapO f (x :: l) = (f x).bind fun y => (mapO f l).map fun ys => y :: ys := rfl
@[go_sem] theorem resV_tmp (t : Nat) : resV P H T (.tmp t) = some (get T t) := rfl
@[go_sem] theorem resV_cell (a : Nat) (t : TypeId) : resV P H T (.cell a t) = loadV P t H (get T a) := rfl
@[go_sem] theorem tupV_one (v : V) : tupV [v] = some v := rfl
@[go_sem] theorem tupV_more (v w : V) (vs : List V) : tupV (v :: w :: vs) = if (v :: w :: vs).all (fun v => !v.isTup) = true then some (.tup (v :: w :: vs)) else none := rfl
@[go_sem] theorem tupV_nil : tupV [] = some (.tup []) := rfl
@[go_sem] theorem nt_int (k : IntKind) (n : Int) : (V.int k n).isTup = false := rfl
@[go_sem] theorem nt_bool (b : Bool) : (V.bool b).isTup = false := rfl
@[go_sem] theorem nt_str (b : List UInt8) : (V.str b).isTup = false := rfl
@[go_sem] theorem nt_agg (b : List V) : (V.agg b).isTup = false := rfl
@[go_sem] theorem nt_ptr (a b c : Nat) : (V.ptr a b c).isTup = false := rfl
@[go_sem] theorem nt_slice (a b c d e : Nat) (cp : Cap) : (V.slice a b c d e cp).isTup = false := rfl
@[go_sem] theorem nt_nilslice : V.nilslice.isTup = false := rfl
@[go_sem] theorem nt_map (a : Nat) : (V.map a).isTup = false := rfl
@[go_sem] theorem nt_nilptr : V.nilptr.isTup = false := rfl
end
end Go.An
