/-
  The abstract machine, part T: code, calls, and fuel. No statement of the seat stands here.
-/
import Derived.Test.YtdpdlobaabcjjaaAmS
namespace Go.Am
open Go

section
variable {P : Program} {cl : CallT} {N b0 : Nat} {ρ : Ren} {W : World} {a : Act}

def exitOf : Ex → Exit
  | .nor => .normal
  | .exit id => .exit id
  | .ret => .ret

/-- Inside of a loop. -/
def LoopIn (P : Program) (c : Code) (Q : Exit → Act → World → Prop) (a : Act) (w : World) : Prop :=
  ∀ (b : Frame) (k : List Item) (cs : List Frame), ∃ e a' w', Q e a' w' ∧ Arrives P (lone (b.at a (.code c :: .inLoop c :: k)) cs w) b k cs e a' w'
theorem LoopIn.wp {c : Code} {Q : Exit → Act → World → Prop} (h : LoopIn P c Q a W) : (Code.loop c).wp P Q a W := fun b k cs =>
  let ⟨e, a', w', q, r⟩ := h b k cs
  ⟨e, a', w', q, .of_steps (.one step_loop) r⟩
theorem LoopIn.of {c : Code} {Q : Exit → Act → World → Prop} (h : c.wp P (Exit.then (LoopIn P c Q) Q) a W) : LoopIn P c Q a W := by
  intro b k cs
  obtain ⟨e, a₁, w₁, hq, harr⟩ := h b (.inLoop c :: k) cs
  cases e with
  | normal =>
    obtain ⟨e₂, a₂, w₂, hq₂, harr₂⟩ := hq b k cs
    exact ⟨e₂, a₂, w₂, hq₂, .of_steps (Steps.trans harr (.one step_inLoop)) harr₂⟩
  | exit id => exact ⟨_, a₁, w₁, hq, .pass (x := .inLoop c) rfl (fun _ _ => .inl (by simp)) harr⟩
  | goto l => exact ⟨_, a₁, w₁, hq, .pass (x := .inLoop c) rfl (fun _ _ => .inl (by simp)) harr⟩
  | ret => exact ⟨_, a₁, w₁, hq, .pass (x := .inLoop c) rfl (fun _ _ => .inl (by simp)) harr⟩
  | panic ch => exact ⟨_, a₁, w₁, hq, .pass (x := .inLoop c) rfl (fun _ _ => .inl (by simp)) harr⟩
  | outgrown => exact ⟨_, a₁, w₁, hq, .pass (x := .inLoop c) rfl (fun _ _ => .inl (by simp)) harr⟩

/-- What is shown of code: of a loop, from inside. -/
def CodeWp (P : Program) (c : Code) (Q : Exit → Act → World → Prop) (a : Act) (w : World) : Prop :=
  match c with
  | .loop b => LoopIn P b Q a w
  | c => c.wp P Q a w
theorem CodeWp.wp {c : Code} {Q : Exit → Act → World → Prop} (h : CodeWp P c Q a W) : c.wp P Q a W := by
  cases c <;> first | exact h | exact LoopIn.wp h

def CodeOk (P : Program) (N : Nat) (rec : CodeT) : Prop := ∀ c s e s', rec c s = some (e, s') → ∀ b0 ρ a W, StR P b0 ρ N s a W → ∀ Q : Exit → Act → World → Prop,
  (∀ ρ' a' W', StR P b0 ρ' N s' a' W' → Step P b0 ρ ρ' s.H s'.H W W' → Q (exitOf e) a' W') → CodeWp P c Q a W

theorem codeF_ok (hm : P.follows .mixedOrders = true) (hcl : ClOk P cl) {rec : CodeT} (hrec : CodeOk P N rec) : CodeOk P N (codeF P cl N rec) := by
  intro c s e s' h b0 ρ a W hs Q hq
  unfold codeF at h
  split at h
  · simp only [Option.some.injEq, Prod.mk.injEq] at h
    obtain ⟨rfl, rfl⟩ := h
    exact wp_skip (hq ρ a W hs (Step.refl hs.rel))
  · rename_i id ops draw
    split at h
    · rename_i hd
      subst hd
      split at h
      · rename_i hok
        cases ht : traceV P cl N ops.toList ops.toList s with
        | none => rw [ht] at h; cases h
        | some r =>
          rw [ht] at h
          simp only [Option.bind_some] at h
          split at h
          · rename_i hdy
            simp only [Option.some.injEq, Prod.mk.injEq] at h
            obtain ⟨rfl, rfl⟩ := h
            exact draw_sim hm hcl hs hok ht hdy hq
          · cases h
      · cases h
    · rename_i hd
      obtain rfl : draw = false := by simpa using hd
      obtain ⟨s1, h1, e1⟩ := Option.map_eq_some_iff.1 h
      simp only [Prod.mk.injEq] at e1
      obtain ⟨rfl, rfl⟩ := e1
      refine wp_region ?_
      have := opsV_sim (Q := Q) hcl ops.toList 0 ρ s s1 a W rfl hs h1 hq
      rwa [Nat.sub_zero, ← List.range_eq_range'] at this
  · rename_i x y
    cases h1 : rec x s with
    | none => rw [h1] at h; cases h
    | some r =>
      obtain ⟨e1, s1⟩ := r
      rw [h1] at h
      simp only [Option.bind_some] at h
      refine wp_seq (CodeWp.wp (hrec x s e1 s1 h1 b0 ρ a W hs _ fun ρ' a' W' hs' hst => ?_))
      cases e1 with
      | nor => exact CodeWp.wp (hrec y s1 e s' h b0 ρ' a' W' hs' _ fun ρ'' a'' W'' h2 h3 => hq ρ'' a'' W'' h2 (hst.trans h3))
      | exit id =>
        simp only [Option.some.injEq, Prod.mk.injEq] at h
        obtain ⟨rfl, rfl⟩ := h
        exact hq ρ' a' W' hs' hst
      | ret =>
        simp only [Option.some.injEq, Prod.mk.injEq] at h
        obtain ⟨rfl, rfl⟩ := h
        exact hq ρ' a' W' hs' hst
  · rename_i c x y
    have hc := ev_sim hs.fr c
    split at h
    · rename_i hb
      rw [hb] at hc
      exact wp_cond_true hc (CodeWp.wp (hrec x s e s' h b0 ρ a W hs _ hq))
    · rename_i hb
      rw [hb] at hc
      exact wp_cond_false hc (CodeWp.wp (hrec y s e s' h b0 ρ a W hs _ hq))
    · cases h
  · rename_i id b
    obtain ⟨⟨e1, s1⟩, h1, e2⟩ := Option.map_eq_some_iff.1 h
    refine wp_block (CodeWp.wp (hrec b s e1 s1 h1 b0 ρ a W hs _ fun ρ' a' W' hs' hst => ?_))
    cases e1 with
    | nor =>
      simp only [Prod.mk.injEq] at e2
      obtain ⟨rfl, rfl⟩ := e2
      exact hq ρ' a' W' hs' hst
    | exit id' =>
      simp only at e2
      simp only [exitOf, Exit.inBlock]
      split at e2
      · rename_i hid
        simp only [Prod.mk.injEq] at e2
        obtain ⟨rfl, rfl⟩ := e2
        rw [if_pos hid]
        exact hq ρ' a' W' hs' hst
      · rename_i hid
        simp only [Prod.mk.injEq] at e2
        obtain ⟨rfl, rfl⟩ := e2
        rw [if_neg hid]
        exact hq ρ' a' W' hs' hst
    | ret =>
      simp only [Prod.mk.injEq] at e2
      obtain ⟨rfl, rfl⟩ := e2
      exact hq ρ' a' W' hs' hst
  · rename_i b
    cases h1 : rec b s with
    | none => rw [h1] at h; cases h
    | some r =>
      obtain ⟨e1, s1⟩ := r
      rw [h1] at h
      simp only [Option.bind_some] at h
      refine LoopIn.of (CodeWp.wp (hrec b s e1 s1 h1 b0 ρ a W hs _ fun ρ' a' W' hs' hst => ?_))
      cases e1 with
      | nor => exact hrec (.loop b) s1 e s' h b0 ρ' a' W' hs' Q fun ρ'' a'' W'' h2 h3 => hq ρ'' a'' W'' h2 (hst.trans h3)
      | exit id =>
        simp only [Option.some.injEq, Prod.mk.injEq] at h
        obtain ⟨rfl, rfl⟩ := h
        exact hq ρ' a' W' hs' hst
      | ret =>
        simp only [Option.some.injEq, Prod.mk.injEq] at h
        obtain ⟨rfl, rfl⟩ := h
        exact hq ρ' a' W' hs' hst
  · simp only [Option.some.injEq, Prod.mk.injEq] at h
    obtain ⟨rfl, rfl⟩ := h
    exact wp_exit (hq ρ a W hs (Step.refl hs.rel))
  · simp only [Option.some.injEq, Prod.mk.injEq] at h
    obtain ⟨rfl, rfl⟩ := h
    exact wp_ret (hq ρ a W hs (Step.refl hs.rel))
  · cases h

/-! Results. -/
def resSem (tmps : Array Value) : ResultVar → Sem Value
  | .tmp t => pure (tmps.getD t undef)
  | .cell a t => do loadVar t (← asAddr (tmps.getD a undef))
theorem results_eq (fn : Func) (tmps : Array Value) : results fn tmps = (do let vs ← fn.results.mapM (resSem tmps); pure (if h : vs.size = 1 then vs[0] else .tuple vs)) := rfl
theorem resList_sim {H : Hp} {T : Fr} {tmps : Array Value} (hR : Rel P b0 ρ H W) (hT : FrR ρ T tmps) : ∀ (rs : List ResultVar) (vs : List V), mapO (resV P H T) rs = some vs →
    ∃ us : List Value, (rs.mapM (resSem tmps)).run P W = .ok us W ∧ VL (VR ρ) vs us
  | [], vs, h => by
    simp only [mapO, Option.some.injEq] at h
    subst h
    exact ⟨[], rfl, trivial⟩
  | r :: rs, vs, h => by
    simp only [mapO] at h
    cases h1 : resV P H T r with
    | none => rw [h1] at h; cases h
    | some v =>
      rw [h1] at h
      obtain ⟨vs', h2, rfl⟩ := Option.map_eq_some_iff.1 h
      obtain ⟨us, h3, h4⟩ := resList_sim hR hT rs vs' h2
      rw [List.mapM_cons]
      cases r with
      | tmp t =>
        simp only [resV, Option.some.injEq] at h1
        subst h1
        exact ⟨tmps.getD t undef :: us, by simp only [resSem, Sem.run_bind, Sem.run_pure, Result.andThen_ok, h3], hT t, h4⟩
      | cell b t =>
        simp only [resV] at h1
        obtain ⟨ad, x, hx, hl, hv⟩ := load_same hR (hT b) h1
        have ha : (asAddr (.pointer (some ad))).run P W = .ok ad W := rfl
        exact ⟨x :: us, by simp only [resSem, Sem.run_bind, Sem.run_pure, Result.andThen_ok, hx, ha, hl, h3], hv, h4⟩
theorem results_sim {fn : Func} {H : Hp} {T : Fr} {tmps : Array Value} (hR : Rel P b0 ρ H W) (hT : FrR ρ T tmps) {v : V} (h : resultsV P fn H T = some v) : ∃ u, (results fn tmps).run P W = .ok u W ∧ VR ρ v u := by
  unfold resultsV at h
  cases h1 : mapO (resV P H T) fn.results.toList with
  | none => rw [h1] at h; cases h
  | some vs =>
    rw [h1] at h
    simp only [Option.bind_some] at h
    obtain ⟨us, h2, h3⟩ := resList_sim hR hT _ _ h1
    have hrun : (results fn tmps).run P W = .ok (if h : us.toArray.size = 1 then us.toArray[0] else .tuple us.toArray) W := by
      rw [results_eq, Array.mapM_eq_mapM_toList]
      simp only [Sem.run_bind, Sem.run_map, h2, Result.andThen_ok, Sem.run_pure]
    refine ⟨_, hrun, ?_⟩
    unfold tupV at h
    split at h
    · injection h with h
      subst h
      match us, h3 with
      | [u], h3 => simpa using h3.1
    · rename_i hne
      split at h
      · rename_i hnt
        injection h with h
        subst h
        rw [dif_neg]
        · refine ⟨_, rfl, ?_⟩
          rw [List.toList_toArray]
          clear h2 hrun h1 hne
          induction vs generalizing us with
          | nil => match us, h3 with | [], _ => trivial
          | cons x vs ih =>
            match us, h3 with
            | u :: us, h3 =>
              simp only [List.all_cons, Bool.and_eq_true] at hnt
              exact ⟨h3.1.va fun ws e => by subst e; simp [V.isTup] at hnt, ih us h3.2 hnt.2⟩
        · intro hsz
          have hl := h3.length
          simp only [List.size_toArray] at hsz
          match vs, hl.trans hsz with
          | [x], _ => exact hne x rfl
      · cases h

theorem init_StR {H : Hp} {args : List V} {us : Array Value} {n : Nat} (hR : Rel P b0 ρ H W) (ha : VL (VR ρ) args us.toList) : StR P b0 ρ (max args.length n) ⟨args, [], H⟩ { tmps := us ++ Array.replicate (n - us.size) undef, defers := [] } W := by
  have hl : args.length = us.size := by simpa using ha.length
  refine ⟨hR, fun i => ?_, ?_, trivial⟩
  · unfold get
    rw [List.getD_eq_getElem?_getD, Array.getD_eq_getD_getElem?]
    cases hi : args[i]? with
    | none => trivial
    | some v =>
      obtain ⟨u, hu, hv⟩ := ha.get i hi
      have hlt : i < us.size := by rw [← hl]; exact (List.getElem?_eq_some_iff.1 hi).1
      rw [Array.getElem?_append_left hlt]
      rw [Array.getElem?_toList] at hu
      rw [hu]
      exact hv
  · simp only [Array.size_append, Array.size_replicate]
    omega

structure PrOk (P : Program) (Pr : Prims) : Prop where
  call : ∀ k p, Pr.call k = some p → ∀ args H v H', p args H = some (v, H') → ∀ b0 ρ W us, Rel P b0 ρ H W → VL (VR ρ) args us.toList → CallOut P b0 ρ H W ((callFunc k us).run P W) v H'
  dfr : ∀ k p, Pr.dfr k = some p → ∀ args H H', p args H = some H' → ∀ b0 ρ W us, Rel P b0 ρ H W → VL (VR ρ) args us.toList → (callFunc k us).run P W = .ok (.enter k us) W ∧
    CallsD P k us .returning W fun e u' W' => u' = .returning ∧ ∃ v ρ', e = .returned v ∧ Step P b0 ρ ρ' H H' W W'
  gc : ∀ b0 ρ ρ' H H' W W' v u, Rel P b0 ρ H W → VR ρ' v u → Step P b0 ρ ρ' H H' W W' → ∃ ρ2, VR ρ2 (Pr.gc H (v, H')).1 u ∧ Step P b0 ρ ρ2 H (Pr.gc H (v, H')).2 W W'

/-- A function of the program that is no machine's. -/
theorem callFunc_enter {k : Nat} {fn : Func} {c : Code} (hf : P.funcs[k]? = some fn) (hb : fn.body = some c) (hn : fn.name ≠ "runtime.NumGoroutine") (us : Array Value) : (callFunc k us).run P W = .ok (.enter k us) W := by
  have : (fn.name == "runtime.NumGoroutine") = false := by simpa using hn
  have hp : (program : Sem Program).run P W = .ok P W := rfl
  simp only [callFunc, Sem.run_bind, hp, Result.andThen_ok, hf, this, hb, Option.isNone_some, Bool.false_eq_true, if_false, Sem.run_pure]

def NoNum (P : Program) : Prop := ∀ (k : Nat) (fn : Func), P.funcs[k]? = some fn → fn.body.isSome = true → fn.name ≠ "runtime.NumGoroutine"

variable {Pr : Prims} {code : Nat → CodeT}
theorem callD_sim (hnn : NoNum P) (hp : PrOk P Pr) (hc : ∀ N, CodeOk P N (code N)) {k : Nat} {args : List V} {H H' : Hp} (h : callD P Pr code k args H = some H') {us : Array Value} (hR : Rel P b0 ρ H W) (ha : VL (VR ρ) args us.toList) :
    (callFunc k us).run P W = .ok (.enter k us) W ∧ CallsD P k us .returning W fun e u' W' => u' = .returning ∧ ∃ v ρ', e = .returned v ∧ Step P b0 ρ ρ' H H' W W' := by
  unfold callD at h
  split at h
  · exact hp.dfr _ _ (by assumption) _ _ _ h _ _ _ _ hR ha
  · cases hf : P.funcs[k]? with
    | none => rw [hf] at h; cases h
    | some fn =>
      rw [hf] at h
      simp only [Option.bind_some] at h
      cases hb : fn.body with
      | none => rw [hb] at h; cases h
      | some c =>
        rw [hb] at h
        simp only [Option.bind_some] at h
        cases hr : code (max args.length fn.ntmps) c ⟨args, [], H⟩ with
        | none => rw [hr] at h; cases h
        | some r =>
          obtain ⟨e, s⟩ := r
          rw [hr] at h
          simp only [Option.bind_some] at h
          refine ⟨callFunc_enter hf hb (hnn k fn hf (by rw [hb]; rfl)) us, ?_⟩
          refine callsD_of_wp hf hb (R := fun e W' => ∃ v ρ', e = .returned v ∧ Step P b0 ρ ρ' H H' W W') (CodeWp.wp (hc _ c _ e s hr b0 ρ _ W (init_StR hR ha) _ fun ρ' a' W' hs hst => ?_))
          cases hD : s.D with
          | cons d ds => rw [hD] at h; cases e <;> cases h
          | nil =>
            rw [hD] at h
            have hdf := hs.df
            rw [hD] at hdf
            have hnil : a'.defers = [] := by
              cases hx : a'.defers with
              | nil => rfl
              | cons d ds => rw [hx] at hdf; exact hdf.elim
            have key : ((resultsV P fn s.H s.T).map fun _ => s.H) = some H' → a'.defers = [] ∧ ∃ v, (results fn a'.tmps).run P W' = .ok v W' ∧ ∃ v' ρ', Ending.returned v = .returned v' ∧ Step P b0 ρ ρ' H H' W W' := by
              intro h
              obtain ⟨v, hv, rfl⟩ := Option.map_eq_some_iff.1 h
              obtain ⟨u, hu, _⟩ := results_sim hs.rel hs.fr hv
              exact ⟨hnil, u, hu, u, ρ', rfl, hst⟩
            cases e with
            | nor => exact key h
            | ret => exact key h
            | exit id => cases h

theorem leaves_sim (hnn : NoNum P) (hp : PrOk P Pr) (hc : ∀ N, CodeOk P N (code N)) {fn : Func} {T : Fr} {tmps : Array Value} : ∀ {D : List (Nat × List V)} {ds : List Deferred} {H H' : Hp} {ρ : Ren} {W : World} {R : Ending → World → Prop} {v : V}, Rel P b0 ρ H W → DfR ρ D ds → FrR ρ T tmps →
    defersV P Pr code D H = some H' → resultsV P fn H' T = some v → (∀ ρ' W' u, VR ρ' v u → Step P b0 ρ ρ' H H' W W' → R (.returned u) W') → Leaves P fn tmps R ds .returning W
  | [], [], H, H', ρ, W, R, v, hR, _, hT, hd, hv, hq => by
    simp only [defersV, Option.some.injEq] at hd
    subst hd
    obtain ⟨u, h1, h2⟩ := results_sim hR hT hv
    exact ⟨u, h1, hq ρ W u h2 (Step.refl hR)⟩
  | r :: D, d :: ds, H, H', ρ, W, R, v, hR, hD, hT, hd, hv, hq => by
    simp only [defersV] at hd
    cases h1 : callD P Pr code r.1 r.2 H with
    | none => rw [h1] at hd; cases hd
    | some H1 =>
      rw [h1] at hd
      simp only [Option.bind_some] at hd
      obtain ⟨cap, ht, ha⟩ := hD.1
      obtain ⟨h2, h3⟩ := callD_sim hnn hp hc h1 hR ha
      obtain ⟨tg, ag⟩ := d
      simp only at ht ha
      subst ht
      refine leaves_cons (by nofun) ?_ (h3.mono fun e u' W' hr => ?_)
      · exact h2
      · obtain ⟨rfl, x, ρ', rfl, hst⟩ := hr
        exact leaves_sim hnn hp hc hst.rel (hD.2.mono hst.le) (hT.mono hst.le) hd hv fun ρ'' W'' u h4 h5 => hq ρ'' W'' u h4 (hst.trans h5)
  | [], _ :: _, _, _, _, _, _, _, _, h, _, _, _, _ => h.elim
  | _ :: _, [], _, _, _, _, _, _, _, h, _, _, _, _ => h.elim

theorem callF_ok (hnn : NoNum P) (hp : PrOk P Pr) (hc : ∀ N, CodeOk P N (code N)) : ClOk P (callF P Pr code) := by
  intro k args H v H' h b0 ρ W us hR ha
  unfold callF at h
  split at h
  · exact hp.call _ _ (by assumption) _ _ _ _ h _ _ _ _ hR ha
  · cases hf : P.funcs[k]? with
    | none => rw [hf] at h; cases h
    | some fn =>
      rw [hf] at h
      simp only [Option.bind_some] at h
      cases hb : fn.body with
      | none => rw [hb] at h; cases h
      | some c =>
        rw [hb] at h
        simp only [Option.bind_some] at h
        cases hr : code (max args.length fn.ntmps) c ⟨args, [], H⟩ with
        | none => rw [hr] at h; cases h
        | some r =>
          obtain ⟨e, s⟩ := r
          rw [hr] at h
          simp only [Option.bind_some] at h
          refine .inl ⟨k, us, callFunc_enter hf hb (hnn k fn hf (by rw [hb]; rfl)) us, ?_⟩
          refine calls_of_wp_defers hf hb (CodeWp.wp (hc _ c _ e s hr b0 ρ _ W (init_StR hR ha) _ fun ρ' a' W' hs hst => ?_))
          have key : ((defersV P Pr code s.D s.H).bind fun H' => (resultsV P fn H' s.T).map fun v => Pr.gc H (v, H')) = some (v, H') → Leaves P fn a'.tmps (fun e W' => ∃ u ρ', e = .returned u ∧ VR ρ' v u ∧ Step P b0 ρ ρ' H H' W W') a'.defers .returning W' := by
            intro h
            cases hd : defersV P Pr code s.D s.H with
            | none => rw [hd] at h; cases h
            | some H2 =>
              rw [hd] at h
              obtain ⟨v', hv, e1⟩ := Option.map_eq_some_iff.1 h
              refine leaves_sim hnn hp hc hs.rel hs.df hs.fr hd hv fun ρ'' W'' u h4 h5 => ?_
              obtain ⟨ρ3, h6, h7⟩ := hp.gc b0 ρ ρ'' H H2 W W'' v' u hR h4 (hst.trans h5)
              rw [e1] at h6 h7
              exact ⟨u, ρ3, rfl, h6, h7⟩
          cases e with
          | nor => exact key h
          | ret => exact key h
          | exit id => cases h

theorem both_ok (hm : P.follows .mixedOrders = true) (hnn : NoNum P) (hp : PrOk P Pr) : ∀ n, (∀ N, CodeOk P N ((both P Pr n).1 N)) ∧ ClOk P (both P Pr n).2
  | 0 => ⟨fun N c s e s' h => (by cases h), fun k args H v H' h => (by cases h)⟩
  | n + 1 => ⟨fun N => codeF_ok hm (both_ok hm hnn hp n).2 ((both_ok hm hnn hp n).1 N), callF_ok hnn hp (both_ok hm hnn hp n).1⟩

/-- What the machine answers, the program answers. -/
theorem callN_sound (hm : P.follows .mixedOrders = true) (hnn : NoNum P) (hp : PrOk P Pr) {n k : Nat} {args : List V} {H H' : Hp} {v : V} (h : callN P Pr n k args H = some (v, H')) {us : Array Value} (hR : Rel P b0 ρ H W) (ha : VL (VR ρ) args us.toList) :
    CallOut P b0 ρ H W ((callFunc k us).run P W) v H' := (both_ok hm hnn hp n).2 k args H v H' h b0 ρ W us hR ha
end
end Go.Am
