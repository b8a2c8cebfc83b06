/-
  The abstract machine, part O: a step of a region, calls among them; regions in the text's order. No statement of the seat stands here.
-/
import Derived.Test.YtdpdlobaabcjjaaAmN
namespace Go.Am
open Go

section
variable {P : Program} {b0 N : Nat} {ρ : Ren} {W : World}

/-- A deferred call. -/
def DR (ρ : Ren) (r : Nat × List V) (d : Deferred) : Prop := ∃ cap, d.target = .fn (.func r.1) cap ∧ VL (VR ρ) r.2 (d.args ++ cap).toList
def DfR (ρ : Ren) : List (Nat × List V) → List Deferred → Prop
  | [], [] => True
  | r :: rs, d :: ds => DR ρ r d ∧ DfR ρ rs ds
  | _, _ => False
theorem VL.mono' {ρ ρ' : Ren} (h : ρ.Le ρ') {l : List V} {l' : List Value} (hl : VL (VR ρ) l l') : VL (VR ρ') l l' := hl.imp fun _ _ => VR.mono h
theorem DfR.mono {ρ ρ' : Ren} (h : ρ.Le ρ') : ∀ {l : List (Nat × List V)} {l' : List Deferred}, DfR ρ l l' → DfR ρ' l l'
  | [], [], _ => trivial
  | _ :: _, _ :: _, hl => ⟨let ⟨c, a, b⟩ := hl.1; ⟨c, a, b.mono' h⟩, hl.2.mono h⟩
  | [], _ :: _, hl => hl.elim
  | _ :: _, [], hl => hl.elim
theorem FrR.mono {ρ ρ' : Ren} (h : ρ.Le ρ') {T : Fr} {tmps : Array Value} (hT : FrR ρ T tmps) : FrR ρ' T tmps := fun i => (hT i).mono h

structure StR (P : Program) (b0 : Nat) (ρ : Ren) (N : Nat) (s : St) (a : Act) (W : World) : Prop where
  rel : Rel P b0 ρ s.H W
  fr : FrR ρ s.T a.tmps
  sz : a.tmps.size = N
  df : DfR ρ s.D a.defers

/-- What a call comes to. -/
def CallOut (P : Program) (b0 : Nat) (ρ : Ren) (H : Hp) (W : World) (r : Result Next) (v : V) (H' : Hp) : Prop :=
  (∃ k us, r = .ok (.enter k us) W ∧ Calls P k us W fun e W' => ∃ u ρ', e = .returned u ∧ VR ρ' v u ∧ Step P b0 ρ ρ' H H' W W') ∨
  (∃ u W' ρ', r = .ok (.value u) W' ∧ VR ρ' v u ∧ Step P b0 ρ ρ' H H' W W')
def ClOk (P : Program) (cl : CallT) : Prop :=
  ∀ k args H v H', cl k args H = some (v, H') → ∀ b0 ρ W us, Rel P b0 ρ H W → VL (VR ρ) args us.toList → CallOut P b0 ρ H W ((callFunc k us).run P W) v H'

theorem get_nil (i : Nat) : get [] i = .undef := rfl
theorem get_put : ∀ (T : Fr) (d : Nat) (v : V) (i : Nat), get (put T d v) i = if i = d then v else get T i
  | [], 0, v, 0 => rfl
  | [], 0, v, i + 1 => by simp [put, get]
  | [], d + 1, v, 0 => by simp [put, get]
  | [], d + 1, v, i + 1 => by
    have := get_put [] d v i
    simp only [get, put, List.getD_cons_succ, List.getD_nil] at this ⊢
    rw [this]
    simp
  | x :: T, 0, v, 0 => rfl
  | x :: T, 0, v, i + 1 => by simp [put, get]
  | x :: T, d + 1, v, 0 => by simp [put, get]
  | x :: T, d + 1, v, i + 1 => by
    have := get_put T d v i
    simp only [get, put, List.getD_cons_succ] at this ⊢
    rw [this]
    simp

theorem setO_fr {s s' : St} {d : Option Nat} {v : V} (h : setO N s d v = some s') : s'.D = s.D ∧ s'.H = s.H ∧ ∀ i, get s'.T i = if d = some i then v else get s.T i := by
  cases d with
  | none => simp only [setO, Option.some.injEq] at h; subst h; simp
  | some d =>
    simp only [setO] at h
    split at h
    · injection h with h; subst h
      refine ⟨rfl, rfl, fun i => ?_⟩
      rw [get_put]
      by_cases e : i = d
      · subst e; simp
      · rw [if_neg e, if_neg (by simpa using fun x => e x.symm)]
    · cases h
theorem put_get (a : Act) (d : Option Tmp) (u : Value) (hd : ∀ t, d = some t → t < a.tmps.size) (i : Nat) : (a.put d u).tmps.getD i undef = if d = some i then u else a.tmps.getD i undef := by
  cases d with
  | none => simp [Act.put]
  | some d =>
    have hd := hd d rfl
    simp only [Act.put, Array.getD_eq_getD_getElem?, Option.some.injEq]
    by_cases e : d = i
    · subst e; simp [hd]
    · rw [Array.getElem?_setIfInBounds_ne e, if_neg e]
theorem put_size (a : Act) (d : Option Tmp) (u : Value) : (a.put d u).tmps.size = a.tmps.size := by cases d <;> simp [Act.put]
theorem put_defers' (a : Act) (d : Option Tmp) (u : Value) : (a.put d u).defers = a.defers := by cases d <;> rfl
theorem setO_lt {s s' : St} {d : Option Nat} {v : V} (h : setO N s d v = some s') : ∀ t, d = some t → t < N := by
  rintro t rfl
  simp only [setO] at h
  split at h
  · assumption
  · cases h
theorem setO_sim {s s' : St} {a : Act} {d : Option Nat} {v : V} {u : Value} (hs : StR P b0 ρ N s a W) (hv : VR ρ v u) (h : setO N s d v = some s') : StR P b0 ρ N s' (a.put d u) W := by
  obtain ⟨h1, h2, h3⟩ := setO_fr h
  refine ⟨h2 ▸ hs.rel, fun i => ?_, (put_size a d u).trans hs.sz, ?_⟩
  · rw [h3, put_get a d u (fun t ht => hs.sz ▸ setO_lt h t ht)]
    split
    · exact hv
    · exact hs.fr i
  · rw [put_defers', h1]; exact hs.df

theorem wanted_sim {all : Array Oper} {o : Oper} {T : Fr} {tmps : Array Value} {w : Bool} (hT : ∀ t ∈ namesOf all.toList o, VR ρ (get T t) (tmps.getD t undef)) (h : wantedV all.toList o T = some w) : Region.wanted o (yielded all tmps) = w := by
  unfold wantedV at h
  unfold Region.wanted
  cases hg : o.guard with
  | none => rw [hg] at h; simpa using h
  | some g =>
    obtain ⟨j, want⟩ := g
    rw [hg] at h
    simp only at h ⊢
    rw [Array.getElem?_toList] at h
    unfold yielded
    cases hd : (all[j]?).bind (·.dst) with
    | none => rw [hd] at h; simp only [Option.some.injEq] at h; simp [← h]
    | some d =>
      rw [hd] at h
      simp only [Option.bind_some] at h ⊢
      have hR := hT d (by simp [namesOf, hg, hd])
      have hl : tmps[d]? = some (tmps.getD d undef) ∨ tmps[d]? = none ∧ tmps.getD d undef = undef := by
        rcases Nat.lt_or_ge d tmps.size with hlt | hge
        · exact .inl (by simp [hlt])
        · exact .inr (by simp [Array.getElem?_eq_none hge])
      generalize get T d = x at hR h
      generalize tmps.getD d undef = u at hR hl
      split at h
      · injection h with h
        have hu : u = .bool _ := hR
        subst hu
        rcases hl with hl | ⟨_, hl⟩
        · rw [hl, ← h]
          cases ‹Bool› <;> cases want <;> rfl
        · cases hl
      · cases h
      · rename_i hb hu
        injection h with h
        subst h
        have hnb : ∀ b, u ≠ .bool b := by
          cases x <;> first
            | exact absurd rfl (hb _)
            | exact absurd rfl hu
            | (have := hR; simp only [VR, VA, VC, VB] at this)
          all_goals first
            | (subst this; nofun)
            | (obtain ⟨_, rfl, _⟩ := this; nofun)
            | (obtain ⟨_, _, rfl⟩ := this; nofun)
            | (obtain ⟨_, _, _, _, rfl, _⟩ := this; nofun)
            | (obtain ⟨_, _, rfl, _⟩ := this; nofun)
        rcases hl with hl | ⟨hl, _⟩
        · rw [hl]
          cases u <;> first | rfl | exact absurd rfl (hnb _)
        · rw [hl]; rfl

theorem callee_sim {T : Fr} {a : Act} {c : Call} {type : TypeId} {r : Nat × List V} (hT : FrR ρ T a.tmps) (h : calleeV T c = some r) (W : World) :
    ∃ cap args, (resolve a.eval c type).run P W = .ok { target := .fn (.func r.1) cap, args } W ∧ VL (VR ρ) r.2 (args ++ cap).toList := by
  unfold calleeV at h
  split at h
  · rename_i f hf
    have hv := ev_sim hT f
    split at h
    · rename_i k x y e
      rw [e] at hv
      injection h with h
      subst h
      obtain ⟨x', y', hv, hx, hy⟩ := hv
      refine ⟨y', x' ++ c.args.map a.eval, ?_, ?_⟩
      · simp [resolve, hf, hv, Deferred.ofValue]
      · simp only [Array.toList_append, Array.toList_map]
        exact ((hx.imp fun _ _ h => VC.toVR (by rename_i a b; cases a <;> first | exact h | exact h.elim)).append (evs_sim hT _)).append (hy.imp fun _ _ h => VC.toVR (by rename_i a b; cases a <;> first | exact h | exact h.elim))
    · cases h
  · cases h

/-- One step. -/
theorem step_sim {cl : CallT} (hcl : ClOk P cl) {s s1 : St} {a : Act} {o : Oper} {v : V} (hs : StR P b0 ρ N s a W) (h : stepV P cl o s = some (v, s1)) {next : Act → World → Prop} {Q : Exit → Act → World → Prop}
    (hn : ∀ u ρ' (a1 : Act) W', a1.tmps = a.tmps → s1.T = s.T → VR ρ' v u → DfR ρ' s1.D a1.defers → Step P b0 ρ ρ' s.H s1.H W W' → next (a1.put o.dst u) W') : o.wp P a W next Q := by
  have hop : ∀ q, opV P o.op s.T s.H = some q → v = q.1 → s1 = { s with H := q.2 } → o.wp P a W next Q := by
    rintro ⟨v', H'⟩ hq rfl rfl
    obtain ⟨nv, u, W', ρ', h1, h2, h3, h4⟩ := op_sim hs.rel hs.fr hq
    unfold Oper.wp
    rw [h1]
    rcases h2 with rfl | ⟨rfl, rfl⟩
    · exact hn u ρ' a W' rfl rfl h3 (hs.df.mono h4.le) h4
    · exact hn undef ρ' a W' rfl rfl h3 (hs.df.mono h4.le) h4
  obtain ⟨dst, op, type, pos, after, guard⟩ := o
  cases op with
  | defer c =>
    simp only [stepV] at h
    obtain ⟨r, hr, e⟩ := Option.map_eq_some_iff.1 h
    injection e with e1 e2
    subst e1 e2
    obtain ⟨cap, args, h1, h2⟩ := callee_sim (P := P) (type := type) hs.fr hr W
    unfold Oper.wp
    have : (execOp a.eval ⟨dst, .defer c, type, pos, after, guard⟩).run P W = .ok (.defer { target := .fn (.func r.1) cap, args }) W := by
      simp only [execOp, Sem.run_bind, h1, Result.andThen_ok, Sem.run_pure]
    rw [this]
    exact hn undef ρ { a with defers := { target := .fn (.func r.1) cap, args } :: a.defers } W rfl rfl ⟨_, rfl, trivial⟩ ⟨⟨cap, rfl, h2⟩, hs.df⟩ (Step.refl hs.rel)
  | call c =>
    simp only [stepV] at h
    cases hc : c.callee with
    | value f =>
      rw [hc] at h
      simp only at h
      cases hr : calleeV s.T c with
      | none => rw [hr] at h; cases h
      | some r =>
        rw [hr] at h
        simp only [Option.bind_some] at h
        obtain ⟨⟨v', H'⟩, hq, e⟩ := Option.map_eq_some_iff.1 h
        injection e with e1 e2
        subst e1 e2
        obtain ⟨cap, args, h1, h2⟩ := callee_sim (P := P) (type := type) hs.fr hr W
        have hrun : (execOp a.eval ⟨dst, .call c, type, pos, after, guard⟩).run P W = (callFunc r.1 (args ++ cap)).run P W := by
          simp only [execOp, Sem.run_bind, h1, Result.andThen_ok, invoke]
        unfold Oper.wp
        rw [hrun]
        rcases hcl _ _ _ _ _ hq b0 ρ W (args ++ cap) hs.rel h2 with ⟨k, us, h3, h4⟩ | ⟨u, W', ρ', h3, h4, h5⟩
        · rw [h3, Oper.upon_enter]
          refine h4.mono fun e W' he => ?_
          obtain ⟨u, ρ', rfl, hv, hst⟩ := he
          exact hn u ρ' a W' rfl rfl hv (hs.df.mono hst.le) hst
        · rw [h3]
          exact hn u ρ' a W' rfl rfl h4 (hs.df.mono h5.le) h5
    | builtin b =>
      rw [hc] at h
      obtain ⟨q, hq, e⟩ := Option.map_eq_some_iff.1 h
      injection e with e1 e2
      exact hop q hq e1.symm e2.symm
    | invoke x y =>
      rw [hc] at h
      obtain ⟨q, hq, e⟩ := Option.map_eq_some_iff.1 h
      injection e with e1 e2
      exact hop q hq e1.symm e2.symm
  | _ =>
    simp only [stepV] at h
    obtain ⟨q, hq, e⟩ := Option.map_eq_some_iff.1 h
    injection e with e1 e2
    exact hop q hq e1.symm e2.symm

/-- The step, and the slot written. -/
theorem stepSet_sim {cl : CallT} (hcl : ClOk P cl) {s s1 s2 : St} {a : Act} {o : Oper} {v : V} (hs : StR P b0 ρ N s a W) (h : stepV P cl o s = some (v, s1)) (h2 : setO N s1 o.dst v = some s2) {next : Act → World → Prop} {Q : Exit → Act → World → Prop}
    (hn : ∀ ρ' a' W', StR P b0 ρ' N s2 a' W' → Step P b0 ρ ρ' s.H s2.H W W' → next a' W') : o.wp P a W next Q := by
  refine step_sim hcl hs h fun u ρ' a1 W' e1 e2 hv hd hst => ?_
  have h1 : StR P b0 ρ' N s1 a1 W' := ⟨hst.rel, by rw [e1, e2]; exact hs.fr.mono hst.le, by rw [e1]; exact hs.sz, hd⟩
  exact hn ρ' _ W' (setO_sim h1 hv h2) (by rw [(setO_fr h2).2.1]; exact hst)

theorem opsV_sim {cl : CallT} (hcl : ClOk P cl) {ops : Array Oper} {Q : Exit → Act → World → Prop} : ∀ (rest : List Oper) (i : Nat) (ρ : Ren) (s s' : St) (a : Act) (W : World), ops.toList.drop i = rest → StR P b0 ρ N s a W →
    opsV P cl N ops.toList rest s = some s' → (∀ ρ' a' W', StR P b0 ρ' N s' a' W' → Step P b0 ρ ρ' s.H s'.H W W' → Q .normal a' W') → wpOps P ops Q (List.range' i (ops.size - i)) a W
  | [], i, ρ, s, s', a, W, hd, hs, h, hq => by
    have : ops.size ≤ i := by simpa using hd
    rw [show ops.size - i = 0 from by omega]
    simp only [opsV, Option.some.injEq] at h
    subst h
    exact hq ρ a W hs (Step.refl hs.rel)
  | o :: rest, i, ρ, s, s', a, W, hd, hs, h, hq => by
    have hlt : i < ops.size := by
      rcases Nat.lt_or_ge i ops.size with h | h
      · exact h
      · rw [List.drop_eq_nil_of_le (by simpa using h)] at hd; cases hd
    have ho : ops[i]? = some o := by
      have : ops.toList[i]? = some o := by rw [← Nat.add_zero i, ← List.getElem?_drop, hd]; rfl
      simpa using this
    have hd' : ops.toList.drop (i + 1) = rest := by
      have := congrArg (List.drop 1) hd
      simpa [List.drop_drop, Nat.add_comm] using this
    rw [show ops.size - i = (ops.size - (i + 1)) + 1 from by omega, List.range'_succ]
    simp only [wpOps, ho]
    simp only [opsV] at h
    cases hw : wantedV ops.toList o s.T with
    | none => rw [hw] at h; cases h
    | some w =>
      rw [hw] at h
      simp only [Option.bind_some] at h
      · rw [wanted_sim (ρ := ρ) (fun t _ => hs.fr t) hw]
        cases w with
        | true =>
          simp only [if_true] at h ⊢
          cases hst : stepV P cl o s with
          | none => rw [hst] at h; cases h
          | some q =>
            obtain ⟨v, s1⟩ := q
            rw [hst] at h
            simp only [Option.bind_some] at h
            cases hset : setO N s1 o.dst v with
            | none => rw [hset] at h; cases h
            | some s2 =>
              rw [hset] at h
              simp only [Option.bind_some] at h
              refine .inl (stepSet_sim hcl hs hst hset fun ρ' a' W' hs' hstep => ?_)
              exact opsV_sim hcl rest (i + 1) ρ' s2 s' a' W' hd' hs' h fun ρ'' a'' W'' h1 h2 => hq ρ'' a'' W'' h1 (hstep.trans h2)
        | false =>
          simp only [Bool.false_eq_true, if_false] at h ⊢
          cases hset : setO N s o.dst (.tup []) with
          | none => rw [hset] at h; cases h
          | some s2 =>
            rw [hset] at h
            simp only [Option.bind_some] at h
            have hs' := setO_sim (u := undef) (v := .tup []) hs ⟨_, rfl, trivial⟩ hset
            refine opsV_sim hcl rest (i + 1) ρ s2 s' _ W hd' hs' h fun ρ'' a'' W'' h1 h2 => hq ρ'' a'' W'' h1 ?_
            rw [(setO_fr hset).2.1] at h2
            exact h2
end
end Go.Am
