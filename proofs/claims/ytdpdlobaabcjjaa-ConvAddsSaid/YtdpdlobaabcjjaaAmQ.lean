/-
  The abstract machine, part Q: what the checks of a drawn region say. No statement of the seat stands here.
-/
import Derived.Test.YtdpdlobaabcjjaaAmP
namespace Go.Am
open Go

/-! Equality of what is read. -/
theorem eqBase_eq : ∀ {a b : V}, eqBase a b = true → a = b := by
  intro a b h
  unfold eqBase at h
  split at h <;> simp_all
theorem eqList_eq {f : V → V → Bool} (hf : ∀ {a b}, f a b = true → a = b) : ∀ {x y : List V}, eqList f x y = true → x = y
  | [], [], _ => rfl
  | a :: x, b :: y, h => by
    simp only [eqList, Bool.and_eq_true] at h
    rw [hf h.1, eqList_eq hf h.2]
  | [], _ :: _, h => by simp [eqList] at h
  | _ :: _, [], h => by simp [eqList] at h
theorem eqC_eq : ∀ {a b : V}, eqC a b = true → a = b := by
  intro a b h
  unfold eqC at h
  split at h
  · simp only [Bool.and_eq_true, beq_iff_eq] at h
    rw [h.1.1, eqList_eq eqBase_eq h.1.2, eqList_eq eqBase_eq h.2]
  · exact eqBase_eq h
theorem eqA_eq : ∀ {a b : V}, eqA a b = true → a = b := by
  intro a b h
  unfold eqA at h
  split at h
  · rw [eqList_eq eqC_eq h]
  · rw [eqList_eq eqC_eq h]
  · exact eqC_eq h

section
variable {P : Program}

/-! Who waits for whom. -/
theorem foldl_acc {f : List Nat → Oper → Nat} : ∀ (l : List Oper) (acc : List Nat), ∃ r, l.foldl (fun acc o => acc ++ [f acc o]) acc = acc ++ r ∧ r.length = l.length ∧ ∀ j o, l[j]? = some o → r[j]? = some (f (acc ++ r.take j) o)
  | [], acc => ⟨[], by simp, rfl, fun j o h => by simp at h⟩
  | x :: l, acc => by
    obtain ⟨r, h1, h2, h3⟩ := foldl_acc (f := f) l (acc ++ [f acc x])
    refine ⟨f acc x :: r, ?_, by simp [h2], fun j o hj => ?_⟩
    · simp only [List.foldl_cons, h1]; simp
    · cases j with
      | zero => simp at hj; subst hj; simp
      | succ j =>
        simp only [List.getElem?_cons_succ] at hj ⊢
        rw [h3 j o hj]
        simp
theorem bits_acc (B : List Nat) (i : Nat) : ∀ (es : List Edge) (s : Nat), (es.foldl (fun s e => if Region.binds .any e then s ||| 2 ^ e.on ||| B.getD e.on 0 else s) s).testBit i = true →
    s.testBit i = true ∨ ∃ e ∈ es, Region.binds .any e = true ∧ (i = e.on ∨ (B.getD e.on 0).testBit i = true)
  | [], s, h => .inl h
  | e :: es, s, h => by
    simp only [List.foldl_cons] at h
    rcases bits_acc B i es _ h with h | ⟨e', he, r⟩
    · split at h
      · rename_i hb
        simp only [Nat.testBit_or, Bool.or_eq_true, Nat.testBit_two_pow, decide_eq_true_eq] at h
        rcases h with (h | h) | h
        · exact .inl h
        · exact .inr ⟨e, by simp, hb, .inl h.symm⟩
        · exact .inr ⟨e, by simp, hb, .inr h⟩
      · exact .inl h
    · exact .inr ⟨e', by simp [he], r⟩

def Waits (all : List Oper) (j i : Nat) : Prop := waitsFor (befores all) j i = true
theorem waits_edge {all : List Oper} {j i : Nat} {o : Oper} (ho : all[j]? = some o) (hback : ∀ e ∈ o.after.toList, Region.binds .any e = true → e.on < j) (h : Waits all j i) :
    ∃ e ∈ o.after.toList, Region.binds .any e = true ∧ (i = e.on ∨ Waits all e.on i) := by
  obtain ⟨r, h1, h2, h3⟩ := foldl_acc (f := fun acc o => o.after.toList.foldl (fun s e => if Region.binds .any e then s ||| 2 ^ e.on ||| acc.getD e.on 0 else s) 0) all []
  have hB : befores all = r := by unfold befores; rw [h1]; rfl
  unfold Waits waitsFor at h ⊢
  rw [hB] at h ⊢
  rw [List.getD_eq_getElem?_getD, h3 j o ho, Option.getD_some, List.nil_append] at h
  rcases bits_acc _ _ _ _ h with h | ⟨e, he, hb, h⟩
  · simp at h
  · refine ⟨e, he, hb, h.imp id fun h => ?_⟩
    rw [List.getD_eq_getElem?_getD, List.getElem?_take_of_lt (hback e he hb), ← List.getD_eq_getElem?_getD] at h
    exact h

structure Drawn (P : Program) (all : List Oper) : Prop where
  back : ∀ j o, all[j]? = some o → ∀ e ∈ o.after.toList, Region.binds .any e = true → e.on < j
  ord : ∀ i j oi oj, i < j → all[i]? = some oi → all[j]? = some oj → Waits all j i ∨
    (¬ (isEff (kind P oi.op) = true ∧ kind P oj.op = .eff) ∧ (∀ t, oi.dst = some t → t ∉ namesOf all oj) ∧ ∀ t, oj.dst = some t → t ∉ namesOf all oi)
theorem drawOk_spec {all : List Oper} (h : drawOk P all = true) : Drawn P all := by
  unfold drawOk at h
  simp only [List.all_eq_true, List.mem_range] at h
  refine ⟨fun j o ho e he hb => ?_, fun i j oi oj hij hi hj => ?_⟩
  · have := h j (List.getElem?_eq_some_iff.1 ho).1
    rw [ho] at this
    simp only [Bool.and_eq_true, List.all_eq_true] at this
    have := this.1.1 e he
    simpa [hb] using this
  · have := h j (List.getElem?_eq_some_iff.1 hj).1
    rw [hj] at this
    simp only [Bool.and_eq_true, List.all_eq_true, List.mem_range] at this
    have := this.2 i hij
    rw [hi] at this
    simp only [Bool.or_eq_true, Bool.and_eq_true] at this
    refine this.imp id fun h => ⟨?_, ?_, ?_⟩
    · rintro ⟨h1, h2⟩
      have := h.1.1
      simp [h1, h2] at this
    · intro t ht
      have := h.1.2
      rw [ht] at this
      simpa using this
    · intro t ht
      have := h.2
      rw [ht] at this
      simpa using this

/-! The states in the text's order. -/
def TStep (P : Program) (cl : CallT) (N : Nat) (all : List Oper) (o : Oper) (s s' : St) : Prop :=
  (wantedV all o s.T = some true ∧ ∃ v s1, stepV P cl o s = some (v, s1) ∧ setO N s1 o.dst v = some s') ∨ (wantedV all o s.T = some false ∧ setO N s o.dst (.tup []) = some s')
theorem trace_spec {cl : CallT} {N : Nat} {all : List Oper} : ∀ {rest : List Oper} {s sf : St} {tr : List St}, traceV P cl N all rest s = some (tr, sf) →
    tr.length = rest.length ∧ (tr ++ [sf])[0]? = some s ∧ ∀ i o, rest[i]? = some o → ∃ s1 s2, (tr ++ [sf])[i]? = some s1 ∧ (tr ++ [sf])[i + 1]? = some s2 ∧ TStep P cl N all o s1 s2
  | [], s, sf, tr, h => by
    simp only [traceV, Option.some.injEq, Prod.mk.injEq] at h
    obtain ⟨rfl, rfl⟩ := h
    exact ⟨rfl, rfl, fun i o h => by simp at h⟩
  | o :: rest, s, sf, tr, h => by
    simp only [traceV] at h
    cases hw : wantedV all o s.T with
    | none => rw [hw] at h; cases h
    | some w =>
      rw [hw] at h
      simp only [Option.bind_some] at h
      generalize hq : (if w = true then (stepV P cl o s).bind fun q => setO N q.2 o.dst q.1 else setO N s o.dst (.tup [])) = q at h
      cases q with
      | none => cases h
      | some s' =>
        simp only [Option.bind_some] at h
        obtain ⟨⟨tr', sf'⟩, hr, e⟩ := Option.map_eq_some_iff.1 h
        injection e with e1 e2
        subst e1 e2
        obtain ⟨h1, h2, h3⟩ := trace_spec hr
        refine ⟨by simp [h1], rfl, fun i o' hi => ?_⟩
        cases i with
        | zero =>
          simp at hi
          subst hi
          refine ⟨s, s', rfl, by simpa using h2, ?_⟩
          cases w with
          | true =>
            simp only [if_true] at hq
            cases hs : stepV P cl o s with
            | none => rw [hs] at hq; cases hq
            | some p => rw [hs] at hq; exact .inl ⟨hw, p.1, p.2, hs, hq⟩
          | false =>
            simp only [Bool.false_eq_true, if_false] at hq
            exact .inr ⟨hw, hq⟩
        | succ i => simpa using h3 i o' (by simpa using hi)

theorem stepV_op {cl : CallT} {o : Oper} {s s1 : St} {v : V} (hk : kind P o.op ≠ .eff) (h : stepV P cl o s = some (v, s1)) : opV P o.op s.T s.H = some (v, s1.H) ∧ s1.D = s.D ∧ s1.T = s.T := by
  have key : ((opV P o.op s.T s.H).map fun q => (q.1, { s with H := q.2 })) = some (v, s1) → opV P o.op s.T s.H = some (v, s1.H) ∧ s1.D = s.D ∧ s1.T = s.T := by
    intro h
    obtain ⟨q, hq, e⟩ := Option.map_eq_some_iff.1 h
    injection e with e1 e2
    subst e1 e2
    exact ⟨hq, rfl, rfl⟩
  obtain ⟨dst, op, type, pos, after, guard⟩ := o
  cases op <;> simp only [stepV] at h <;> simp only [kind, ne_eq, not_true_eq_false] at hk <;> try exact key h
  case call c =>
    cases hc : c.callee with
    | value f => rw [hc] at hk; exact absurd rfl hk
    | _ => rw [hc] at h; exact key h

theorem wp_exists {o : Oper} {a : Act} {W : World} {next : Act → World → Prop} (h : o.wp P a W next fun _ _ _ => False) : ∃ a' W', next a' W' := by
  unfold Oper.wp at h
  generalize (execOp a.eval o).run P W = r at h
  cases r with
  | ok n w' =>
    cases n <;> simp only [Oper.upon] at h <;> try exact ⟨_, _, h⟩
    · obtain ⟨e, w, fr, hR, _⟩ := h []
      cases e with
      | returned v => exact ⟨_, _, hR⟩
      | panicked c => exact hR.elim
      | outgrown => obtain ⟨_, _, hf⟩ := hR; exact hf.elim
    · obtain ⟨v, w, hR, _⟩ := h default []
      exact ⟨_, _, hR⟩
  | halt x w' => cases x <;> simp only [Oper.upon] at h

theorem tstep_run {cl : CallT} (hcl : ClOk P cl) {b0 N : Nat} {ρ : Ren} {all : List Oper} {o : Oper} {s s' : St} {a : Act} {W : World} (hs : StR P b0 ρ N s a W) (h : TStep P cl N all o s s') :
    ∃ ρ' a' W', StR P b0 ρ' N s' a' W' ∧ Step P b0 ρ ρ' s.H s'.H W W' := by
  rcases h with ⟨_, v, s1, h1, h2⟩ | ⟨_, h2⟩
  · obtain ⟨a', W', ρ', h⟩ := wp_exists (stepSet_sim (next := fun a' W' => ∃ ρ', StR P b0 ρ' N s' a' W' ∧ Step P b0 ρ ρ' s.H s'.H W W') hcl hs h1 h2 fun ρ' a' W' h3 h4 => ⟨ρ', h3, h4⟩)
    exact ⟨ρ', a', W', h⟩
  · refine ⟨ρ, a.put o.dst undef, W, setO_sim (v := .tup []) hs ⟨_, rfl, trivial⟩ h2, ?_⟩
    rw [(setO_fr h2).2.1]
    exact Step.refl hs.rel

/-- All that is known of the text's order. -/
structure Ctx (P : Program) (cl : CallT) (N b0 : Nat) (ops : Array Oper) (st : Nat → St) : Prop where
  drawn : Drawn P ops.toList
  cok : ClOk P cl
  step : ∀ i o, ops[i]? = some o → TStep P cl N ops.toList o (st i) (st (i + 1))
  run : ∀ i, i ≤ ops.size → ∃ ρ a W, StR P b0 ρ N (st i) a W
  len1 : ∀ i, i < ops.size → (st i).H.length ≤ (st (i + 1)).H.length
  dyn : ∀ q oq e oe, ops[q]? = some oq → ops[e]? = some oe → kind P oq.op = .read → kind P oe.op = .eff → wantedV ops.toList oq (st q).T = some true → wantedV ops.toList oe (st e).T = some true →
    ¬ Waits ops.toList q e → ¬ Waits ops.toList e q → ∃ v H1 H2, opV P oq.op (st q).T (st e).H = some (v, H1) ∧ opV P oq.op (st q).T (st (e + 1)).H = some (v, H2)

theorem Ctx.len {cl : CallT} {N b0 : Nat} {ops : Array Oper} {st : Nat → St} (C : Ctx P cl N b0 ops st) : ∀ d i, i + d ≤ ops.size → (st i).H.length ≤ (st (i + d)).H.length
  | 0, i, _ => Nat.le_refl _
  | d + 1, i, h => Nat.le_trans (C.len d i (by omega)) (C.len1 (i + d) (by omega))
theorem Ctx.len' {cl : CallT} {N b0 : Nat} {ops : Array Oper} {st : Nat → St} (C : Ctx P cl N b0 ops st) {i j : Nat} (h : i ≤ j) (hj : j ≤ ops.size) : (st i).H.length ≤ (st j).H.length := by
  have := C.len (j - i) i (by omega)
  rwa [show i + (j - i) = j from by omega] at this

theorem ctx_of {cl : CallT} {N b0 : Nat} {ops : Array Oper} {s sf : St} {tr : List St} {ρ : Ren} {a : Act} {W : World} (hcl : ClOk P cl) (hd : drawOk P ops.toList = true) (ht : traceV P cl N ops.toList ops.toList s = some (tr, sf))
    (hy : drawDyn P ops.toList (tr ++ [sf]) = true) (hs : StR P b0 ρ N s a W) : ∃ st, Ctx P cl N b0 ops st ∧ st 0 = s ∧ st ops.size = sf := by
  obtain ⟨h1, h2, h3⟩ := trace_spec ht
  let st : Nat → St := fun i => (tr ++ [sf]).getD i sf
  have hst : ∀ i s, (tr ++ [sf])[i]? = some s → st i = s := fun i s h => by show (tr ++ [sf]).getD i sf = s; rw [List.getD_eq_getElem?_getD, h]; rfl
  have hstep : ∀ i o, ops[i]? = some o → TStep P cl N ops.toList o (st i) (st (i + 1)) := by
    intro i o ho
    obtain ⟨s1, s2, e1, e2, h⟩ := h3 i o (by simpa using ho)
    rw [hst _ _ e1, hst _ _ e2]
    exact h
  have h0 : st 0 = s := hst 0 s h2
  have hrun : ∀ i, i ≤ ops.size → ∃ ρ a W, StR P b0 ρ N (st i) a W := by
    intro i
    induction i with
    | zero => intro _; exact ⟨ρ, a, W, h0 ▸ hs⟩
    | succ i ih =>
      intro hi
      obtain ⟨ρ1, a1, W1, hr⟩ := ih (by omega)
      obtain ⟨ρ2, a2, W2, hr2, _⟩ := tstep_run hcl hr (hstep i ops[i] (by simp))
      exact ⟨ρ2, a2, W2, hr2⟩
  refine ⟨st, ⟨drawOk_spec hd, hcl, hstep, hrun, fun i hi => ?_, ?_⟩, h0, ?_⟩
  · obtain ⟨ρ1, a1, W1, hr⟩ := hrun i (by omega)
    obtain ⟨ρ2, a2, W2, _, hr2⟩ := tstep_run hcl hr (hstep i ops[i] (by simp))
    exact hr2.len
  · intro q oq e oe hq he kq ke wq we n1 n2
    have at_ : ∀ i, i ≤ ops.size → (tr ++ [sf])[i]? = some (st i) := by
      intro i hi
      have hlt : i < (tr ++ [sf]).length := by simp [h1]; omega
      show _ = some ((tr ++ [sf]).getD i sf)
      rw [List.getD_eq_getElem?_getD, List.getElem?_eq_getElem hlt]
      rfl
    have hql : q < ops.size := (Array.getElem?_eq_some_iff.1 hq).1
    have hel : e < ops.size := (Array.getElem?_eq_some_iff.1 he).1
    unfold drawDyn at hy
    simp only [List.all_eq_true, List.mem_range] at hy
    have := hy q (by simpa using hql)
    rw [Array.getElem?_toList, hq, at_ q (by omega)] at this
    simp only [kq, wq, bne_self_eq_false, Bool.false_or, List.all_eq_true, List.mem_range] at this
    have := this e (by simpa using hel)
    rw [Array.getElem?_toList, he, at_ e (by omega), at_ (e + 1) (by omega)] at this
    simp only [ke, we, bne_self_eq_false, Bool.false_or, Bool.or_false, Bool.or_eq_true] at this
    rcases this with (h | h) | h
    · exact absurd h n1
    · exact absurd h n2
    · cases ha : opV P oq.op (st q).T (st e).H with
      | none => rw [ha] at h; simp [eqO] at h
      | some x =>
        cases hb : opV P oq.op (st q).T (st (e + 1)).H with
        | none => rw [ha, hb] at h; simp [eqO] at h
        | some y =>
          rw [ha, hb] at h
          simp only [eqO] at h
          have := eqA_eq h
          exact ⟨x.1, x.2, y.2, rfl, by rw [this]⟩
  · refine hst _ _ ?_
    have : ops.size = tr.length := by simpa using h1.symm
    rw [this]
    simp
end
end Go.Am
