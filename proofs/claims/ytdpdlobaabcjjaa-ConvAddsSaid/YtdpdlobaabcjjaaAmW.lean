/-
  The abstract machine, part W: a call of a law. No statement of the seat stands here.
-/
import Derived.Test.YtdpdlobaabcjjaaAmV
import Derived.Below
import Derived.ChangeOld
import Derived.Carry
namespace Go.Am
open Go Go.RowKit

/-- An argument, as the machine has it. -/
def ArgT (P : Program) (H : Hp) (m : Nat) (t : TypeId) (x : V) : Prop :=
  match P.underlying t with
  | some (.struct _) | some (.array _ _) => ∃ xs, x = .agg xs ∧ RdT P H m t xs
  | _ => RdT P H m t [x]
def ArgsT (P : Program) (H : Hp) (m : Nat) : List TypeId → List V → Prop
  | [], [] => True
  | t :: ts, x :: xs => ArgT P H m t x ∧ ArgsT P H m ts xs
  | _, _ => False

section
variable {P : Program} {b0 : Nat} {ρ : Ren} {W : World} {base : Nat}

theorem ArgT.mono {H H2 : Hp} (hk : ∀ (id : Nat) (b : AB), H[id]? = some b → H2[id]? = some b) {m : Nat} {t : TypeId} {x : V} (h : ArgT P H m t x) : ArgT P H2 m t x := by
  unfold ArgT at h ⊢
  split
  · rename_i hu; simp only [hu] at h; obtain ⟨xs, e, h⟩ := h; exact ⟨xs, e, h.mono hk m⟩
  · rename_i hu; simp only [hu] at h; obtain ⟨xs, e, h⟩ := h; exact ⟨xs, e, h.mono hk m⟩
  · rename_i h1 h2
    split at h
    · rename_i hu; exact absurd hu (h1 _)
    · rename_i hu; exact absurd hu (h2 _ _)
    · exact h.mono hk m

theorem cell_hex {r : Reach} {t : TypeId} {a : Addr} {n c : Nat} (h : Cell.okWide P W r base t (.slice (some a) n c)) : ∃ C te fr, W.heap[a.block]? = some (.cells C te fr) := by
  have key : Cell.ok P W r base t (.slice (some a) n c) → ∃ C te fr, W.heap[a.block]? = some (.cells C te fr) := by
    intro h
    have hs : ∃ row cells, W.shape? a.block = some (row, cells) := by
      cases hu : P.underlying t with
      | none => simp [Cell.ok, hu] at h
      | some u =>
        cases u <;> simp only [Cell.ok, hu] at h
        obtain ⟨_, _, _, _, row, cells, hs, _⟩ := h
        exact ⟨row, cells, hs⟩
    obtain ⟨row, cells, hs⟩ := hs
    unfold World.shape? at hs
    split at hs
    · exact ⟨_, _, _, by assumption⟩
    · cases hs
  cases hu : P.underlying t with
  | none => simp only [Cell.okWide, hu] at h; exact key h
  | some u => cases u <;> simp only [Cell.okWide, hu] at h <;> exact key h
theorem arg_hex {r : Reach} {t : TypeId} {v : Value} (h : Value.okWide P W r base t v) : Hex W.heap.size W v.cells.toList := by
  have out : ∀ {u : TypeId} {a : Addr} {n c : Nat}, Cell.okWide P W r base u (.slice (some a) n c) → ∃ k C te fr, k < W.heap.size ∧ W.heap[k]? = some (.cells C te fr) := by
    intro u a n c h
    obtain ⟨C, te, fr, hC⟩ := cell_hex h
    exact ⟨a.block, C, te, fr, (Array.getElem?_eq_some_iff.1 hC).1, hC⟩
  have flat : Cell.okWide P W r base t v → Hex W.heap.size W v.cells.toList := by
    intro h a n c hm
    cases v with
    | agg cs =>
      exfalso
      cases hu : P.underlying t with
      | none => simp [Cell.okWide, Cell.ok, hu] at h
      | some u => cases u <;> simp [Cell.okWide, Cell.ok, hu] at h
    | slice b n' c' =>
      simp only [Value.cells, List.mem_singleton, Value.slice.injEq] at hm
      obtain ⟨rfl, rfl, rfl⟩ := hm
      exact out h
    | _ => simp [Value.cells] at hm
  have row : (∃ cs, v = .agg cs ∧ cs.size = P.cellsOf t ∧ Row.okWide P W r base t cs) → Hex W.heap.size W v.cells.toList := by
    rintro ⟨cs, rfl, _, ts, _, _, hc⟩ a n c hm
    obtain ⟨i, hi⟩ := List.getElem?_of_mem hm
    obtain ⟨u, _, hu⟩ := hc i _ (by simpa [Value.cells] using hi)
    exact out hu
  unfold Value.okWide at h
  split at h
  · exact row h
  · exact row h
  · exact flat h

theorem abs_arg {Hh : Type} {enc : TypeId × Value → Hh} (hb : b0 = W.heap.size) {m : Nat} {t : TypeId} {v : Value} {d : DataW Hh} {ps : List MemPlace} (h : DataW.Trod enc P W 0 (fun _ => true) true t v d ps) (hval : Value.okWide P W .any base t v) (hp : plainT P m t = true)
    (hw : ∀ x ∈ d.weights P t, x ≤ reachBytes) {H : Hp} (hR : Rel P b0 ρ H W) : ∃ (ρ' : Ren) (H' : Hp) (x : V), ρ.Le ρ' ∧ Rel P b0 ρ' (H ++ H') W ∧ AllShared H' ∧ VR ρ' x v ∧ ArgT P (H ++ H') m t x := by
  obtain ⟨f, hf⟩ := h
  obtain ⟨ρ', H', xs, h1, h2, h3, h4, h5⟩ := abs_cells hb m f t _ d ps hf hp hw (hb ▸ arg_hex hval) ρ H hR
  have agg : (∃ cs, v = .agg cs ∧ cs.size = P.cellsOf t ∧ Row.okWide P W .any base t cs) → VR ρ' (.agg xs) v := by
    rintro ⟨cs, rfl, _⟩
    exact ⟨cs, rfl, h4⟩
  unfold Value.okWide at hval
  split at hval
  · rename_i hu
    refine ⟨ρ', H', .agg xs, h1, h2, h3, agg hval, ?_⟩
    unfold ArgT
    simp only [hu]
    exact ⟨xs, rfl, h5⟩
  · rename_i hu
    refine ⟨ρ', H', .agg xs, h1, h2, h3, agg hval, ?_⟩
    unfold ArgT
    simp only [hu]
    exact ⟨xs, rfl, h5⟩
  · rename_i n1 n2
    have hcell : v.cells.toList = [v] := by
      cases v with
      | agg cs =>
        exfalso
        cases hu : P.underlying t with
        | none => simp [Cell.okWide, Cell.ok, hu] at hval
        | some u => cases u <;> simp [Cell.okWide, Cell.ok, hu] at hval
      | _ => rfl
    rw [hcell] at h4
    match xs, h4, h5 with
    | [x], h4, h5 =>
      refine ⟨ρ', H', x, h1, h2, h3, h4.1.toVR, ?_⟩
      unfold ArgT
      split
      · rename_i hu; exact absurd hu (n1 _)
      · rename_i hu; exact absurd hu (n2 _ _)
      · exact h5

theorem abs_args {Hh : Type} {enc : TypeId × Value → Hh} (hb : b0 = W.heap.size) {m : Nat} : ∀ {ts : List TypeId} {vs : List Value} {ds : List (DataW Hh)} {ps : List MemPlace} {ρ : Ren} {H : Hp}, DataW.TrodAll enc P W 0 (fun _ => true) true ts vs ds ps →
    (∀ (i : Nat) t v, ts[i]? = some t → vs[i]? = some v → Value.okWide P W .any base t v) → ts.all (plainT P m) = true → (∀ x ∈ DataW.weightsEach P ts ds, x ≤ reachBytes) → Rel P b0 ρ H W →
    ∃ (ρ' : Ren) (H' : Hp) (xs : List V), ρ.Le ρ' ∧ Rel P b0 ρ' (H ++ H') W ∧ AllShared H' ∧ VL (VR ρ') xs vs ∧ ArgsT P (H ++ H') m ts xs
  | [], [], [], _, ρ, H, _, _, _, _, hR => ⟨ρ, [], [], Ren.Le.refl _, by simpa using hR, (fun b hb => by cases hb), trivial, trivial⟩
  | t :: ts, v :: vs, d :: ds, ps, ρ, H, h, hval, hp, hw, hR => by
    obtain ⟨p, q, h1, h2, rfl⟩ := h
    simp only [List.all_cons, Bool.and_eq_true] at hp
    rw [DataW.weightsEach] at hw
    obtain ⟨ρ1, H1, x, k1, k2, k3, k4, k5⟩ := abs_arg hb h1 (hval 0 t v rfl rfl) hp.1 (fun x hx => hw x (List.mem_append_left _ hx)) hR
    obtain ⟨ρ2, H2, xs, l1, l2, l3, l4, l5⟩ := abs_args hb h2 (fun i t v h1 h2 => hval (i + 1) t v (by simpa using h1) (by simpa using h2)) hp.2 (fun x hx => hw x (List.mem_append_right _ hx)) k2
    rw [List.append_assoc] at l2 l5
    refine ⟨ρ2, H1 ++ H2, x :: xs, k1.trans l1, l2, fun b hb => ?_, ⟨k4.mono l1, l4⟩, ?_, l5⟩
    · rcases List.mem_append.1 hb with hb | hb
      · exact k3 b hb
      · exact l3 b hb
    · rw [← List.append_assoc]
      exact k5.mono (app_keep _ _)
  | [], _ :: _, _, _, _, _, h, _, _, _, _ => h.elim
  | [], [], _ :: _, _, _, _, h, _, _, _, _ => h.elim
  | _ :: _, [], _, _, _, _, h, _, _, _, _ => h.elim
  | _ :: _, _ :: _, [], _, _, _, h, _, _, _, _ => h.elim

theorem rel_nil (W : World) (hb : b0 ≤ W.heap.size) : Rel P b0 (fun _ _ => none) [] W :=
  ⟨fun id b h => by simp at h, fun id g h => by simp at h, fun i j bi bj li lj _ h => by simp at h, fun _ _ _ => rfl, fun id b g h => by simp at h, hb⟩

/-- A law's call: what the machine answers for all that may come. -/
theorem law_calls {Hh : Type} {enc : TypeId × Value → Hh} {Pr : Prims} (hm : P.follows .mixedOrders = true) (hnn : NoNum P) (hp : PrOk P Pr) {k m : Nat} {fn : Func} {c : Code} (hf : P.funcs[k]? = some fn) (hb : fn.body = some c) {ts : List TypeId} (hpl : ts.all (plainT P m) = true)
    (hlaw : ∀ H xs, AllShared H → ArgsT P H m ts xs → ∃ n H', callN P Pr n k xs H = some (.bool true, H')) {args : Array Value} {ds : List (DataW Hh)} {ps : List MemPlace} (hA : DataW.TrodAll enc P W 0 (fun _ => true) true ts args.toList ds ps)
    (hval : ∀ (i : Nat) t v, ts[i]? = some t → args[i]? = some v → Value.okWide P W .any base t v) (hw : ∀ x ∈ DataW.weightsEach P ts ds, x ≤ reachBytes) :
    Calls P k args W fun e W' => e = .returned (.bool true) ∧ Below W.heap.size W W' := by
  obtain ⟨ρ, H, xs, _, h2, h3, h4, h5⟩ := abs_args (b0 := W.heap.size) rfl hA (fun i t v h1 h2 => hval i t v h1 (by simpa using h2)) hpl hw (rel_nil W (Nat.le_refl _))
  rw [List.nil_append] at h2 h5
  obtain ⟨n, H', hcall⟩ := hlaw H xs h3 h5
  have hent := callFunc_enter (W := W) hf hb (hnn k fn hf (by rw [hb]; rfl)) args
  have hfin : ∀ (u : Value) (ρ' : Ren) (W' : World), VR ρ' (.bool true) u → Step P W.heap.size ρ ρ' H H' W W' → u = .bool true ∧ Below W.heap.size W W' := by
    intro u ρ' W' hu hst
    refine ⟨hu, hst.os, hst.tape, hst.output, hst.size, fun i hi => hst.frame i hi ?_⟩
    rintro ⟨j, b, l, hb, hl, ho, _⟩
    obtain ⟨cs, rfl⟩ := h3 b (List.mem_of_getElem? hb)
    have hk := h2.at_ hb hl
    rw [hk.1] at ho
    cases ho
  rcases callN_sound hm hnn hp hcall h2 h4 with ⟨k', us, e1, hc⟩ | ⟨u, W', ρ', e1, _, _⟩
  · rw [hent] at e1
    injection e1 with e1
    injection e1 with e1 e2
    subst e1 e2
    refine hc.mono fun e W' he => ?_
    obtain ⟨u, ρ', rfl, hu, hst⟩ := he
    obtain ⟨rfl, hbel⟩ := hfin u ρ' W' hu hst
    exact ⟨rfl, hbel⟩
  · rw [hent] at e1
    injection e1 with e1 _
    cases e1

theorem trodAll_below {Hh : Type} {enc : TypeId × Value → Hh} (hl : laidOutB P = true) {W' : World} (hb : Below W.heap.size W W') : ∀ {ts : List TypeId} {vs : List Value} {ds : List (DataW Hh)} {ps : List MemPlace}, (ts.all fun t => P.readableRec t && decide (t < P.types.size)) = true →
    DataW.TrodAll enc P W 0 (fun _ => true) true ts vs ds ps → DataW.TrodAll enc P W' 0 (fun b => decide (b < W.heap.size)) true ts vs ds ps
  | [], [], [], _, _, h => h
  | t :: ts, v :: vs, d :: ds, ps, hr, h => by
    simp only [List.all_cons, Bool.and_eq_true, decide_eq_true_eq] at hr
    obtain ⟨p, q, h1, h2, e⟩ := h
    exact ⟨p, q, Below.trod hl hr.1.1 hr.1.2 h1 hb (by obtain ⟨m, hm⟩ := h1; exact DataW.trod_lt m _ _ _ hm), trodAll_below hl hb (by simpa using hr.2) h2, e⟩
  | [], _ :: _, _, _, _, h => h.elim
  | [], [], _ :: _, _, _, h => h.elim
  | _ :: _, [], _, _, _, h => h.elim
  | _ :: _, _ :: _, [], _, _, h => h.elim

/-- No function is the one that asks how many run. -/
theorem noNum_of (h : (P.funcs.toList.all fun f => f.name != "runtime.NumGoroutine") = true) : NoNum P := by
  intro k fn hf _
  have := List.all_eq_true.1 h fn (by
    have : P.funcs.toList[k]? = some fn := by simpa using hf
    exact List.mem_of_getElem? this)
  simpa using this
end
end Go.Am
