/-
  The abstract machine, part Y: calls that stand for themselves; laws over plain numbers. No statement of the seat stands here.
-/
import Derived.Test.YtdpdlobaabcjjaaAmX
namespace Go.Am
open Go Go.RowKit

/-- A value that leads nowhere. -/
def V.flat : V → Bool
  | .int .. | .bool _ | .str _ => true
  | _ => false
/-- A type that leads nowhere. -/
def flatA (P : Program) : Nat → TypeId → Bool
  | 0, _ => false
  | f + 1, t => match P.underlying t with
    | some .bool | some (.int _) | some .string => true
    | some (.struct fs) => fs.toList.all fun x => flatA P f x.type
    | some (.array _ e) => flatA P f e
    | _ => false

section
variable {P : Program} {b0 : Nat} {ρ ρ2 : Ren} {H : Hp} {W : World} {base : Nat}

theorem flat_VB {v : V} {u : Value} (h : VC ρ v u) (hf : v.flat = true) : VC ρ2 v u := by
  cases v <;> simp [V.flat] at hf <;> exact h
theorem RdT.flat : ∀ (f : Nat) {t : TypeId} {xs : List V}, RdT P H f t xs → flatA P f t = true → ∀ x ∈ xs, x.flat = true
  | 0, _, _, h, _ => h.elim
  | f + 1, t, xs, h, hf => by
    have fl : ∀ {xss : List (List V)}, (∀ y ∈ xss, ∀ x ∈ y, x.flat = true) → ∀ x ∈ xss.flatten, x.flat = true := by
      intro xss hy x hx
      obtain ⟨y, h1, h2⟩ := List.mem_flatten.1 hx
      exact hy y h1 x h2
    unfold RdT at h
    unfold flatA at hf
    split at h
    · obtain ⟨b, rfl⟩ := h; simp [V.flat]
    · obtain ⟨n, rfl, _⟩ := h; simp [V.flat]
    · obtain ⟨s, rfl, _⟩ := h; simp [V.flat]
    · rename_i hu; simp [hu] at hf
    · rename_i fs hu
      simp only [hu, List.all_eq_true] at hf
      obtain ⟨xss, rfl, hl, h3⟩ := h
      refine fl fun y hy => ?_
      obtain ⟨i, hi⟩ := List.getElem?_of_mem hy
      have hlt : i < fs.size := hl ▸ (List.getElem?_eq_some_iff.1 hi).1
      exact RdT.flat f (h3 i _ y (Array.getElem?_eq_getElem hlt) hi).2 (hf _ (by simp))
    · rename_i hu
      simp only [hu] at hf
      obtain ⟨xss, rfl, hl, h3⟩ := h
      exact fl fun y hy => RdT.flat f (h3 y hy).2 hf
    · exact h.elim
theorem VL.flat_rho : ∀ {xs : List V} {us : List Value}, VL (VC ρ) xs us → (∀ x ∈ xs, x.flat = true) → VL (VC ρ2) xs us
  | [], [], _, _ => trivial
  | x :: xs, u :: us, h, hf => ⟨flat_VB h.1 (hf x (by simp)), VL.flat_rho h.2 fun y hy => hf y (by simp [hy])⟩
  | [], _ :: _, h, _ => h.elim
  | _ :: _, [], h, _ => h.elim
theorem ArgT.flat_rho {m : Nat} {t : TypeId} {x : V} {u : Value} (h : ArgT P H m t x) (hf : flatA P m t = true) (hr : VR ρ x u) : VR ρ2 x u := by
  unfold ArgT at h
  split at h
  · obtain ⟨xs, rfl, h⟩ := h
    obtain ⟨cs, rfl, hr⟩ := hr
    exact ⟨cs, rfl, hr.flat_rho (h.flat m hf)⟩
  · obtain ⟨xs, rfl, h⟩ := h
    obtain ⟨cs, rfl, hr⟩ := hr
    exact ⟨cs, rfl, hr.flat_rho (h.flat m hf)⟩
  · have hx := h.flat m hf x (by simp)
    have hc : VC ρ x u := by cases x <;> simp [V.flat] at hx <;> exact hr
    exact (flat_VB hc hx : VC ρ2 x u).toVR
theorem ArgsT.flat_rho {m : Nat} : ∀ {ts : List TypeId} {xs : List V} {us : List Value}, ArgsT P H m ts xs → ts.all (flatA P m) = true → VL (VR ρ) xs us → VL (VR ρ2) xs us
  | [], [], [], _, _, _ => trivial
  | t :: ts, x :: xs, u :: us, h, hf, hr => by
    simp only [List.all_cons, Bool.and_eq_true] at hf
    exact ⟨h.1.flat_rho hf.1 hr.1, ArgsT.flat_rho h.2 hf.2 hr.2⟩
  | [], [], _ :: _, _, _, h => h.elim
  | [], _ :: _, _, h, _, _ => h.elim
  | _ :: _, [], _, h, _, _ => h.elim
  | _ :: _, _ :: _, [], _, _, h => h.elim

/-- A law over numbers alone: nothing lies in memory. -/
theorem law_calls0 {Hh : Type} {enc : TypeId × Value → Hh} {Pr : Prims} (hm : P.follows .mixedOrders = true) (hnn : NoNum P) (hp : PrOk P Pr) {k m : Nat} {fn : Func} {c : Code} (hf : P.funcs[k]? = some fn) (hb : fn.body = some c) {ts : List TypeId} (hpl : ts.all (plainT P m) = true) (hfl : ts.all (flatA P m) = true)
    (hlaw : ∀ H xs, ArgsT P H m ts xs → ∃ n H', callN P Pr n k xs [] = some (.bool true, H')) {args : Array Value} {ds : List (DataW Hh)} {ps : List MemPlace} (hA : DataW.TrodAll enc P W 0 (fun _ => true) true ts args.toList ds ps)
    (hval : ∀ (i : Nat) t v, ts[i]? = some t → args[i]? = some v → Value.okWide P W .any base t v) (hw : ∀ x ∈ DataW.weightsEach P ts ds, x ≤ reachBytes) :
    Calls P k args W fun e W' => e = .returned (.bool true) ∧ Below W.heap.size W W' := by
  obtain ⟨ρ, H, xs, _, _, _, h4, h5⟩ := abs_args (b0 := W.heap.size) rfl hA (fun i t v h1 h2 => hval i t v h1 (by simpa using h2)) hpl hw (rel_nil W (Nat.le_refl _))
  rw [List.nil_append] at h5
  obtain ⟨n, H', hcall⟩ := hlaw H xs h5
  have hent := callFunc_enter (W := W) hf hb (hnn k fn hf (by rw [hb]; rfl)) args
  have hfin : ∀ (u : Value) (ρ' : Ren) (W' : World), VR ρ' (.bool true) u → Step P W.heap.size (fun _ _ => none) ρ' [] H' W W' → u = .bool true ∧ Below W.heap.size W W' := by
    intro u ρ' W' hu hst
    refine ⟨hu, hst.os, hst.tape, hst.output, hst.size, fun i hi => hst.frame i hi ?_⟩
    rintro ⟨j, b, l, hb, _⟩
    simp at hb
  rcases callN_sound hm hnn hp hcall (rel_nil (b0 := W.heap.size) W (Nat.le_refl _)) (h5.flat_rho hfl h4) with ⟨k', us, e1, hc⟩ | ⟨u, W', ρ', e1, _, _⟩
  · rw [hent] at e1
    injection e1 with e1
    injection e1 with e1 e2
    subst e1 e2
    refine hc.mono fun e W' he => ?_
    obtain ⟨u, ρ', rfl, hu, hst⟩ := he
    obtain ⟨rfl, hbel⟩ := hfin u ρ' W' hu hst
    exact ⟨rfl, hbel⟩
  · rw [hent] at e1
    injection e1 with e1 _
    cases e1

theorem Rel.grow (h : Rel P b0 ρ H W) {W' : World} (hw : ∀ k, k < W.heap.size → W'.heap[k]? = W.heap[k]?) (hs : W.heap.size ≤ W'.heap.size) : Rel P b0 ρ H W' :=
  ⟨fun id b hb hne => by
    obtain ⟨l, hl, hk⟩ := h.blk id b hb hne
    exact ⟨l, hl, hk.world (hw _ hk.lt)⟩, h.hole, h.inj, h.fresh, h.gen, Nat.le_trans h.size hs⟩

/-- A function that needs nothing and tells something plain, as one step. -/
def withV (Pr : Prims) (k : Nat) (v : V) : Prims :=
  ⟨fun j => if j = k then some fun a H => match a with | [] => some (v, H) | _ => none else Pr.call j, Pr.dfr, Pr.gc⟩
theorem withV_ok {Pr Pr0 : Prims} (hm : P.follows .mixedOrders = true) (hnn : NoNum P) (hp0 : PrOk P Pr0) (hp : PrOk P Pr) {k n : Nat} {v : V} (hv : v.flat = true) (h : (callN P Pr0 n k [] []).map (·.1) = some v) : PrOk P (withV Pr k v) := by
  refine ⟨fun j p hj args H v' H' hcall b0 ρ W us hR ha => ?_, hp.dfr, hp.gc⟩
  simp only [withV] at hj
  split at hj
  · rename_i e
    subst e
    injection hj with hj
    subst hj
    obtain ⟨⟨v1, H1⟩, h1, e1⟩ := Option.map_eq_some_iff.1 h
    simp only at e1
    subst e1
    match args, ha, hcall with
    | [], ha, hcall =>
      simp only [Option.some.injEq, Prod.mk.injEq] at hcall
      obtain ⟨rfl, rfl⟩ := hcall
      have hfin : ∀ (u : Value) (ρ' : Ren) (W' : World), VR ρ' v1 u → Step P W.heap.size (fun _ _ => none) ρ' [] H1 W W' → VR ρ v1 u ∧ Step P b0 ρ ρ H H W W' := by
        intro u ρ' W' hu hst
        have hfr : ∀ i, i < W.heap.size → W'.heap[i]? = W.heap[i]? := fun i hi => hst.frame i hi (by rintro ⟨j, b, l, hb, _⟩; simp at hb)
        refine ⟨?_, hR.grow hfr hst.size, Ren.Le.refl _, fun i hi _ => hfr i hi, fun i h => .inl h, hst.size, Nat.le_refl _, hst.os, hst.tape, hst.output⟩
        have hc : VC ρ' v1 u := by cases v1 <;> simp [V.flat] at hv <;> exact hu
        exact (flat_VB hc hv : VC ρ v1 u).toVR
      have hnil : VL (VR fun _ _ => none) [] us.toList := by
        cases hu : us.toList with
        | nil => trivial
        | cons x l => rw [hu] at ha; exact ha.elim
      rcases callN_sound hm hnn hp0 h1 (rel_nil (b0 := W.heap.size) W (Nat.le_refl _)) (us := us) hnil with ⟨k', us', e1, hc⟩ | ⟨u, W', ρ', e1, h2, h3⟩
      · refine .inl ⟨k', us', e1, hc.mono fun e W' he => ?_⟩
        obtain ⟨u, ρ', rfl, hu, hst⟩ := he
        obtain ⟨h2, h3⟩ := hfin u ρ' W' hu hst
        exact ⟨u, ρ, rfl, h2, h3⟩
      · obtain ⟨h4, h5⟩ := hfin u ρ' W' h2 h3
        exact .inr ⟨u, W', ρ, e1, h4, h5⟩
  · exact hp.call j p hj args H v' H' hcall b0 ρ W us hR ha

/-! Arguments opened. -/
theorem args_nil {m : Nat} {xs : List V} (h : ArgsT P H m [] xs) : xs = [] := by
  cases xs with
  | nil => rfl
  | cons x l => exact h.elim
theorem args_cons {m : Nat} {t : TypeId} {ts : List TypeId} {xs : List V} (h : ArgsT P H m (t :: ts) xs) : ∃ x l, xs = x :: l ∧ ArgT P H m t x ∧ ArgsT P H m ts l := by
  cases xs with
  | nil => exact h.elim
  | cons x l => exact ⟨x, l, rfl, h.1, h.2⟩
theorem rd_int {m : Nat} {t : TypeId} {k : IntKind} {xs : List V} (hu : P.underlying t = some (.int k)) (h : RdT P H (m + 1) t xs) : ∃ n, xs = [.int k n] ∧ (Lit.int k n).wf = true := by
  unfold RdT at h; rw [hu] at h; exact h
theorem rd_bool {m : Nat} {t : TypeId} {xs : List V} (hu : P.underlying t = some .bool) (h : RdT P H (m + 1) t xs) : ∃ b, xs = [.bool b] := by
  unfold RdT at h; rw [hu] at h; exact h
theorem rd_str {m : Nat} {t : TypeId} {xs : List V} (hu : P.underlying t = some .string) (h : RdT P H (m + 1) t xs) : ∃ s, xs = [.str s] ∧ s.length ≤ reachBytes := by
  unfold RdT at h; rw [hu] at h; exact h
theorem rd_slice {m : Nat} {t e : TypeId} {xs : List V} (hu : P.underlying t = some (.slice e)) (h : RdT P H (m + 1) t xs) : xs = [.nilslice] ∨ ∃ (id : Nat) (xss : List (List V)), xs = [.slice id 0 0 xss.length (P.cellsOf e) .unk] ∧ getRow H id 0 = some (xss.flatten, false) ∧ xss.length * P.bytesOf e ≤ reachBytes ∧ xss.length ≤ maxLen ∧ ∀ x ∈ xss, x.length = P.cellsOf e ∧ RdT P H m e x := by
  unfold RdT at h; rw [hu] at h; exact h
theorem rd_struct {m : Nat} {t : TypeId} {fs : Array Field} {xs : List V} (hu : P.underlying t = some (.struct fs)) (h : RdT P H (m + 1) t xs) : ∃ (xss : List (List V)), xs = xss.flatten ∧ xss.length = fs.size ∧ ∀ (i : Nat) (fld : Field) (x : List V), fs[i]? = some fld → xss[i]? = some x → x.length = P.cellsOf fld.type ∧ RdT P H m fld.type x := by
  unfold RdT at h; rw [hu] at h; exact h
theorem rd_arr {m n : Nat} {t e : TypeId} {xs : List V} (hu : P.underlying t = some (.array n e)) (h : RdT P H (m + 1) t xs) : ∃ (xss : List (List V)), xs = xss.flatten ∧ xss.length = n ∧ ∀ x ∈ xss, x.length = P.cellsOf e ∧ RdT P H m e x := by
  unfold RdT at h; rw [hu] at h; exact h
theorem arg_int {m : Nat} {t : TypeId} {k : IntKind} {x : V} (hu : P.underlying t = some (.int k)) (h : ArgT P H (m + 1) t x) : ∃ n, x = .int k n ∧ (Lit.int k n).wf = true := by
  unfold ArgT at h; rw [hu] at h
  obtain ⟨n, e, hw⟩ := rd_int hu h
  injection e with e
  exact ⟨n, e, hw⟩
theorem arg_bool {m : Nat} {t : TypeId} {x : V} (hu : P.underlying t = some .bool) (h : ArgT P H (m + 1) t x) : ∃ b, x = .bool b := by
  unfold ArgT at h; rw [hu] at h
  obtain ⟨b, e⟩ := rd_bool hu h
  injection e with e
  exact ⟨b, e⟩
theorem arg_str {m : Nat} {t : TypeId} {x : V} (hu : P.underlying t = some .string) (h : ArgT P H (m + 1) t x) : ∃ s, x = .str s ∧ s.length ≤ reachBytes := by
  unfold ArgT at h; rw [hu] at h
  obtain ⟨s, e, hw⟩ := rd_str hu h
  injection e with e
  exact ⟨s, e, hw⟩
theorem arg_slice {m : Nat} {t e : TypeId} {x : V} (hu : P.underlying t = some (.slice e)) (h : ArgT P H (m + 1) t x) : x = .nilslice ∨ ∃ (id : Nat) (xss : List (List V)), x = .slice id 0 0 xss.length (P.cellsOf e) .unk ∧ getRow H id 0 = some (xss.flatten, false) ∧ xss.length * P.bytesOf e ≤ reachBytes ∧ xss.length ≤ maxLen ∧ ∀ x ∈ xss, x.length = P.cellsOf e ∧ RdT P H m e x := by
  unfold ArgT at h; rw [hu] at h
  rcases rd_slice hu h with e | ⟨id, xss, e, r⟩
  · injection e with e; exact .inl e
  · injection e with e; exact .inr ⟨id, xss, e, r⟩
theorem arg_arr {m n : Nat} {t e : TypeId} {x : V} (hu : P.underlying t = some (.array n e)) (h : ArgT P H (m + 1) t x) : ∃ (xss : List (List V)), x = .agg xss.flatten ∧ xss.length = n ∧ ∀ x ∈ xss, x.length = P.cellsOf e ∧ RdT P H m e x := by
  unfold ArgT at h; rw [hu] at h
  obtain ⟨xs, rfl, h⟩ := h
  obtain ⟨xss, rfl, r⟩ := rd_arr hu h
  exact ⟨xss, rfl, r⟩
/-- What a run answers, out of what it answers first. -/
theorem run_of {Pr : Prims} {n k : Nat} {xs : List V} {v : V} (h : (callN P Pr n k xs H).map (·.1) = some v) : ∃ n H', callN P Pr n k xs H = some (v, H') := by
  obtain ⟨⟨v', H'⟩, h1, h2⟩ := Option.map_eq_some_iff.1 h
  simp only at h2
  subst h2
  exact ⟨n, H', h1⟩
end
end Go.Am
