/-
  Texts of this seat, laid together. No statement of the seat stands here.
-/
import Derived.Test.YteeofpgnjekeaaaGreatDoorP4
/-
  What an interval's numbers tell: their sum, the least, the greatest, the mean; walked, for both. No statement of the seat stands here.
-/
namespace Go.Proofs.YteeofpgnjekeaaaGreatDoor
open Go Go.An
set_option maxRecDepth 4000
set_option linter.unusedSimpArgs false
set_option linter.unusedVariables false

/-- A list of whole numbers as a value that can be looked at: where each element lies. -/
def SqE (H : Hp) (s : V) (l : List Int) (A : Nat → V) : Prop := s.dem = s ∧ s.dem1 = s ∧ lenV Tryz.prog 27 H s = some (.int .i64 l.length) ∧ ∀ i : Nat, i < l.length → indexAddrV Tryz.prog 27 s (.int .i64 (i : Int)) = some (A i) ∧ loadV Tryz.prog 3 H (A i) = some (.int .i64 (inE.at l i))
theorem SqE_of {H : Hp} {s : V} {l : List Int} (h : LstE inE H s l) : ∃ A, SqE H s l A := by
  rcases h with ⟨b, rfl⟩ | ⟨id, g, rfl, hr⟩
  · refine ⟨fun i => .ipt (flatE inE l) (i * 1), slV_dem b inE l, slV_dem1 b inE l, ns27 b inE l, fun i hi => ⟨?_, ld_in hi⟩⟩
    have := is27 (E := inE) (l := l) (b := b) (k := .i64) (j := (i : Int)) rfl ⟨by omega, by omega⟩
    simpa using this
  · refine ⟨fun i => .ptr id g (0 + i * 1), rfl, rfl, n27 id g 0 l.length .full, fun i hi => ⟨?_, ?_⟩⟩
    · have := i27 (id := id) (g := g) (off := 0) (n := l.length) (cp := .full) (k := .i64) (j := (i : Int)) ⟨by omega, by omega⟩
      rw [Int.toNat_natCast] at this
      exact this
    · rw [ldR, hr]
      simp only [Option.bind_some, Nat.zero_add]
      exact lq_cell0 g3 rfl hi
/-- The quotient, rounded down. -/
def floorI (a b : Int) : Int := if a.tdiv b * b > a then a.tdiv b - 1 else a.tdiv b
theorem quo_fx {a b : Int} (hb : 0 < b) : a.tdiv b * b + a.tmod b = a ∧ -b < a.tmod b ∧ a.tmod b < b ∧ (0 ≤ a → 0 ≤ a.tdiv b ∧ a.tdiv b ≤ a ∧ 0 ≤ a.tmod b) ∧ (a ≤ 0 → a.tdiv b ≤ 0 ∧ a ≤ a.tdiv b ∧ a.tmod b ≤ 0) := by
  have h0 : a.tdiv b * b + a.tmod b = a := by rw [Int.mul_comm]; exact Int.mul_tdiv_add_tmod a b
  have pos : ∀ c : Int, 0 ≤ c → 0 ≤ c.tdiv b ∧ c.tdiv b ≤ c ∧ 0 ≤ c.tmod b ∧ c.tmod b < b := fun c hc =>
    ⟨Int.tdiv_nonneg hc (by omega), by rw [Int.tdiv_eq_ediv_of_nonneg hc]; exact Int.ediv_le_self b hc, Int.tmod_nonneg b hc, Int.tmod_lt_of_pos c hb⟩
  rcases Int.le_total 0 a with ha | ha
  · obtain ⟨p1, p2, p3, p4⟩ := pos a ha
    refine ⟨h0, by omega, p4, fun _ => ⟨p1, p2, p3⟩, fun h => ?_⟩
    obtain rfl : a = 0 := by omega
    simp
  · obtain ⟨p1, p2, p3, p4⟩ := pos (-a) (by omega)
    rw [Int.neg_tdiv] at p1 p2
    rw [Int.neg_tmod] at p3 p4
    refine ⟨h0, by omega, by omega, fun h => ?_, fun _ => ⟨by omega, by omega, by omega⟩⟩
    obtain rfl : a = 0 := by omega
    simp
theorem fn74 (a b : Int) (hb : 0 < b) (ha : -9000000000000000 ≤ a ∧ a ≤ 9000000000000000) (H : Hp) : callL Tryz.prog pr 74 [.int .i64 a, .int .i64 b] H = some (.int .i64 (floorI a b), H) := by
  obtain ⟨q0, q1, q2, q3, q4⟩ := quo_fx (a := a) hb
  have hb0 : ¬ b = 0 := by omega
  have hq : -9000000000000000 ≤ a.tdiv b ∧ a.tdiv b ≤ 9000000000000000 := by
    rcases Int.le_total 0 a with h | h
    · have := q3 h; omega
    · have := q4 h; omega
  have hm : -9000000000000000 ≤ a.tdiv b * b ∧ a.tdiv b * b ≤ 9000000000000000 := by
    rcases Int.le_total 0 a with h | h
    · have h1 := q3 h
      have := Int.mul_nonneg h1.1 (by omega : 0 ≤ b)
      omega
    · have h1 := q4 h
      have := Int.mul_nonneg (by omega : 0 ≤ -a.tdiv b) (by omega : 0 ≤ b)
      rw [Int.neg_mul] at this
      omega
  have w1 : IntKind.i64.wrap (a.tdiv b) = a.tdiv b := by simp (disch := first | rfl | omega | exact lt_new _ | assumption | decide | (simp [tk_here, tk_app, tk_0, tk_S, gr_here, gr_app, gr_0, gr_S] <;> omega) | fail) only [go_sem, ↓reduceIte, Nat.reduceLT, Nat.reduceEqDiff, Nat.reduceAdd, Nat.reduceMul, Nat.reduceSub, Int.reduceAdd, Int.reduceSub, Nat.reduceLeDiff, Int.reduceLT, Int.reduceLE, Int.reduceEq, Int.reduceNeg, Int.reduceToNat]
  have w2 : IntKind.i64.wrap (a.tdiv b * b) = a.tdiv b * b := by simp (disch := first | rfl | omega | exact lt_new _ | assumption | decide | (simp [tk_here, tk_app, tk_0, tk_S, gr_here, gr_app, gr_0, gr_S] <;> omega) | fail) only [go_sem, ↓reduceIte, Nat.reduceLT, Nat.reduceEqDiff, Nat.reduceAdd, Nat.reduceMul, Nat.reduceSub, Int.reduceAdd, Int.reduceSub, Nat.reduceLeDiff, Int.reduceLT, Int.reduceLE, Int.reduceEq, Int.reduceNeg, Int.reduceToNat]
  refine run74 (Nat.le_of_ble_eq_true rfl) ?_
  unfold floorI
  simp (disch := first | rfl | omega | exact lt_new _ | assumption | decide | (simp [tk_here, tk_app, tk_0, tk_S, gr_here, gr_app, gr_0, gr_S] <;> omega) | fail) only [r74_0, r74_1, r74_2, r74_3, r74_4, c74, rs74, gc74, hb0, w1, w2, go_sem, ↓reduceIte, Nat.reduceLT, Nat.reduceEqDiff, Nat.reduceAdd, Nat.reduceMul, Nat.reduceSub, Int.reduceAdd, Int.reduceSub, Nat.reduceLeDiff, Int.reduceLT, Int.reduceLE, Int.reduceEq, Int.reduceNeg, Int.reduceToNat]
  repeat' ((first | refine guardB_dec (fun hy => ?_) (fun hy => ?_) | refine guardB_bool (fun hy => ?_) (fun hy => ?_) | refine guardQ_ite (fun hy => ?_) (fun hy => ?_) | refine brQ_dec (fun hy => ?_) (fun hy => ?_) | refine brQ_bool (fun hy => ?_) (fun hy => ?_)) <;> (try simp only [Bool.not_eq_true', Bool.not_eq_false', Bool.and_eq_true, Bool.or_eq_false_iff, decide_eq_true_eq, decide_eq_false_iff_not] at hy) <;> simp (disch := first | rfl | omega | exact lt_new _ | assumption | decide | (simp [tk_here, tk_app, tk_0, tk_S, gr_here, gr_app, gr_0, gr_S] <;> omega) | fail) only [r74_0, r74_1, r74_2, r74_3, r74_4, c74, rs74, gc74, hb0, w1, w2, go_sem, ↓reduceIte, Nat.reduceLT, Nat.reduceEqDiff, Nat.reduceAdd, Nat.reduceMul, Nat.reduceSub, Int.reduceAdd, Int.reduceSub, Nat.reduceLeDiff, Int.reduceLT, Int.reduceLE, Int.reduceEq, Int.reduceNeg, Int.reduceToNat, hy])
  all_goals (try ((first | refine finQ_same ?_ | refine finQ_app ?_ | (rw [List.append_assoc]; refine finQ_app ?_)) <;> simp (disch := first | rfl | omega | exact lt_new _ | assumption | decide | (simp [tk_here, tk_app, tk_0, tk_S, gr_here, gr_app, gr_0, gr_S] <;> omega) | fail) only [go_sem, ↓reduceIte, Nat.reduceLT, Nat.reduceEqDiff, Nat.reduceAdd, Nat.reduceMul, Nat.reduceSub, Int.reduceAdd, Int.reduceSub, Nat.reduceLeDiff, Int.reduceLT, Int.reduceLE, Int.reduceEq, Int.reduceNeg, Int.reduceToNat, List.append_assoc, List.cons_append, List.nil_append, *]))
  all_goals (try first | rfl | (simp [*]; done) | grind)
theorem fn118 (a b : Int) (hb : 0 < b) (hb2 : b ≤ 200) (ha : -4000000000000000 ≤ a ∧ a ≤ 4000000000000000) (H : Hp) : callL Tryz.prog pr 118 [.int .i64 a, .int .i64 b] H = some (.int .i64 (floorI (2 * a + b) (2 * b)), H) := by
  obtain ⟨q0, q1, q2, q3, q4⟩ := quo_fx (a := 2 * a + b) (b := 2 * b) (by omega)
  have hb0 : ¬ 2 * b = 0 := by omega
  have hq : -9000000000000000 ≤ (2 * a + b).tdiv (2 * b) ∧ (2 * a + b).tdiv (2 * b) ≤ 9000000000000000 := by
    rcases Int.le_total 0 (2 * a + b) with h | h
    · have := q3 h; omega
    · have := q4 h; omega
  have w1 : IntKind.i64.wrap ((2 * a + b).tdiv (2 * b)) = (2 * a + b).tdiv (2 * b) := by simp (disch := first | rfl | omega | exact lt_new _ | assumption | decide | (simp [tk_here, tk_app, tk_0, tk_S, gr_here, gr_app, gr_0, gr_S] <;> omega) | fail) only [go_sem, ↓reduceIte, Nat.reduceLT, Nat.reduceEqDiff, Nat.reduceAdd, Nat.reduceMul, Nat.reduceSub, Int.reduceAdd, Int.reduceSub, Nat.reduceLeDiff, Int.reduceLT, Int.reduceLE, Int.reduceEq, Int.reduceNeg, Int.reduceToNat]
  have w2 : IntKind.i64.wrap ((2 * a + b).tmod (2 * b)) = (2 * a + b).tmod (2 * b) := by simp (disch := first | rfl | omega | exact lt_new _ | assumption | decide | (simp [tk_here, tk_app, tk_0, tk_S, gr_here, gr_app, gr_0, gr_S] <;> omega) | fail) only [go_sem, ↓reduceIte, Nat.reduceLT, Nat.reduceEqDiff, Nat.reduceAdd, Nat.reduceMul, Nat.reduceSub, Int.reduceAdd, Int.reduceSub, Nat.reduceLeDiff, Int.reduceLT, Int.reduceLE, Int.reduceEq, Int.reduceNeg, Int.reduceToNat]
  have w3 : IntKind.i64.wrap (2 * a + b) = 2 * a + b := by simp (disch := first | rfl | omega | exact lt_new _ | assumption | decide | (simp [tk_here, tk_app, tk_0, tk_S, gr_here, gr_app, gr_0, gr_S] <;> omega) | fail) only [go_sem, ↓reduceIte, Nat.reduceLT, Nat.reduceEqDiff, Nat.reduceAdd, Nat.reduceMul, Nat.reduceSub, Int.reduceAdd, Int.reduceSub, Nat.reduceLeDiff, Int.reduceLT, Int.reduceLE, Int.reduceEq, Int.reduceNeg, Int.reduceToNat]
  have w4 : IntKind.i64.wrap (2 * a) = 2 * a := by simp (disch := first | rfl | omega | exact lt_new _ | assumption | decide | (simp [tk_here, tk_app, tk_0, tk_S, gr_here, gr_app, gr_0, gr_S] <;> omega) | fail) only [go_sem, ↓reduceIte, Nat.reduceLT, Nat.reduceEqDiff, Nat.reduceAdd, Nat.reduceMul, Nat.reduceSub, Int.reduceAdd, Int.reduceSub, Nat.reduceLeDiff, Int.reduceLT, Int.reduceLE, Int.reduceEq, Int.reduceNeg, Int.reduceToNat]
  have w5 : IntKind.i64.wrap (2 * b) = 2 * b := by simp (disch := first | rfl | omega | exact lt_new _ | assumption | decide | (simp [tk_here, tk_app, tk_0, tk_S, gr_here, gr_app, gr_0, gr_S] <;> omega) | fail) only [go_sem, ↓reduceIte, Nat.reduceLT, Nat.reduceEqDiff, Nat.reduceAdd, Nat.reduceMul, Nat.reduceSub, Int.reduceAdd, Int.reduceSub, Nat.reduceLeDiff, Int.reduceLT, Int.reduceLE, Int.reduceEq, Int.reduceNeg, Int.reduceToNat]
  have hc : floorI (2 * a + b) (2 * b) = if (2 * a + b).tmod (2 * b) < 0 then (2 * a + b).tdiv (2 * b) - 1 else (2 * a + b).tdiv (2 * b) := by
    unfold floorI
    by_cases h : (2 * a + b).tmod (2 * b) < 0
    · rw [if_pos h, if_pos (by omega)]
    · rw [if_neg h, if_neg (by omega)]
  rw [hc]
  refine run118 (Nat.le_of_ble_eq_true rfl) ?_
  simp (disch := first | rfl | omega | exact lt_new _ | assumption | decide | (simp [tk_here, tk_app, tk_0, tk_S, gr_here, gr_app, gr_0, gr_S] <;> omega) | fail) only [r118_0, r118_1, r118_2, r118_3, r118_4, r118_5, c118, rs118, gc118, hb0, w1, w2, w3, w4, w5, go_sem, ↓reduceIte, Nat.reduceLT, Nat.reduceEqDiff, Nat.reduceAdd, Nat.reduceMul, Nat.reduceSub, Int.reduceAdd, Int.reduceSub, Nat.reduceLeDiff, Int.reduceLT, Int.reduceLE, Int.reduceEq, Int.reduceNeg, Int.reduceToNat]
  repeat' ((first | refine guardB_dec (fun hy => ?_) (fun hy => ?_) | refine guardB_bool (fun hy => ?_) (fun hy => ?_) | refine guardQ_ite (fun hy => ?_) (fun hy => ?_) | refine brQ_dec (fun hy => ?_) (fun hy => ?_) | refine brQ_bool (fun hy => ?_) (fun hy => ?_)) <;> (try simp only [Bool.not_eq_true', Bool.not_eq_false', Bool.and_eq_true, Bool.or_eq_false_iff, decide_eq_true_eq, decide_eq_false_iff_not] at hy) <;> simp (disch := first | rfl | omega | exact lt_new _ | assumption | decide | (simp [tk_here, tk_app, tk_0, tk_S, gr_here, gr_app, gr_0, gr_S] <;> omega) | fail) only [r118_0, r118_1, r118_2, r118_3, r118_4, r118_5, c118, rs118, gc118, hb0, w1, w2, w3, w4, w5, go_sem, ↓reduceIte, Nat.reduceLT, Nat.reduceEqDiff, Nat.reduceAdd, Nat.reduceMul, Nat.reduceSub, Int.reduceAdd, Int.reduceSub, Nat.reduceLeDiff, Int.reduceLT, Int.reduceLE, Int.reduceEq, Int.reduceNeg, Int.reduceToNat, hy])
  all_goals (try ((first | refine finQ_same ?_ | refine finQ_app ?_ | (rw [List.append_assoc]; refine finQ_app ?_)) <;> simp (disch := first | rfl | omega | exact lt_new _ | assumption | decide | (simp [tk_here, tk_app, tk_0, tk_S, gr_here, gr_app, gr_0, gr_S] <;> omega) | fail) only [go_sem, ↓reduceIte, Nat.reduceLT, Nat.reduceEqDiff, Nat.reduceAdd, Nat.reduceMul, Nat.reduceSub, Int.reduceAdd, Int.reduceSub, Nat.reduceLeDiff, Int.reduceLT, Int.reduceLE, Int.reduceEq, Int.reduceNeg, Int.reduceToNat, List.append_assoc, List.cons_append, List.nil_append, *]))
  all_goals (try first | rfl | (simp [*]; done) | grind)
def sumI (l : List Int) : Nat → Int
  | 0 => 0
  | k + 1 => sumI l k + inE.at l k
def mxI (l : List Int) : Nat → Int
  | 0 => inE.at l 0
  | k + 1 => if inE.at l k > mxI l k then inE.at l k else mxI l k
def mnI (l : List Int) : Nat → Int
  | 0 => inE.at l 0
  | k + 1 => if inE.at l k < mnI l k then inE.at l k else mnI l k
theorem mx1 (l : List Int) : mxI l 1 = inE.at l 0 := by simp [mxI]
theorem mn1 (l : List Int) : mnI l 1 = inE.at l 0 := by simp [mnI]
/-- Small numbers, and not many. -/
def Sml (l : List Int) : Prop := l.length ≤ 200 ∧ ∀ x ∈ l, -4503599627370 ≤ x ∧ x ≤ 4503599627370
theorem Sml.sum {l : List Int} (h : Sml l) : ∀ k ≤ l.length, -(k * 4503599627370) ≤ sumI l k ∧ sumI l k ≤ k * 4503599627370
  | 0, _ => by simp [sumI]
  | k + 1, hk => by
    have h1 := h.sum k (by omega)
    have h2 := h.2 _ (inE.at_mem (i := k) (by omega))
    unfold sumI
    omega
theorem fn70 {s : V} {l : List Int} {A : Nat → V} {H : Hp} (hs : SqE H s l A) (h0 : 0 < l.length) (h1 : l.length ≤ 2 ^ 60) : callL Tryz.prog pr 70 [s] H = some (.int .i64 (mxI l l.length), H) := by
  obtain ⟨d0, d1, d2, d3⟩ := hs
  obtain ⟨e1, e2⟩ := d3 0 h0
  simp only [Int.natCast_zero] at e1
  have hl1 : ¬ (l.length : Int) < 1 := by omega
  refine run70 (Nat.le_of_ble_eq_true rfl) ?_
  simp (disch := first | rfl | omega | exact lt_new _ | assumption | decide | (simp [tk_here, tk_app, tk_0, tk_S, gr_here, gr_app, gr_0, gr_S] <;> omega) | fail) only [r70_0, r70_1, r70_2, r70_3, r70_4, r70_5, r70_6, r70_7, r70_9, c70, rs70, gc70, d0, d1, d2, e1, e2, hl1, go_sem, ↓reduceIte, Nat.reduceLT, Nat.reduceEqDiff, Nat.reduceAdd, Nat.reduceMul, Nat.reduceSub, Int.reduceAdd, Int.reduceSub, Nat.reduceLeDiff, Int.reduceLT, Int.reduceLE, Int.reduceEq, Int.reduceNeg, Int.reduceToNat]
  repeat' ((first | refine guardB_dec (fun hy => ?_) (fun hy => ?_) | refine guardB_bool (fun hy => ?_) (fun hy => ?_) | refine guardQ_ite (fun hy => ?_) (fun hy => ?_) | refine brQ_dec (fun hy => ?_) (fun hy => ?_) | refine brQ_bool (fun hy => ?_) (fun hy => ?_)) <;> (try simp only [Bool.not_eq_true', Bool.not_eq_false', Bool.and_eq_true, Bool.or_eq_false_iff, decide_eq_true_eq, decide_eq_false_iff_not] at hy) <;> simp (disch := first | rfl | omega | exact lt_new _ | assumption | decide | (simp [tk_here, tk_app, tk_0, tk_S, gr_here, gr_app, gr_0, gr_S] <;> omega) | fail) only [r70_0, r70_1, r70_2, r70_3, r70_4, r70_5, r70_6, r70_7, r70_9, c70, rs70, gc70, d0, d1, d2, e1, e2, hl1, go_sem, ↓reduceIte, Nat.reduceLT, Nat.reduceEqDiff, Nat.reduceAdd, Nat.reduceMul, Nat.reduceSub, Int.reduceAdd, Int.reduceSub, Nat.reduceLeDiff, Int.reduceLT, Int.reduceLE, Int.reduceEq, Int.reduceNeg, Int.reduceToNat, hy])
  refine Wp_loop (fun m T D H' => ∃ i, m = l.length - i ∧ 1 ≤ i ∧ i ≤ l.length ∧ D = [] ∧ H' = H ∧ get T 0 = s ∧ get T 3 = .int .i64 (mxI l i) ∧ get T 4 = .int .i64 i) ?_ (l.length - 1) _ _ _ ?_
  case refine_2 => exact ⟨1, rfl, Nat.le_refl _, h0, by simp (disch := first | rfl | omega | exact lt_new _ | assumption | decide | (simp [tk_here, tk_app, tk_0, tk_S, gr_here, gr_app, gr_0, gr_S] <;> omega) | fail) only [go_sem, ↓reduceIte, Nat.reduceLT, Nat.reduceEqDiff, Nat.reduceAdd, Nat.reduceMul, Nat.reduceSub, Int.reduceAdd, Int.reduceSub, Nat.reduceLeDiff, Int.reduceLT, Int.reduceLE, Int.reduceEq, Int.reduceNeg, Int.reduceToNat, mx1]⟩
  rintro m T D H' ⟨i, rfl, hi1, hi, rfl, rfl, t0, t3, t4⟩
  by_cases hlt : i < l.length
  · have hlt' : (i : Int) < l.length := by omega
    obtain ⟨e1, e2⟩ := d3 i hlt
    have hm : mxI l (i + 1) = if inE.at l i > mxI l i then inE.at l i else mxI l i := rfl
    simp (disch := first | rfl | omega | exact lt_new _ | assumption | decide | (simp [tk_here, tk_app, tk_0, tk_S, gr_here, gr_app, gr_0, gr_S] <;> omega) | fail) only [l70_8, r70_5, r70_6, r70_7, d0, d1, d2, e1, e2, t0, t3, t4, hlt', go_sem, ↓reduceIte, Nat.reduceLT, Nat.reduceEqDiff, Nat.reduceAdd, Nat.reduceMul, Nat.reduceSub, Int.reduceAdd, Int.reduceSub, Nat.reduceLeDiff, Int.reduceLT, Int.reduceLE, Int.reduceEq, Int.reduceNeg, Int.reduceToNat]
    repeat' ((first | refine guardB_dec (fun hy => ?_) (fun hy => ?_) | refine guardB_bool (fun hy => ?_) (fun hy => ?_) | refine guardQ_ite (fun hy => ?_) (fun hy => ?_) | refine brQ_dec (fun hy => ?_) (fun hy => ?_) | refine brQ_bool (fun hy => ?_) (fun hy => ?_)) <;> (try simp only [Bool.not_eq_true', Bool.not_eq_false', Bool.and_eq_true, Bool.or_eq_false_iff, decide_eq_true_eq, decide_eq_false_iff_not] at hy) <;> simp (disch := first | rfl | omega | exact lt_new _ | assumption | decide | (simp [tk_here, tk_app, tk_0, tk_S, gr_here, gr_app, gr_0, gr_S] <;> omega) | fail) only [l70_8, r70_5, r70_6, r70_7, d0, d1, d2, e1, e2, t0, t3, t4, hlt', go_sem, ↓reduceIte, Nat.reduceLT, Nat.reduceEqDiff, Nat.reduceAdd, Nat.reduceMul, Nat.reduceSub, Int.reduceAdd, Int.reduceSub, Nat.reduceLeDiff, Int.reduceLT, Int.reduceLE, Int.reduceEq, Int.reduceNeg, Int.reduceToNat, hy])
    exact ⟨_, by omega, i + 1, rfl, by omega, hlt, by rw [hm], rfl⟩
  · obtain rfl : i = l.length := by omega
    simp (disch := first | rfl | omega | exact lt_new _ | assumption | decide | (simp [tk_here, tk_app, tk_0, tk_S, gr_here, gr_app, gr_0, gr_S] <;> omega) | fail) only [l70_8, r70_5, r70_9, rs70, gc70, d0, d1, d2, t0, t3, t4, Int.lt_irrefl, go_sem, ↓reduceIte, Nat.reduceLT, Nat.reduceEqDiff, Nat.reduceAdd, Nat.reduceMul, Nat.reduceSub, Int.reduceAdd, Int.reduceSub, Nat.reduceLeDiff, Int.reduceLT, Int.reduceLE, Int.reduceEq, Int.reduceNeg, Int.reduceToNat]
    repeat' ((first | refine guardB_dec (fun hy => ?_) (fun hy => ?_) | refine guardB_bool (fun hy => ?_) (fun hy => ?_) | refine guardQ_ite (fun hy => ?_) (fun hy => ?_) | refine brQ_dec (fun hy => ?_) (fun hy => ?_) | refine brQ_bool (fun hy => ?_) (fun hy => ?_)) <;> (try simp only [Bool.not_eq_true', Bool.not_eq_false', Bool.and_eq_true, Bool.or_eq_false_iff, decide_eq_true_eq, decide_eq_false_iff_not] at hy) <;> simp (disch := first | rfl | omega | exact lt_new _ | assumption | decide | (simp [tk_here, tk_app, tk_0, tk_S, gr_here, gr_app, gr_0, gr_S] <;> omega) | fail) only [l70_8, r70_5, r70_9, rs70, gc70, d0, d1, d2, t0, t3, t4, Int.lt_irrefl, go_sem, ↓reduceIte, Nat.reduceLT, Nat.reduceEqDiff, Nat.reduceAdd, Nat.reduceMul, Nat.reduceSub, Int.reduceAdd, Int.reduceSub, Nat.reduceLeDiff, Int.reduceLT, Int.reduceLE, Int.reduceEq, Int.reduceNeg, Int.reduceToNat, hy])
    all_goals (try ((first | refine finQ_same ?_ | refine finQ_app ?_ | (rw [List.append_assoc]; refine finQ_app ?_)) <;> simp (disch := first | rfl | omega | exact lt_new _ | assumption | decide | (simp [tk_here, tk_app, tk_0, tk_S, gr_here, gr_app, gr_0, gr_S] <;> omega) | fail) only [go_sem, ↓reduceIte, Nat.reduceLT, Nat.reduceEqDiff, Nat.reduceAdd, Nat.reduceMul, Nat.reduceSub, Int.reduceAdd, Int.reduceSub, Nat.reduceLeDiff, Int.reduceLT, Int.reduceLE, Int.reduceEq, Int.reduceNeg, Int.reduceToNat, List.append_assoc, List.cons_append, List.nil_append, *]))
    all_goals (try first | rfl | (simp [*]; done) | grind)
theorem fn117 {s : V} {l : List Int} {A : Nat → V} {H : Hp} (hs : SqE H s l A) (h0 : 0 < l.length) (h1 : l.length ≤ 2 ^ 60) : callL Tryz.prog pr 117 [s] H = some (.int .i64 (mnI l l.length), H) := by
  obtain ⟨d0, d1, d2, d3⟩ := hs
  obtain ⟨e1, e2⟩ := d3 0 h0
  simp only [Int.natCast_zero] at e1
  have hl1 : ¬ (l.length : Int) < 1 := by omega
  refine run117 (Nat.le_of_ble_eq_true rfl) ?_
  simp (disch := first | rfl | omega | exact lt_new _ | assumption | decide | (simp [tk_here, tk_app, tk_0, tk_S, gr_here, gr_app, gr_0, gr_S] <;> omega) | fail) only [r117_0, r117_1, r117_2, r117_3, r117_4, r117_5, r117_6, r117_7, r117_9, c117, rs117, gc117, d0, d1, d2, e1, e2, hl1, go_sem, ↓reduceIte, Nat.reduceLT, Nat.reduceEqDiff, Nat.reduceAdd, Nat.reduceMul, Nat.reduceSub, Int.reduceAdd, Int.reduceSub, Nat.reduceLeDiff, Int.reduceLT, Int.reduceLE, Int.reduceEq, Int.reduceNeg, Int.reduceToNat]
  repeat' ((first | refine guardB_dec (fun hy => ?_) (fun hy => ?_) | refine guardB_bool (fun hy => ?_) (fun hy => ?_) | refine guardQ_ite (fun hy => ?_) (fun hy => ?_) | refine brQ_dec (fun hy => ?_) (fun hy => ?_) | refine brQ_bool (fun hy => ?_) (fun hy => ?_)) <;> (try simp only [Bool.not_eq_true', Bool.not_eq_false', Bool.and_eq_true, Bool.or_eq_false_iff, decide_eq_true_eq, decide_eq_false_iff_not] at hy) <;> simp (disch := first | rfl | omega | exact lt_new _ | assumption | decide | (simp [tk_here, tk_app, tk_0, tk_S, gr_here, gr_app, gr_0, gr_S] <;> omega) | fail) only [r117_0, r117_1, r117_2, r117_3, r117_4, r117_5, r117_6, r117_7, r117_9, c117, rs117, gc117, d0, d1, d2, e1, e2, hl1, go_sem, ↓reduceIte, Nat.reduceLT, Nat.reduceEqDiff, Nat.reduceAdd, Nat.reduceMul, Nat.reduceSub, Int.reduceAdd, Int.reduceSub, Nat.reduceLeDiff, Int.reduceLT, Int.reduceLE, Int.reduceEq, Int.reduceNeg, Int.reduceToNat, hy])
  refine Wp_loop (fun m T D H' => ∃ i, m = l.length - i ∧ 1 ≤ i ∧ i ≤ l.length ∧ D = [] ∧ H' = H ∧ get T 0 = s ∧ get T 3 = .int .i64 (mnI l i) ∧ get T 4 = .int .i64 i) ?_ (l.length - 1) _ _ _ ?_
  case refine_2 => exact ⟨1, rfl, Nat.le_refl _, h0, by simp (disch := first | rfl | omega | exact lt_new _ | assumption | decide | (simp [tk_here, tk_app, tk_0, tk_S, gr_here, gr_app, gr_0, gr_S] <;> omega) | fail) only [go_sem, ↓reduceIte, Nat.reduceLT, Nat.reduceEqDiff, Nat.reduceAdd, Nat.reduceMul, Nat.reduceSub, Int.reduceAdd, Int.reduceSub, Nat.reduceLeDiff, Int.reduceLT, Int.reduceLE, Int.reduceEq, Int.reduceNeg, Int.reduceToNat, mn1]⟩
  rintro m T D H' ⟨i, rfl, hi1, hi, rfl, rfl, t0, t3, t4⟩
  by_cases hlt : i < l.length
  · have hlt' : (i : Int) < l.length := by omega
    obtain ⟨e1, e2⟩ := d3 i hlt
    have hm : mnI l (i + 1) = if inE.at l i < mnI l i then inE.at l i else mnI l i := rfl
    simp (disch := first | rfl | omega | exact lt_new _ | assumption | decide | (simp [tk_here, tk_app, tk_0, tk_S, gr_here, gr_app, gr_0, gr_S] <;> omega) | fail) only [l117_8, r117_5, r117_6, r117_7, d0, d1, d2, e1, e2, t0, t3, t4, hlt', go_sem, ↓reduceIte, Nat.reduceLT, Nat.reduceEqDiff, Nat.reduceAdd, Nat.reduceMul, Nat.reduceSub, Int.reduceAdd, Int.reduceSub, Nat.reduceLeDiff, Int.reduceLT, Int.reduceLE, Int.reduceEq, Int.reduceNeg, Int.reduceToNat]
    repeat' ((first | refine guardB_dec (fun hy => ?_) (fun hy => ?_) | refine guardB_bool (fun hy => ?_) (fun hy => ?_) | refine guardQ_ite (fun hy => ?_) (fun hy => ?_) | refine brQ_dec (fun hy => ?_) (fun hy => ?_) | refine brQ_bool (fun hy => ?_) (fun hy => ?_)) <;> (try simp only [Bool.not_eq_true', Bool.not_eq_false', Bool.and_eq_true, Bool.or_eq_false_iff, decide_eq_true_eq, decide_eq_false_iff_not] at hy) <;> simp (disch := first | rfl | omega | exact lt_new _ | assumption | decide | (simp [tk_here, tk_app, tk_0, tk_S, gr_here, gr_app, gr_0, gr_S] <;> omega) | fail) only [l117_8, r117_5, r117_6, r117_7, d0, d1, d2, e1, e2, t0, t3, t4, hlt', go_sem, ↓reduceIte, Nat.reduceLT, Nat.reduceEqDiff, Nat.reduceAdd, Nat.reduceMul, Nat.reduceSub, Int.reduceAdd, Int.reduceSub, Nat.reduceLeDiff, Int.reduceLT, Int.reduceLE, Int.reduceEq, Int.reduceNeg, Int.reduceToNat, hy])
    exact ⟨_, by omega, i + 1, rfl, by omega, hlt, by rw [hm], rfl⟩
  · obtain rfl : i = l.length := by omega
    simp (disch := first | rfl | omega | exact lt_new _ | assumption | decide | (simp [tk_here, tk_app, tk_0, tk_S, gr_here, gr_app, gr_0, gr_S] <;> omega) | fail) only [l117_8, r117_5, r117_9, rs117, gc117, d0, d1, d2, t0, t3, t4, Int.lt_irrefl, go_sem, ↓reduceIte, Nat.reduceLT, Nat.reduceEqDiff, Nat.reduceAdd, Nat.reduceMul, Nat.reduceSub, Int.reduceAdd, Int.reduceSub, Nat.reduceLeDiff, Int.reduceLT, Int.reduceLE, Int.reduceEq, Int.reduceNeg, Int.reduceToNat]
    repeat' ((first | refine guardB_dec (fun hy => ?_) (fun hy => ?_) | refine guardB_bool (fun hy => ?_) (fun hy => ?_) | refine guardQ_ite (fun hy => ?_) (fun hy => ?_) | refine brQ_dec (fun hy => ?_) (fun hy => ?_) | refine brQ_bool (fun hy => ?_) (fun hy => ?_)) <;> (try simp only [Bool.not_eq_true', Bool.not_eq_false', Bool.and_eq_true, Bool.or_eq_false_iff, decide_eq_true_eq, decide_eq_false_iff_not] at hy) <;> simp (disch := first | rfl | omega | exact lt_new _ | assumption | decide | (simp [tk_here, tk_app, tk_0, tk_S, gr_here, gr_app, gr_0, gr_S] <;> omega) | fail) only [l117_8, r117_5, r117_9, rs117, gc117, d0, d1, d2, t0, t3, t4, Int.lt_irrefl, go_sem, ↓reduceIte, Nat.reduceLT, Nat.reduceEqDiff, Nat.reduceAdd, Nat.reduceMul, Nat.reduceSub, Int.reduceAdd, Int.reduceSub, Nat.reduceLeDiff, Int.reduceLT, Int.reduceLE, Int.reduceEq, Int.reduceNeg, Int.reduceToNat, hy])
    all_goals (try ((first | refine finQ_same ?_ | refine finQ_app ?_ | (rw [List.append_assoc]; refine finQ_app ?_)) <;> simp (disch := first | rfl | omega | exact lt_new _ | assumption | decide | (simp [tk_here, tk_app, tk_0, tk_S, gr_here, gr_app, gr_0, gr_S] <;> omega) | fail) only [go_sem, ↓reduceIte, Nat.reduceLT, Nat.reduceEqDiff, Nat.reduceAdd, Nat.reduceMul, Nat.reduceSub, Int.reduceAdd, Int.reduceSub, Nat.reduceLeDiff, Int.reduceLT, Int.reduceLE, Int.reduceEq, Int.reduceNeg, Int.reduceToNat, List.append_assoc, List.cons_append, List.nil_append, *]))
    all_goals (try first | rfl | (simp [*]; done) | grind)
end Go.Proofs.YteeofpgnjekeaaaGreatDoor
/-
  What an interval tells, for both; lists of whole numbers the same. No statement of the seat stands here.
-/
namespace Go.Proofs.YteeofpgnjekeaaaGreatDoor
open Go Go.An
set_option maxRecDepth 4000
set_option linter.unusedSimpArgs false
set_option linter.unusedVariables false

def intv (l : List Int) (how : Int) : Int := if l.length = 0 then 0 else if how = 0 then l.length else if how = 2 then mnI l l.length else if how = 3 then mxI l l.length else if how = 4 then floorI (2 * sumI l l.length + l.length) (2 * l.length) else sumI l l.length
set_option maxHeartbeats 4000000 in
theorem fn71 {s : V} {l : List Int} {A : Nat → V} {H : Hp} (hs : SqE H s l A) (hl : Sml l) (how : Int) (hh : 0 ≤ how ∧ how ≤ 4) : callL Tryz.prog pr 71 [s, .int .i64 how] H = some (.int .i64 (intv l how), H) := by
  obtain ⟨d0, d1, d2, d3⟩ := id hs
  have hl0 := hl.1
  have hsum := hl.sum
  refine run71 (Nat.le_of_ble_eq_true rfl) ?_
  unfold intv
  by_cases hz : l.length = 0
  case pos =>
    rw [if_pos hz]
    have hz2 : (l.length : Int) = 0 := by omega
    simp (disch := first | rfl | omega | exact lt_new _ | assumption | decide | (simp [tk_here, tk_app, tk_0, tk_S, gr_here, gr_app, gr_0, gr_S] <;> omega) | fail) only [r71_0, r71_1, r71_2, r71_3, r71_4, r71_5, r71_6, r71_7, r71_8, r71_10, r71_11, r71_12, r71_13, r71_14, r71_15, r71_16, r71_17, r71_18, r71_19, c71, rs71, gc71, d0, d1, d2, hz2, go_sem, ↓reduceIte, Nat.reduceLT, Nat.reduceEqDiff, Nat.reduceAdd, Nat.reduceMul, Nat.reduceSub, Int.reduceAdd, Int.reduceSub, Nat.reduceLeDiff, Int.reduceLT, Int.reduceLE, Int.reduceEq, Int.reduceNeg, Int.reduceToNat]
    repeat' ((first | refine guardB_dec (fun hy => ?_) (fun hy => ?_) | refine guardB_bool (fun hy => ?_) (fun hy => ?_) | refine guardQ_ite (fun hy => ?_) (fun hy => ?_) | refine brQ_dec (fun hy => ?_) (fun hy => ?_) | refine brQ_bool (fun hy => ?_) (fun hy => ?_)) <;> (try simp only [Bool.not_eq_true', Bool.not_eq_false', Bool.and_eq_true, Bool.or_eq_false_iff, decide_eq_true_eq, decide_eq_false_iff_not] at hy) <;> simp (disch := first | rfl | omega | exact lt_new _ | assumption | decide | (simp [tk_here, tk_app, tk_0, tk_S, gr_here, gr_app, gr_0, gr_S] <;> omega) | fail) only [r71_0, r71_1, r71_2, r71_3, r71_4, r71_5, r71_6, r71_7, r71_8, r71_10, r71_11, r71_12, r71_13, r71_14, r71_15, r71_16, r71_17, r71_18, r71_19, c71, rs71, gc71, d0, d1, d2, hz2, go_sem, ↓reduceIte, Nat.reduceLT, Nat.reduceEqDiff, Nat.reduceAdd, Nat.reduceMul, Nat.reduceSub, Int.reduceAdd, Int.reduceSub, Nat.reduceLeDiff, Int.reduceLT, Int.reduceLE, Int.reduceEq, Int.reduceNeg, Int.reduceToNat, hy])
    all_goals (try ((first | refine finQ_same ?_ | refine finQ_app ?_ | (rw [List.append_assoc]; refine finQ_app ?_)) <;> simp (disch := first | rfl | omega | exact lt_new _ | assumption | decide | (simp [tk_here, tk_app, tk_0, tk_S, gr_here, gr_app, gr_0, gr_S] <;> omega) | fail) only [go_sem, ↓reduceIte, Nat.reduceLT, Nat.reduceEqDiff, Nat.reduceAdd, Nat.reduceMul, Nat.reduceSub, Int.reduceAdd, Int.reduceSub, Nat.reduceLeDiff, Int.reduceLT, Int.reduceLE, Int.reduceEq, Int.reduceNeg, Int.reduceToNat, List.append_assoc, List.cons_append, List.nil_append, *]))
    all_goals (try first | rfl | (simp [*]; done) | grind)
  rw [if_neg hz]
  have hz2 : ¬ (l.length : Int) = 0 := by omega
  have h70 := fn70 hs (by omega) (by omega)
  have h117 := fn117 hs (by omega) (by omega)
  have h118 := fn118 (sumI l l.length) l.length (by omega) (by omega) (by have := hsum l.length (Nat.le_refl _); omega)
  simp (disch := first | rfl | omega | exact lt_new _ | assumption | decide | (simp [tk_here, tk_app, tk_0, tk_S, gr_here, gr_app, gr_0, gr_S] <;> omega) | fail) only [r71_0, r71_1, r71_3, r71_4, c71, d0, d1, d2, hz2, go_sem, ↓reduceIte, Nat.reduceLT, Nat.reduceEqDiff, Nat.reduceAdd, Nat.reduceMul, Nat.reduceSub, Int.reduceAdd, Int.reduceSub, Nat.reduceLeDiff, Int.reduceLT, Int.reduceLE, Int.reduceEq, Int.reduceNeg, Int.reduceToNat]
  repeat' ((first | refine guardB_dec (fun hy => ?_) (fun hy => ?_) | refine guardB_bool (fun hy => ?_) (fun hy => ?_) | refine guardQ_ite (fun hy => ?_) (fun hy => ?_) | refine brQ_dec (fun hy => ?_) (fun hy => ?_) | refine brQ_bool (fun hy => ?_) (fun hy => ?_)) <;> (try simp only [Bool.not_eq_true', Bool.not_eq_false', Bool.and_eq_true, Bool.or_eq_false_iff, decide_eq_true_eq, decide_eq_false_iff_not] at hy) <;> simp (disch := first | rfl | omega | exact lt_new _ | assumption | decide | (simp [tk_here, tk_app, tk_0, tk_S, gr_here, gr_app, gr_0, gr_S] <;> omega) | fail) only [r71_0, r71_1, r71_3, r71_4, c71, d0, d1, d2, hz2, go_sem, ↓reduceIte, Nat.reduceLT, Nat.reduceEqDiff, Nat.reduceAdd, Nat.reduceMul, Nat.reduceSub, Int.reduceAdd, Int.reduceSub, Nat.reduceLeDiff, Int.reduceLT, Int.reduceLE, Int.reduceEq, Int.reduceNeg, Int.reduceToNat, hy])
  refine Wp_loop (fun m T D H' => ∃ i, m = l.length - i ∧ i ≤ l.length ∧ D = [] ∧ H' = H ∧ get T 0 = s ∧ get T 1 = .int .i64 how ∧ get T 5 = .int .i64 (sumI l i) ∧ get T 11 = s ∧ get T 12 = .int .i64 l.length ∧ get T 13 = .int .i64 i) ?_ l.length _ _ _ ?_
  case refine_2 => exact ⟨0, by simp (disch := first | rfl | omega | exact lt_new _ | assumption | decide | (simp [tk_here, tk_app, tk_0, tk_S, gr_here, gr_app, gr_0, gr_S] <;> omega) | fail) only [go_sem, ↓reduceIte, Nat.reduceLT, Nat.reduceEqDiff, Nat.reduceAdd, Nat.reduceMul, Nat.reduceSub, Int.reduceAdd, Int.reduceSub, Nat.reduceLeDiff, Int.reduceLT, Int.reduceLE, Int.reduceEq, Int.reduceNeg, Int.reduceToNat]; simp [sumI]⟩
  rintro m T D H' ⟨i, rfl, hi, rfl, rfl, t0, t1, t5, t11, t12, t13⟩
  by_cases hlt : i < l.length
  · have hlt' : (i : Int) < l.length := by omega
    obtain ⟨e1, e2⟩ := d3 i hlt
    have b1 := hsum i hi
    have b2 := hl.2 _ (inE.at_mem hlt)
    simp (disch := first | rfl | omega | exact lt_new _ | assumption | decide | (simp [tk_here, tk_app, tk_0, tk_S, gr_here, gr_app, gr_0, gr_S] <;> omega) | fail) only [l71_9, r71_5, r71_6, r71_7, r71_8, d0, d1, d2, e1, e2, t0, t1, t5, t11, t12, t13, hlt', go_sem, ↓reduceIte, Nat.reduceLT, Nat.reduceEqDiff, Nat.reduceAdd, Nat.reduceMul, Nat.reduceSub, Int.reduceAdd, Int.reduceSub, Nat.reduceLeDiff, Int.reduceLT, Int.reduceLE, Int.reduceEq, Int.reduceNeg, Int.reduceToNat]
    repeat' ((first | refine guardB_dec (fun hy => ?_) (fun hy => ?_) | refine guardB_bool (fun hy => ?_) (fun hy => ?_) | refine guardQ_ite (fun hy => ?_) (fun hy => ?_) | refine brQ_dec (fun hy => ?_) (fun hy => ?_) | refine brQ_bool (fun hy => ?_) (fun hy => ?_)) <;> (try simp only [Bool.not_eq_true', Bool.not_eq_false', Bool.and_eq_true, Bool.or_eq_false_iff, decide_eq_true_eq, decide_eq_false_iff_not] at hy) <;> simp (disch := first | rfl | omega | exact lt_new _ | assumption | decide | (simp [tk_here, tk_app, tk_0, tk_S, gr_here, gr_app, gr_0, gr_S] <;> omega) | fail) only [l71_9, r71_5, r71_6, r71_7, r71_8, d0, d1, d2, e1, e2, t0, t1, t5, t11, t12, t13, hlt', go_sem, ↓reduceIte, Nat.reduceLT, Nat.reduceEqDiff, Nat.reduceAdd, Nat.reduceMul, Nat.reduceSub, Int.reduceAdd, Int.reduceSub, Nat.reduceLeDiff, Int.reduceLT, Int.reduceLE, Int.reduceEq, Int.reduceNeg, Int.reduceToNat, hy])
    exact ⟨_, by omega, i + 1, rfl, hlt, rfl, rfl⟩
  · obtain rfl : i = l.length := by omega
    by_cases h0 : how = 0
    · subst h0
      simp (disch := first | rfl | omega | exact lt_new _ | assumption | decide | (simp [tk_here, tk_app, tk_0, tk_S, gr_here, gr_app, gr_0, gr_S] <;> omega) | fail) only [r71_0, r71_1, r71_2, r71_3, r71_4, r71_5, r71_6, r71_7, r71_8, r71_10, r71_11, r71_12, r71_13, r71_14, r71_15, r71_16, r71_17, r71_18, r71_19, c71, rs71, gc71, l71_9, d0, d1, d2, t0, t1, t5, t11, t12, t13, Int.lt_irrefl, go_sem, ↓reduceIte, Nat.reduceLT, Nat.reduceEqDiff, Nat.reduceAdd, Nat.reduceMul, Nat.reduceSub, Int.reduceAdd, Int.reduceSub, Nat.reduceLeDiff, Int.reduceLT, Int.reduceLE, Int.reduceEq, Int.reduceNeg, Int.reduceToNat]
      repeat' ((first | refine guardB_dec (fun hy => ?_) (fun hy => ?_) | refine guardB_bool (fun hy => ?_) (fun hy => ?_) | refine guardQ_ite (fun hy => ?_) (fun hy => ?_) | refine brQ_dec (fun hy => ?_) (fun hy => ?_) | refine brQ_bool (fun hy => ?_) (fun hy => ?_)) <;> (try simp only [Bool.not_eq_true', Bool.not_eq_false', Bool.and_eq_true, Bool.or_eq_false_iff, decide_eq_true_eq, decide_eq_false_iff_not] at hy) <;> simp (disch := first | rfl | omega | exact lt_new _ | assumption | decide | (simp [tk_here, tk_app, tk_0, tk_S, gr_here, gr_app, gr_0, gr_S] <;> omega) | fail) only [r71_0, r71_1, r71_2, r71_3, r71_4, r71_5, r71_6, r71_7, r71_8, r71_10, r71_11, r71_12, r71_13, r71_14, r71_15, r71_16, r71_17, r71_18, r71_19, c71, rs71, gc71, l71_9, d0, d1, d2, t0, t1, t5, t11, t12, t13, Int.lt_irrefl, go_sem, ↓reduceIte, Nat.reduceLT, Nat.reduceEqDiff, Nat.reduceAdd, Nat.reduceMul, Nat.reduceSub, Int.reduceAdd, Int.reduceSub, Nat.reduceLeDiff, Int.reduceLT, Int.reduceLE, Int.reduceEq, Int.reduceNeg, Int.reduceToNat, hy])
      all_goals (try ((first | refine finQ_same ?_ | refine finQ_app ?_ | (rw [List.append_assoc]; refine finQ_app ?_)) <;> simp (disch := first | rfl | omega | exact lt_new _ | assumption | decide | (simp [tk_here, tk_app, tk_0, tk_S, gr_here, gr_app, gr_0, gr_S] <;> omega) | fail) only [go_sem, ↓reduceIte, Nat.reduceLT, Nat.reduceEqDiff, Nat.reduceAdd, Nat.reduceMul, Nat.reduceSub, Int.reduceAdd, Int.reduceSub, Nat.reduceLeDiff, Int.reduceLT, Int.reduceLE, Int.reduceEq, Int.reduceNeg, Int.reduceToNat, List.append_assoc, List.cons_append, List.nil_append, *]))
      all_goals (try first | rfl | (simp [*]; done) | grind)
    by_cases h2 : how = 2
    · subst h2
      simp (disch := first | rfl | omega | exact lt_new _ | assumption | decide | (simp [tk_here, tk_app, tk_0, tk_S, gr_here, gr_app, gr_0, gr_S] <;> omega) | fail) only [r71_0, r71_1, r71_2, r71_3, r71_4, r71_5, r71_6, r71_7, r71_8, r71_10, r71_11, r71_12, r71_13, r71_14, r71_15, r71_16, r71_17, r71_18, r71_19, c71, rs71, gc71, l71_9, d0, d1, d2, t0, t1, t5, t11, t12, t13, Int.lt_irrefl, h117, go_sem, ↓reduceIte, Nat.reduceLT, Nat.reduceEqDiff, Nat.reduceAdd, Nat.reduceMul, Nat.reduceSub, Int.reduceAdd, Int.reduceSub, Nat.reduceLeDiff, Int.reduceLT, Int.reduceLE, Int.reduceEq, Int.reduceNeg, Int.reduceToNat]
      repeat' ((first | refine guardB_dec (fun hy => ?_) (fun hy => ?_) | refine guardB_bool (fun hy => ?_) (fun hy => ?_) | refine guardQ_ite (fun hy => ?_) (fun hy => ?_) | refine brQ_dec (fun hy => ?_) (fun hy => ?_) | refine brQ_bool (fun hy => ?_) (fun hy => ?_)) <;> (try simp only [Bool.not_eq_true', Bool.not_eq_false', Bool.and_eq_true, Bool.or_eq_false_iff, decide_eq_true_eq, decide_eq_false_iff_not] at hy) <;> simp (disch := first | rfl | omega | exact lt_new _ | assumption | decide | (simp [tk_here, tk_app, tk_0, tk_S, gr_here, gr_app, gr_0, gr_S] <;> omega) | fail) only [r71_0, r71_1, r71_2, r71_3, r71_4, r71_5, r71_6, r71_7, r71_8, r71_10, r71_11, r71_12, r71_13, r71_14, r71_15, r71_16, r71_17, r71_18, r71_19, c71, rs71, gc71, l71_9, d0, d1, d2, t0, t1, t5, t11, t12, t13, Int.lt_irrefl, h117, go_sem, ↓reduceIte, Nat.reduceLT, Nat.reduceEqDiff, Nat.reduceAdd, Nat.reduceMul, Nat.reduceSub, Int.reduceAdd, Int.reduceSub, Nat.reduceLeDiff, Int.reduceLT, Int.reduceLE, Int.reduceEq, Int.reduceNeg, Int.reduceToNat, hy])
      all_goals (try ((first | refine finQ_same ?_ | refine finQ_app ?_ | (rw [List.append_assoc]; refine finQ_app ?_)) <;> simp (disch := first | rfl | omega | exact lt_new _ | assumption | decide | (simp [tk_here, tk_app, tk_0, tk_S, gr_here, gr_app, gr_0, gr_S] <;> omega) | fail) only [go_sem, ↓reduceIte, Nat.reduceLT, Nat.reduceEqDiff, Nat.reduceAdd, Nat.reduceMul, Nat.reduceSub, Int.reduceAdd, Int.reduceSub, Nat.reduceLeDiff, Int.reduceLT, Int.reduceLE, Int.reduceEq, Int.reduceNeg, Int.reduceToNat, List.append_assoc, List.cons_append, List.nil_append, *]))
      all_goals (try first | rfl | (simp [*]; done) | grind)
    by_cases h3 : how = 3
    · subst h3
      simp (disch := first | rfl | omega | exact lt_new _ | assumption | decide | (simp [tk_here, tk_app, tk_0, tk_S, gr_here, gr_app, gr_0, gr_S] <;> omega) | fail) only [r71_0, r71_1, r71_2, r71_3, r71_4, r71_5, r71_6, r71_7, r71_8, r71_10, r71_11, r71_12, r71_13, r71_14, r71_15, r71_16, r71_17, r71_18, r71_19, c71, rs71, gc71, l71_9, d0, d1, d2, t0, t1, t5, t11, t12, t13, Int.lt_irrefl, h70, go_sem, ↓reduceIte, Nat.reduceLT, Nat.reduceEqDiff, Nat.reduceAdd, Nat.reduceMul, Nat.reduceSub, Int.reduceAdd, Int.reduceSub, Nat.reduceLeDiff, Int.reduceLT, Int.reduceLE, Int.reduceEq, Int.reduceNeg, Int.reduceToNat]
      repeat' ((first | refine guardB_dec (fun hy => ?_) (fun hy => ?_) | refine guardB_bool (fun hy => ?_) (fun hy => ?_) | refine guardQ_ite (fun hy => ?_) (fun hy => ?_) | refine brQ_dec (fun hy => ?_) (fun hy => ?_) | refine brQ_bool (fun hy => ?_) (fun hy => ?_)) <;> (try simp only [Bool.not_eq_true', Bool.not_eq_false', Bool.and_eq_true, Bool.or_eq_false_iff, decide_eq_true_eq, decide_eq_false_iff_not] at hy) <;> simp (disch := first | rfl | omega | exact lt_new _ | assumption | decide | (simp [tk_here, tk_app, tk_0, tk_S, gr_here, gr_app, gr_0, gr_S] <;> omega) | fail) only [r71_0, r71_1, r71_2, r71_3, r71_4, r71_5, r71_6, r71_7, r71_8, r71_10, r71_11, r71_12, r71_13, r71_14, r71_15, r71_16, r71_17, r71_18, r71_19, c71, rs71, gc71, l71_9, d0, d1, d2, t0, t1, t5, t11, t12, t13, Int.lt_irrefl, h70, go_sem, ↓reduceIte, Nat.reduceLT, Nat.reduceEqDiff, Nat.reduceAdd, Nat.reduceMul, Nat.reduceSub, Int.reduceAdd, Int.reduceSub, Nat.reduceLeDiff, Int.reduceLT, Int.reduceLE, Int.reduceEq, Int.reduceNeg, Int.reduceToNat, hy])
      all_goals (try ((first | refine finQ_same ?_ | refine finQ_app ?_ | (rw [List.append_assoc]; refine finQ_app ?_)) <;> simp (disch := first | rfl | omega | exact lt_new _ | assumption | decide | (simp [tk_here, tk_app, tk_0, tk_S, gr_here, gr_app, gr_0, gr_S] <;> omega) | fail) only [go_sem, ↓reduceIte, Nat.reduceLT, Nat.reduceEqDiff, Nat.reduceAdd, Nat.reduceMul, Nat.reduceSub, Int.reduceAdd, Int.reduceSub, Nat.reduceLeDiff, Int.reduceLT, Int.reduceLE, Int.reduceEq, Int.reduceNeg, Int.reduceToNat, List.append_assoc, List.cons_append, List.nil_append, *]))
      all_goals (try first | rfl | (simp [*]; done) | grind)
    by_cases h4 : how = 4
    · subst h4
      simp (disch := first | rfl | omega | exact lt_new _ | assumption | decide | (simp [tk_here, tk_app, tk_0, tk_S, gr_here, gr_app, gr_0, gr_S] <;> omega) | fail) only [r71_0, r71_1, r71_2, r71_3, r71_4, r71_5, r71_6, r71_7, r71_8, r71_10, r71_11, r71_12, r71_13, r71_14, r71_15, r71_16, r71_17, r71_18, r71_19, c71, rs71, gc71, l71_9, d0, d1, d2, t0, t1, t5, t11, t12, t13, Int.lt_irrefl, h118, go_sem, ↓reduceIte, Nat.reduceLT, Nat.reduceEqDiff, Nat.reduceAdd, Nat.reduceMul, Nat.reduceSub, Int.reduceAdd, Int.reduceSub, Nat.reduceLeDiff, Int.reduceLT, Int.reduceLE, Int.reduceEq, Int.reduceNeg, Int.reduceToNat]
      repeat' ((first | refine guardB_dec (fun hy => ?_) (fun hy => ?_) | refine guardB_bool (fun hy => ?_) (fun hy => ?_) | refine guardQ_ite (fun hy => ?_) (fun hy => ?_) | refine brQ_dec (fun hy => ?_) (fun hy => ?_) | refine brQ_bool (fun hy => ?_) (fun hy => ?_)) <;> (try simp only [Bool.not_eq_true', Bool.not_eq_false', Bool.and_eq_true, Bool.or_eq_false_iff, decide_eq_true_eq, decide_eq_false_iff_not] at hy) <;> simp (disch := first | rfl | omega | exact lt_new _ | assumption | decide | (simp [tk_here, tk_app, tk_0, tk_S, gr_here, gr_app, gr_0, gr_S] <;> omega) | fail) only [r71_0, r71_1, r71_2, r71_3, r71_4, r71_5, r71_6, r71_7, r71_8, r71_10, r71_11, r71_12, r71_13, r71_14, r71_15, r71_16, r71_17, r71_18, r71_19, c71, rs71, gc71, l71_9, d0, d1, d2, t0, t1, t5, t11, t12, t13, Int.lt_irrefl, h118, go_sem, ↓reduceIte, Nat.reduceLT, Nat.reduceEqDiff, Nat.reduceAdd, Nat.reduceMul, Nat.reduceSub, Int.reduceAdd, Int.reduceSub, Nat.reduceLeDiff, Int.reduceLT, Int.reduceLE, Int.reduceEq, Int.reduceNeg, Int.reduceToNat, hy])
      all_goals (try ((first | refine finQ_same ?_ | refine finQ_app ?_ | (rw [List.append_assoc]; refine finQ_app ?_)) <;> simp (disch := first | rfl | omega | exact lt_new _ | assumption | decide | (simp [tk_here, tk_app, tk_0, tk_S, gr_here, gr_app, gr_0, gr_S] <;> omega) | fail) only [go_sem, ↓reduceIte, Nat.reduceLT, Nat.reduceEqDiff, Nat.reduceAdd, Nat.reduceMul, Nat.reduceSub, Int.reduceAdd, Int.reduceSub, Nat.reduceLeDiff, Int.reduceLT, Int.reduceLE, Int.reduceEq, Int.reduceNeg, Int.reduceToNat, List.append_assoc, List.cons_append, List.nil_append, *]))
      all_goals (try first | rfl | (simp [*]; done) | grind)
    rw [if_neg h0, if_neg h2, if_neg h3, if_neg h4]
    simp (disch := first | rfl | omega | exact lt_new _ | assumption | decide | (simp [tk_here, tk_app, tk_0, tk_S, gr_here, gr_app, gr_0, gr_S] <;> omega) | fail) only [r71_0, r71_1, r71_2, r71_3, r71_4, r71_5, r71_6, r71_7, r71_8, r71_10, r71_11, r71_12, r71_13, r71_14, r71_15, r71_16, r71_17, r71_18, r71_19, c71, rs71, gc71, l71_9, d0, d1, d2, t0, t1, t5, t11, t12, t13, Int.lt_irrefl, h0, h2, h3, h4, go_sem, ↓reduceIte, Nat.reduceLT, Nat.reduceEqDiff, Nat.reduceAdd, Nat.reduceMul, Nat.reduceSub, Int.reduceAdd, Int.reduceSub, Nat.reduceLeDiff, Int.reduceLT, Int.reduceLE, Int.reduceEq, Int.reduceNeg, Int.reduceToNat]
    repeat' ((first | refine guardB_dec (fun hy => ?_) (fun hy => ?_) | refine guardB_bool (fun hy => ?_) (fun hy => ?_) | refine guardQ_ite (fun hy => ?_) (fun hy => ?_) | refine brQ_dec (fun hy => ?_) (fun hy => ?_) | refine brQ_bool (fun hy => ?_) (fun hy => ?_)) <;> (try simp only [Bool.not_eq_true', Bool.not_eq_false', Bool.and_eq_true, Bool.or_eq_false_iff, decide_eq_true_eq, decide_eq_false_iff_not] at hy) <;> simp (disch := first | rfl | omega | exact lt_new _ | assumption | decide | (simp [tk_here, tk_app, tk_0, tk_S, gr_here, gr_app, gr_0, gr_S] <;> omega) | fail) only [r71_0, r71_1, r71_2, r71_3, r71_4, r71_5, r71_6, r71_7, r71_8, r71_10, r71_11, r71_12, r71_13, r71_14, r71_15, r71_16, r71_17, r71_18, r71_19, c71, rs71, gc71, l71_9, d0, d1, d2, t0, t1, t5, t11, t12, t13, Int.lt_irrefl, h0, h2, h3, h4, go_sem, ↓reduceIte, Nat.reduceLT, Nat.reduceEqDiff, Nat.reduceAdd, Nat.reduceMul, Nat.reduceSub, Int.reduceAdd, Int.reduceSub, Nat.reduceLeDiff, Int.reduceLT, Int.reduceLE, Int.reduceEq, Int.reduceNeg, Int.reduceToNat, hy])
    all_goals (try ((first | refine finQ_same ?_ | refine finQ_app ?_ | (rw [List.append_assoc]; refine finQ_app ?_)) <;> simp (disch := first | rfl | omega | exact lt_new _ | assumption | decide | (simp [tk_here, tk_app, tk_0, tk_S, gr_here, gr_app, gr_0, gr_S] <;> omega) | fail) only [go_sem, ↓reduceIte, Nat.reduceLT, Nat.reduceEqDiff, Nat.reduceAdd, Nat.reduceMul, Nat.reduceSub, Int.reduceAdd, Int.reduceSub, Nat.reduceLeDiff, Int.reduceLT, Int.reduceLE, Int.reduceEq, Int.reduceNeg, Int.reduceToNat, List.append_assoc, List.cons_append, List.nil_append, *]))
    all_goals (try first | rfl | (simp [*]; done) | grind)
set_option maxHeartbeats 4000000 in
theorem fn72 {b : Bool} {l : List Int} (hl : Sml l) (how : Int) (hh : 0 ≤ how ∧ how ≤ 4) (H : Hp) : callL Tryz.prog pr 72 [slV b inE l, .int .i64 how] H = some (.int .i64 (intv l how), H) := by
  have hl0 := hl.1
  have hsum := hl.sum
  refine run72 (Nat.le_of_ble_eq_true rfl) ?_
  unfold intv
  by_cases hz : l.length = 0
  case pos =>
    rw [if_pos hz]
    have hz2 : (l.length : Int) = 0 := by omega
    simp (disch := first | rfl | omega | exact lt_new _ | assumption | decide | (simp [tk_here, tk_app, tk_0, tk_S, gr_here, gr_app, gr_0, gr_S] <;> omega) | fail) only [r72_0, r72_1, r72_2, r72_3, r72_4, r72_5, r72_6, r72_7, r72_8, r72_10, r72_11, r72_12, r72_13, r72_14, r72_15, r72_16, r72_17, r72_18, r72_19, c72, rs72, gc72, hz2, go_sem, ↓reduceIte, Nat.reduceLT, Nat.reduceEqDiff, Nat.reduceAdd, Nat.reduceMul, Nat.reduceSub, Int.reduceAdd, Int.reduceSub, Nat.reduceLeDiff, Int.reduceLT, Int.reduceLE, Int.reduceEq, Int.reduceNeg, Int.reduceToNat]
    repeat' ((first | refine guardB_dec (fun hy => ?_) (fun hy => ?_) | refine guardB_bool (fun hy => ?_) (fun hy => ?_) | refine guardQ_ite (fun hy => ?_) (fun hy => ?_) | refine brQ_dec (fun hy => ?_) (fun hy => ?_) | refine brQ_bool (fun hy => ?_) (fun hy => ?_)) <;> (try simp only [Bool.not_eq_true', Bool.not_eq_false', Bool.and_eq_true, Bool.or_eq_false_iff, decide_eq_true_eq, decide_eq_false_iff_not] at hy) <;> simp (disch := first | rfl | omega | exact lt_new _ | assumption | decide | (simp [tk_here, tk_app, tk_0, tk_S, gr_here, gr_app, gr_0, gr_S] <;> omega) | fail) only [r72_0, r72_1, r72_2, r72_3, r72_4, r72_5, r72_6, r72_7, r72_8, r72_10, r72_11, r72_12, r72_13, r72_14, r72_15, r72_16, r72_17, r72_18, r72_19, c72, rs72, gc72, hz2, go_sem, ↓reduceIte, Nat.reduceLT, Nat.reduceEqDiff, Nat.reduceAdd, Nat.reduceMul, Nat.reduceSub, Int.reduceAdd, Int.reduceSub, Nat.reduceLeDiff, Int.reduceLT, Int.reduceLE, Int.reduceEq, Int.reduceNeg, Int.reduceToNat, hy])
    all_goals (try ((first | refine finQ_same ?_ | refine finQ_app ?_ | (rw [List.append_assoc]; refine finQ_app ?_)) <;> simp (disch := first | rfl | omega | exact lt_new _ | assumption | decide | (simp [tk_here, tk_app, tk_0, tk_S, gr_here, gr_app, gr_0, gr_S] <;> omega) | fail) only [go_sem, ↓reduceIte, Nat.reduceLT, Nat.reduceEqDiff, Nat.reduceAdd, Nat.reduceMul, Nat.reduceSub, Int.reduceAdd, Int.reduceSub, Nat.reduceLeDiff, Int.reduceLT, Int.reduceLE, Int.reduceEq, Int.reduceNeg, Int.reduceToNat, List.append_assoc, List.cons_append, List.nil_append, *]))
    all_goals (try first | rfl | (simp [*]; done) | grind)
  rw [if_neg hz]
  have hz2 : ¬ (l.length : Int) = 0 := by omega
  have hz3 : (0 : Int) < l.length := by omega
  have h74 := fn74 (2 * sumI l l.length + l.length) (2 * l.length) (by omega) (by have := hsum l.length (Nat.le_refl _); omega)
  have w1 := hsum l.length (Nat.le_refl _)
  simp (disch := first | rfl | omega | exact lt_new _ | assumption | decide | (simp [tk_here, tk_app, tk_0, tk_S, gr_here, gr_app, gr_0, gr_S] <;> omega) | fail) only [r72_0, r72_1, r72_3, r72_4, c72, hz2, hz3, go_sem, ↓reduceIte, Nat.reduceLT, Nat.reduceEqDiff, Nat.reduceAdd, Nat.reduceMul, Nat.reduceSub, Int.reduceAdd, Int.reduceSub, Nat.reduceLeDiff, Int.reduceLT, Int.reduceLE, Int.reduceEq, Int.reduceNeg, Int.reduceToNat]
  repeat' ((first | refine guardB_dec (fun hy => ?_) (fun hy => ?_) | refine guardB_bool (fun hy => ?_) (fun hy => ?_) | refine guardQ_ite (fun hy => ?_) (fun hy => ?_) | refine brQ_dec (fun hy => ?_) (fun hy => ?_) | refine brQ_bool (fun hy => ?_) (fun hy => ?_)) <;> (try simp only [Bool.not_eq_true', Bool.not_eq_false', Bool.and_eq_true, Bool.or_eq_false_iff, decide_eq_true_eq, decide_eq_false_iff_not] at hy) <;> simp (disch := first | rfl | omega | exact lt_new _ | assumption | decide | (simp [tk_here, tk_app, tk_0, tk_S, gr_here, gr_app, gr_0, gr_S] <;> omega) | fail) only [r72_0, r72_1, r72_3, r72_4, c72, hz2, hz3, go_sem, ↓reduceIte, Nat.reduceLT, Nat.reduceEqDiff, Nat.reduceAdd, Nat.reduceMul, Nat.reduceSub, Int.reduceAdd, Int.reduceSub, Nat.reduceLeDiff, Int.reduceLT, Int.reduceLE, Int.reduceEq, Int.reduceNeg, Int.reduceToNat, hy])
  refine Wp_loop (fun m T D H' => ∃ i, m = l.length - i ∧ i ≤ l.length ∧ D = [] ∧ H' = H ∧ get T 0 = slV b inE l ∧ get T 1 = .int .i64 how ∧ get T 5 = .int .i64 (sumI l i) ∧ get T 6 = .int .i64 (mnI l i) ∧ get T 7 = .int .i64 (mxI l i) ∧ get T 8 = .int .i64 i) ?_ l.length _ _ _ ?_
  case refine_2 => exact ⟨0, by simp (disch := first | rfl | omega | exact lt_new _ | assumption | decide | (simp [tk_here, tk_app, tk_0, tk_S, gr_here, gr_app, gr_0, gr_S] <;> omega) | fail) only [go_sem, ↓reduceIte, Nat.reduceLT, Nat.reduceEqDiff, Nat.reduceAdd, Nat.reduceMul, Nat.reduceSub, Int.reduceAdd, Int.reduceSub, Nat.reduceLeDiff, Int.reduceLT, Int.reduceLE, Int.reduceEq, Int.reduceNeg, Int.reduceToNat]; simp [sumI, mxI, mnI]⟩
  rintro m T D H' ⟨i, rfl, hi, rfl, rfl, t0, t1, t5, t6, t7, t8⟩
  by_cases hlt : i < l.length
  · have hlt' : (i : Int) < l.length := by omega
    have b1 := hsum i hi
    have b2 := hl.2 _ (inE.at_mem hlt)
    have hm : mnI l (i + 1) = if inE.at l i < mnI l i then inE.at l i else mnI l i := rfl
    have hx : mxI l (i + 1) = if inE.at l i > mxI l i then inE.at l i else mxI l i := rfl
    simp (disch := first | rfl | omega | exact lt_new _ | assumption | decide | (simp [tk_here, tk_app, tk_0, tk_S, gr_here, gr_app, gr_0, gr_S] <;> omega) | fail) only [l72_9, r72_5, r72_6, r72_7, r72_8, t0, t1, t5, t6, t7, t8, hlt', go_sem, ↓reduceIte, Nat.reduceLT, Nat.reduceEqDiff, Nat.reduceAdd, Nat.reduceMul, Nat.reduceSub, Int.reduceAdd, Int.reduceSub, Nat.reduceLeDiff, Int.reduceLT, Int.reduceLE, Int.reduceEq, Int.reduceNeg, Int.reduceToNat]
    repeat' ((first | refine guardB_dec (fun hy => ?_) (fun hy => ?_) | refine guardB_bool (fun hy => ?_) (fun hy => ?_) | refine guardQ_ite (fun hy => ?_) (fun hy => ?_) | refine brQ_dec (fun hy => ?_) (fun hy => ?_) | refine brQ_bool (fun hy => ?_) (fun hy => ?_)) <;> (try simp only [Bool.not_eq_true', Bool.not_eq_false', Bool.and_eq_true, Bool.or_eq_false_iff, decide_eq_true_eq, decide_eq_false_iff_not] at hy) <;> simp (disch := first | rfl | omega | exact lt_new _ | assumption | decide | (simp [tk_here, tk_app, tk_0, tk_S, gr_here, gr_app, gr_0, gr_S] <;> omega) | fail) only [l72_9, r72_5, r72_6, r72_7, r72_8, t0, t1, t5, t6, t7, t8, hlt', go_sem, ↓reduceIte, Nat.reduceLT, Nat.reduceEqDiff, Nat.reduceAdd, Nat.reduceMul, Nat.reduceSub, Int.reduceAdd, Int.reduceSub, Nat.reduceLeDiff, Int.reduceLT, Int.reduceLE, Int.reduceEq, Int.reduceNeg, Int.reduceToNat, hy])
    exact ⟨_, by omega, i + 1, rfl, hlt, rfl, by rw [hm], by rw [hx], rfl⟩
  · obtain rfl : i = l.length := by omega
    by_cases h0 : how = 0
    · subst h0
      simp (disch := first | rfl | omega | exact lt_new _ | assumption | decide | (simp [tk_here, tk_app, tk_0, tk_S, gr_here, gr_app, gr_0, gr_S] <;> omega) | fail) only [r72_0, r72_1, r72_2, r72_3, r72_4, r72_5, r72_6, r72_7, r72_8, r72_10, r72_11, r72_12, r72_13, r72_14, r72_15, r72_16, r72_17, r72_18, r72_19, c72, rs72, gc72, l72_9, t0, t1, t5, t6, t7, t8, Int.lt_irrefl, go_sem, ↓reduceIte, Nat.reduceLT, Nat.reduceEqDiff, Nat.reduceAdd, Nat.reduceMul, Nat.reduceSub, Int.reduceAdd, Int.reduceSub, Nat.reduceLeDiff, Int.reduceLT, Int.reduceLE, Int.reduceEq, Int.reduceNeg, Int.reduceToNat]
      repeat' ((first | refine guardB_dec (fun hy => ?_) (fun hy => ?_) | refine guardB_bool (fun hy => ?_) (fun hy => ?_) | refine guardQ_ite (fun hy => ?_) (fun hy => ?_) | refine brQ_dec (fun hy => ?_) (fun hy => ?_) | refine brQ_bool (fun hy => ?_) (fun hy => ?_)) <;> (try simp only [Bool.not_eq_true', Bool.not_eq_false', Bool.and_eq_true, Bool.or_eq_false_iff, decide_eq_true_eq, decide_eq_false_iff_not] at hy) <;> simp (disch := first | rfl | omega | exact lt_new _ | assumption | decide | (simp [tk_here, tk_app, tk_0, tk_S, gr_here, gr_app, gr_0, gr_S] <;> omega) | fail) only [r72_0, r72_1, r72_2, r72_3, r72_4, r72_5, r72_6, r72_7, r72_8, r72_10, r72_11, r72_12, r72_13, r72_14, r72_15, r72_16, r72_17, r72_18, r72_19, c72, rs72, gc72, l72_9, t0, t1, t5, t6, t7, t8, Int.lt_irrefl, go_sem, ↓reduceIte, Nat.reduceLT, Nat.reduceEqDiff, Nat.reduceAdd, Nat.reduceMul, Nat.reduceSub, Int.reduceAdd, Int.reduceSub, Nat.reduceLeDiff, Int.reduceLT, Int.reduceLE, Int.reduceEq, Int.reduceNeg, Int.reduceToNat, hy])
      all_goals (try ((first | refine finQ_same ?_ | refine finQ_app ?_ | (rw [List.append_assoc]; refine finQ_app ?_)) <;> simp (disch := first | rfl | omega | exact lt_new _ | assumption | decide | (simp [tk_here, tk_app, tk_0, tk_S, gr_here, gr_app, gr_0, gr_S] <;> omega) | fail) only [go_sem, ↓reduceIte, Nat.reduceLT, Nat.reduceEqDiff, Nat.reduceAdd, Nat.reduceMul, Nat.reduceSub, Int.reduceAdd, Int.reduceSub, Nat.reduceLeDiff, Int.reduceLT, Int.reduceLE, Int.reduceEq, Int.reduceNeg, Int.reduceToNat, List.append_assoc, List.cons_append, List.nil_append, *]))
      all_goals (try first | rfl | (simp [*]; done) | grind)
    by_cases h1 : how = 1
    · subst h1
      simp (disch := first | rfl | omega | exact lt_new _ | assumption | decide | (simp [tk_here, tk_app, tk_0, tk_S, gr_here, gr_app, gr_0, gr_S] <;> omega) | fail) only [r72_0, r72_1, r72_2, r72_3, r72_4, r72_5, r72_6, r72_7, r72_8, r72_10, r72_11, r72_12, r72_13, r72_14, r72_15, r72_16, r72_17, r72_18, r72_19, c72, rs72, gc72, l72_9, t0, t1, t5, t6, t7, t8, Int.lt_irrefl, go_sem, ↓reduceIte, Nat.reduceLT, Nat.reduceEqDiff, Nat.reduceAdd, Nat.reduceMul, Nat.reduceSub, Int.reduceAdd, Int.reduceSub, Nat.reduceLeDiff, Int.reduceLT, Int.reduceLE, Int.reduceEq, Int.reduceNeg, Int.reduceToNat]
      repeat' ((first | refine guardB_dec (fun hy => ?_) (fun hy => ?_) | refine guardB_bool (fun hy => ?_) (fun hy => ?_) | refine guardQ_ite (fun hy => ?_) (fun hy => ?_) | refine brQ_dec (fun hy => ?_) (fun hy => ?_) | refine brQ_bool (fun hy => ?_) (fun hy => ?_)) <;> (try simp only [Bool.not_eq_true', Bool.not_eq_false', Bool.and_eq_true, Bool.or_eq_false_iff, decide_eq_true_eq, decide_eq_false_iff_not] at hy) <;> simp (disch := first | rfl | omega | exact lt_new _ | assumption | decide | (simp [tk_here, tk_app, tk_0, tk_S, gr_here, gr_app, gr_0, gr_S] <;> omega) | fail) only [r72_0, r72_1, r72_2, r72_3, r72_4, r72_5, r72_6, r72_7, r72_8, r72_10, r72_11, r72_12, r72_13, r72_14, r72_15, r72_16, r72_17, r72_18, r72_19, c72, rs72, gc72, l72_9, t0, t1, t5, t6, t7, t8, Int.lt_irrefl, go_sem, ↓reduceIte, Nat.reduceLT, Nat.reduceEqDiff, Nat.reduceAdd, Nat.reduceMul, Nat.reduceSub, Int.reduceAdd, Int.reduceSub, Nat.reduceLeDiff, Int.reduceLT, Int.reduceLE, Int.reduceEq, Int.reduceNeg, Int.reduceToNat, hy])
      all_goals (try ((first | refine finQ_same ?_ | refine finQ_app ?_ | (rw [List.append_assoc]; refine finQ_app ?_)) <;> simp (disch := first | rfl | omega | exact lt_new _ | assumption | decide | (simp [tk_here, tk_app, tk_0, tk_S, gr_here, gr_app, gr_0, gr_S] <;> omega) | fail) only [go_sem, ↓reduceIte, Nat.reduceLT, Nat.reduceEqDiff, Nat.reduceAdd, Nat.reduceMul, Nat.reduceSub, Int.reduceAdd, Int.reduceSub, Nat.reduceLeDiff, Int.reduceLT, Int.reduceLE, Int.reduceEq, Int.reduceNeg, Int.reduceToNat, List.append_assoc, List.cons_append, List.nil_append, *]))
      all_goals (try first | rfl | (simp [*]; done) | grind)
    by_cases h2 : how = 2
    · subst h2
      simp (disch := first | rfl | omega | exact lt_new _ | assumption | decide | (simp [tk_here, tk_app, tk_0, tk_S, gr_here, gr_app, gr_0, gr_S] <;> omega) | fail) only [r72_0, r72_1, r72_2, r72_3, r72_4, r72_5, r72_6, r72_7, r72_8, r72_10, r72_11, r72_12, r72_13, r72_14, r72_15, r72_16, r72_17, r72_18, r72_19, c72, rs72, gc72, l72_9, t0, t1, t5, t6, t7, t8, Int.lt_irrefl, go_sem, ↓reduceIte, Nat.reduceLT, Nat.reduceEqDiff, Nat.reduceAdd, Nat.reduceMul, Nat.reduceSub, Int.reduceAdd, Int.reduceSub, Nat.reduceLeDiff, Int.reduceLT, Int.reduceLE, Int.reduceEq, Int.reduceNeg, Int.reduceToNat]
      repeat' ((first | refine guardB_dec (fun hy => ?_) (fun hy => ?_) | refine guardB_bool (fun hy => ?_) (fun hy => ?_) | refine guardQ_ite (fun hy => ?_) (fun hy => ?_) | refine brQ_dec (fun hy => ?_) (fun hy => ?_) | refine brQ_bool (fun hy => ?_) (fun hy => ?_)) <;> (try simp only [Bool.not_eq_true', Bool.not_eq_false', Bool.and_eq_true, Bool.or_eq_false_iff, decide_eq_true_eq, decide_eq_false_iff_not] at hy) <;> simp (disch := first | rfl | omega | exact lt_new _ | assumption | decide | (simp [tk_here, tk_app, tk_0, tk_S, gr_here, gr_app, gr_0, gr_S] <;> omega) | fail) only [r72_0, r72_1, r72_2, r72_3, r72_4, r72_5, r72_6, r72_7, r72_8, r72_10, r72_11, r72_12, r72_13, r72_14, r72_15, r72_16, r72_17, r72_18, r72_19, c72, rs72, gc72, l72_9, t0, t1, t5, t6, t7, t8, Int.lt_irrefl, go_sem, ↓reduceIte, Nat.reduceLT, Nat.reduceEqDiff, Nat.reduceAdd, Nat.reduceMul, Nat.reduceSub, Int.reduceAdd, Int.reduceSub, Nat.reduceLeDiff, Int.reduceLT, Int.reduceLE, Int.reduceEq, Int.reduceNeg, Int.reduceToNat, hy])
      all_goals (try ((first | refine finQ_same ?_ | refine finQ_app ?_ | (rw [List.append_assoc]; refine finQ_app ?_)) <;> simp (disch := first | rfl | omega | exact lt_new _ | assumption | decide | (simp [tk_here, tk_app, tk_0, tk_S, gr_here, gr_app, gr_0, gr_S] <;> omega) | fail) only [go_sem, ↓reduceIte, Nat.reduceLT, Nat.reduceEqDiff, Nat.reduceAdd, Nat.reduceMul, Nat.reduceSub, Int.reduceAdd, Int.reduceSub, Nat.reduceLeDiff, Int.reduceLT, Int.reduceLE, Int.reduceEq, Int.reduceNeg, Int.reduceToNat, List.append_assoc, List.cons_append, List.nil_append, *]))
      all_goals (try first | rfl | (simp [*]; done) | grind)
    by_cases h3 : how = 3
    · subst h3
      simp (disch := first | rfl | omega | exact lt_new _ | assumption | decide | (simp [tk_here, tk_app, tk_0, tk_S, gr_here, gr_app, gr_0, gr_S] <;> omega) | fail) only [r72_0, r72_1, r72_2, r72_3, r72_4, r72_5, r72_6, r72_7, r72_8, r72_10, r72_11, r72_12, r72_13, r72_14, r72_15, r72_16, r72_17, r72_18, r72_19, c72, rs72, gc72, l72_9, t0, t1, t5, t6, t7, t8, Int.lt_irrefl, go_sem, ↓reduceIte, Nat.reduceLT, Nat.reduceEqDiff, Nat.reduceAdd, Nat.reduceMul, Nat.reduceSub, Int.reduceAdd, Int.reduceSub, Nat.reduceLeDiff, Int.reduceLT, Int.reduceLE, Int.reduceEq, Int.reduceNeg, Int.reduceToNat]
      repeat' ((first | refine guardB_dec (fun hy => ?_) (fun hy => ?_) | refine guardB_bool (fun hy => ?_) (fun hy => ?_) | refine guardQ_ite (fun hy => ?_) (fun hy => ?_) | refine brQ_dec (fun hy => ?_) (fun hy => ?_) | refine brQ_bool (fun hy => ?_) (fun hy => ?_)) <;> (try simp only [Bool.not_eq_true', Bool.not_eq_false', Bool.and_eq_true, Bool.or_eq_false_iff, decide_eq_true_eq, decide_eq_false_iff_not] at hy) <;> simp (disch := first | rfl | omega | exact lt_new _ | assumption | decide | (simp [tk_here, tk_app, tk_0, tk_S, gr_here, gr_app, gr_0, gr_S] <;> omega) | fail) only [r72_0, r72_1, r72_2, r72_3, r72_4, r72_5, r72_6, r72_7, r72_8, r72_10, r72_11, r72_12, r72_13, r72_14, r72_15, r72_16, r72_17, r72_18, r72_19, c72, rs72, gc72, l72_9, t0, t1, t5, t6, t7, t8, Int.lt_irrefl, go_sem, ↓reduceIte, Nat.reduceLT, Nat.reduceEqDiff, Nat.reduceAdd, Nat.reduceMul, Nat.reduceSub, Int.reduceAdd, Int.reduceSub, Nat.reduceLeDiff, Int.reduceLT, Int.reduceLE, Int.reduceEq, Int.reduceNeg, Int.reduceToNat, hy])
      all_goals (try ((first | refine finQ_same ?_ | refine finQ_app ?_ | (rw [List.append_assoc]; refine finQ_app ?_)) <;> simp (disch := first | rfl | omega | exact lt_new _ | assumption | decide | (simp [tk_here, tk_app, tk_0, tk_S, gr_here, gr_app, gr_0, gr_S] <;> omega) | fail) only [go_sem, ↓reduceIte, Nat.reduceLT, Nat.reduceEqDiff, Nat.reduceAdd, Nat.reduceMul, Nat.reduceSub, Int.reduceAdd, Int.reduceSub, Nat.reduceLeDiff, Int.reduceLT, Int.reduceLE, Int.reduceEq, Int.reduceNeg, Int.reduceToNat, List.append_assoc, List.cons_append, List.nil_append, *]))
      all_goals (try first | rfl | (simp [*]; done) | grind)
    obtain rfl : how = 4 := by omega
    simp (disch := first | rfl | omega | exact lt_new _ | assumption | decide | (simp [tk_here, tk_app, tk_0, tk_S, gr_here, gr_app, gr_0, gr_S] <;> omega) | fail) only [r72_0, r72_1, r72_2, r72_3, r72_4, r72_5, r72_6, r72_7, r72_8, r72_10, r72_11, r72_12, r72_13, r72_14, r72_15, r72_16, r72_17, r72_18, r72_19, c72, rs72, gc72, l72_9, t0, t1, t5, t6, t7, t8, Int.lt_irrefl, h74, go_sem, ↓reduceIte, Nat.reduceLT, Nat.reduceEqDiff, Nat.reduceAdd, Nat.reduceMul, Nat.reduceSub, Int.reduceAdd, Int.reduceSub, Nat.reduceLeDiff, Int.reduceLT, Int.reduceLE, Int.reduceEq, Int.reduceNeg, Int.reduceToNat]
    repeat' ((first | refine guardB_dec (fun hy => ?_) (fun hy => ?_) | refine guardB_bool (fun hy => ?_) (fun hy => ?_) | refine guardQ_ite (fun hy => ?_) (fun hy => ?_) | refine brQ_dec (fun hy => ?_) (fun hy => ?_) | refine brQ_bool (fun hy => ?_) (fun hy => ?_)) <;> (try simp only [Bool.not_eq_true', Bool.not_eq_false', Bool.and_eq_true, Bool.or_eq_false_iff, decide_eq_true_eq, decide_eq_false_iff_not] at hy) <;> simp (disch := first | rfl | omega | exact lt_new _ | assumption | decide | (simp [tk_here, tk_app, tk_0, tk_S, gr_here, gr_app, gr_0, gr_S] <;> omega) | fail) only [r72_0, r72_1, r72_2, r72_3, r72_4, r72_5, r72_6, r72_7, r72_8, r72_10, r72_11, r72_12, r72_13, r72_14, r72_15, r72_16, r72_17, r72_18, r72_19, c72, rs72, gc72, l72_9, t0, t1, t5, t6, t7, t8, Int.lt_irrefl, h74, go_sem, ↓reduceIte, Nat.reduceLT, Nat.reduceEqDiff, Nat.reduceAdd, Nat.reduceMul, Nat.reduceSub, Int.reduceAdd, Int.reduceSub, Nat.reduceLeDiff, Int.reduceLT, Int.reduceLE, Int.reduceEq, Int.reduceNeg, Int.reduceToNat, hy])
    all_goals (try ((first | refine finQ_same ?_ | refine finQ_app ?_ | (rw [List.append_assoc]; refine finQ_app ?_)) <;> simp (disch := first | rfl | omega | exact lt_new _ | assumption | decide | (simp [tk_here, tk_app, tk_0, tk_S, gr_here, gr_app, gr_0, gr_S] <;> omega) | fail) only [go_sem, ↓reduceIte, Nat.reduceLT, Nat.reduceEqDiff, Nat.reduceAdd, Nat.reduceMul, Nat.reduceSub, Int.reduceAdd, Int.reduceSub, Nat.reduceLeDiff, Int.reduceLT, Int.reduceLE, Int.reduceEq, Int.reduceNeg, Int.reduceToNat, List.append_assoc, List.cons_append, List.nil_append, *]))
    all_goals (try first | rfl | (simp [*]; done) | grind)
def badV (n : Int) : Bool := decide (4503599627370 < n) || decide (n < -4503599627370)
theorem fn69 (n : Int) (H : Hp) : callL Tryz.prog pr 69 [.int .i64 n] H = some (.bool (badV n), H) := by
  refine run69 (Nat.le_of_ble_eq_true rfl) ?_
  unfold badV
  simp (disch := first | rfl | omega | exact lt_new _ | assumption | decide | (simp [tk_here, tk_app, tk_0, tk_S, gr_here, gr_app, gr_0, gr_S] <;> omega) | fail) only [r69_0, r69_1, c69, rs69, gc69, go_sem, ↓reduceIte, Nat.reduceLT, Nat.reduceEqDiff, Nat.reduceAdd, Nat.reduceMul, Nat.reduceSub, Int.reduceAdd, Int.reduceSub, Nat.reduceLeDiff, Int.reduceLT, Int.reduceLE, Int.reduceEq, Int.reduceNeg, Int.reduceToNat]
  repeat' ((first | refine guardB_dec (fun hy => ?_) (fun hy => ?_) | refine guardB_bool (fun hy => ?_) (fun hy => ?_) | refine guardQ_ite (fun hy => ?_) (fun hy => ?_) | refine brQ_dec (fun hy => ?_) (fun hy => ?_) | refine brQ_bool (fun hy => ?_) (fun hy => ?_)) <;> (try simp only [Bool.not_eq_true', Bool.not_eq_false', Bool.and_eq_true, Bool.or_eq_false_iff, decide_eq_true_eq, decide_eq_false_iff_not] at hy) <;> simp (disch := first | rfl | omega | exact lt_new _ | assumption | decide | (simp [tk_here, tk_app, tk_0, tk_S, gr_here, gr_app, gr_0, gr_S] <;> omega) | fail) only [r69_0, r69_1, c69, rs69, gc69, go_sem, ↓reduceIte, Nat.reduceLT, Nat.reduceEqDiff, Nat.reduceAdd, Nat.reduceMul, Nat.reduceSub, Int.reduceAdd, Int.reduceSub, Nat.reduceLeDiff, Int.reduceLT, Int.reduceLE, Int.reduceEq, Int.reduceNeg, Int.reduceToNat, hy])
  all_goals (try ((first | refine finQ_same ?_ | refine finQ_app ?_ | (rw [List.append_assoc]; refine finQ_app ?_)) <;> simp (disch := first | rfl | omega | exact lt_new _ | assumption | decide | (simp [tk_here, tk_app, tk_0, tk_S, gr_here, gr_app, gr_0, gr_S] <;> omega) | fail) only [go_sem, ↓reduceIte, Nat.reduceLT, Nat.reduceEqDiff, Nat.reduceAdd, Nat.reduceMul, Nat.reduceSub, Int.reduceAdd, Int.reduceSub, Nat.reduceLeDiff, Int.reduceLT, Int.reduceLE, Int.reduceEq, Int.reduceNeg, Int.reduceToNat, List.append_assoc, List.cons_append, List.nil_append, *]))
  all_goals (try first | rfl | (simp [*]; done) | grind)
theorem fn68 (n w : Int) (H : Hp) : callL Tryz.prog pr 68 [.int .i64 n, .ipt [.int .i64 w] 0] H = some (.bool (!(okT n && decide (w ≤ n))), H) := by
  have h57 := fn57
  refine run68 (Nat.le_of_ble_eq_true rfl) ?_
  simp (disch := first | rfl | omega | exact lt_new _ | assumption | decide | (simp [tk_here, tk_app, tk_0, tk_S, gr_here, gr_app, gr_0, gr_S] <;> omega) | fail) only [r68_0, r68_1, c68, rs68, gc68, h57, go_sem, ↓reduceIte, Nat.reduceLT, Nat.reduceEqDiff, Nat.reduceAdd, Nat.reduceMul, Nat.reduceSub, Int.reduceAdd, Int.reduceSub, Nat.reduceLeDiff, Int.reduceLT, Int.reduceLE, Int.reduceEq, Int.reduceNeg, Int.reduceToNat]
  repeat' ((first | refine guardB_dec (fun hy => ?_) (fun hy => ?_) | refine guardB_bool (fun hy => ?_) (fun hy => ?_) | refine guardQ_ite (fun hy => ?_) (fun hy => ?_) | refine brQ_dec (fun hy => ?_) (fun hy => ?_) | refine brQ_bool (fun hy => ?_) (fun hy => ?_)) <;> (try simp only [Bool.not_eq_true', Bool.not_eq_false', Bool.and_eq_true, Bool.or_eq_false_iff, decide_eq_true_eq, decide_eq_false_iff_not] at hy) <;> simp (disch := first | rfl | omega | exact lt_new _ | assumption | decide | (simp [tk_here, tk_app, tk_0, tk_S, gr_here, gr_app, gr_0, gr_S] <;> omega) | fail) only [r68_0, r68_1, c68, rs68, gc68, h57, go_sem, ↓reduceIte, Nat.reduceLT, Nat.reduceEqDiff, Nat.reduceAdd, Nat.reduceMul, Nat.reduceSub, Int.reduceAdd, Int.reduceSub, Nat.reduceLeDiff, Int.reduceLT, Int.reduceLE, Int.reduceEq, Int.reduceNeg, Int.reduceToNat, hy])
  all_goals (try ((first | refine finQ_same ?_ | refine finQ_app ?_ | (rw [List.append_assoc]; refine finQ_app ?_)) <;> simp (disch := first | rfl | omega | exact lt_new _ | assumption | decide | (simp [tk_here, tk_app, tk_0, tk_S, gr_here, gr_app, gr_0, gr_S] <;> omega) | fail) only [go_sem, ↓reduceIte, Nat.reduceLT, Nat.reduceEqDiff, Nat.reduceAdd, Nat.reduceMul, Nat.reduceSub, Int.reduceAdd, Int.reduceSub, Nat.reduceLeDiff, Int.reduceLT, Int.reduceLE, Int.reduceEq, Int.reduceNeg, Int.reduceToNat, List.append_assoc, List.cons_append, List.nil_append, *]))
  all_goals (try first | rfl | (simp [*]; done) | grind)
theorem fn25 {b b' : Bool} {l l' : List Int} (hl : l.length ≤ 2 ^ 62) (H : Hp) : callL Tryz.prog pr 25 [slV b inE l, slV b' inE l'] H = some (.bool (decide (l = l')), H) := by
  rw [← sameL_eq]
  refine run25 (Nat.le_of_ble_eq_true rfl) ?_
  by_cases hg : (l.length : Int) = l'.length
  case neg =>
    rw [sameL_len (by omega)]
    simp (disch := first | rfl | omega | exact lt_new _ | assumption | decide | (simp [tk_here, tk_app, tk_0, tk_S, gr_here, gr_app, gr_0, gr_S] <;> omega) | fail) only [r25_0, r25_1, r25_2, r25_3, r25_4, r25_5, r25_6, r25_7, r25_9, c25, rs25, gc25, hg, go_sem, ↓reduceIte, Nat.reduceLT, Nat.reduceEqDiff, Nat.reduceAdd, Nat.reduceMul, Nat.reduceSub, Int.reduceAdd, Int.reduceSub, Nat.reduceLeDiff, Int.reduceLT, Int.reduceLE, Int.reduceEq, Int.reduceNeg, Int.reduceToNat]
    repeat' ((first | refine guardB_dec (fun hy => ?_) (fun hy => ?_) | refine guardB_bool (fun hy => ?_) (fun hy => ?_) | refine guardQ_ite (fun hy => ?_) (fun hy => ?_) | refine brQ_dec (fun hy => ?_) (fun hy => ?_) | refine brQ_bool (fun hy => ?_) (fun hy => ?_)) <;> (try simp only [Bool.not_eq_true', Bool.not_eq_false', Bool.and_eq_true, Bool.or_eq_false_iff, decide_eq_true_eq, decide_eq_false_iff_not] at hy) <;> simp (disch := first | rfl | omega | exact lt_new _ | assumption | decide | (simp [tk_here, tk_app, tk_0, tk_S, gr_here, gr_app, gr_0, gr_S] <;> omega) | fail) only [r25_0, r25_1, r25_2, r25_3, r25_4, r25_5, r25_6, r25_7, r25_9, c25, rs25, gc25, hg, go_sem, ↓reduceIte, Nat.reduceLT, Nat.reduceEqDiff, Nat.reduceAdd, Nat.reduceMul, Nat.reduceSub, Int.reduceAdd, Int.reduceSub, Nat.reduceLeDiff, Int.reduceLT, Int.reduceLE, Int.reduceEq, Int.reduceNeg, Int.reduceToNat, hy])
    all_goals (try ((first | refine finQ_same ?_ | refine finQ_app ?_ | (rw [List.append_assoc]; refine finQ_app ?_)) <;> simp (disch := first | rfl | omega | exact lt_new _ | assumption | decide | (simp [tk_here, tk_app, tk_0, tk_S, gr_here, gr_app, gr_0, gr_S] <;> omega) | fail) only [go_sem, ↓reduceIte, Nat.reduceLT, Nat.reduceEqDiff, Nat.reduceAdd, Nat.reduceMul, Nat.reduceSub, Int.reduceAdd, Int.reduceSub, Nat.reduceLeDiff, Int.reduceLT, Int.reduceLE, Int.reduceEq, Int.reduceNeg, Int.reduceToNat, List.append_assoc, List.cons_append, List.nil_append, *]))
    all_goals (try first | rfl | (simp [*]; done) | grind)
  simp (disch := first | rfl | omega | exact lt_new _ | assumption | decide | (simp [tk_here, tk_app, tk_0, tk_S, gr_here, gr_app, gr_0, gr_S] <;> omega) | fail) only [r25_0, r25_1, r25_2, r25_3, r25_4, r25_5, r25_6, r25_7, r25_9, c25, rs25, gc25, hg, go_sem, ↓reduceIte, Nat.reduceLT, Nat.reduceEqDiff, Nat.reduceAdd, Nat.reduceMul, Nat.reduceSub, Int.reduceAdd, Int.reduceSub, Nat.reduceLeDiff, Int.reduceLT, Int.reduceLE, Int.reduceEq, Int.reduceNeg, Int.reduceToNat]
  repeat' ((first | refine guardB_dec (fun hy => ?_) (fun hy => ?_) | refine guardB_bool (fun hy => ?_) (fun hy => ?_) | refine guardQ_ite (fun hy => ?_) (fun hy => ?_) | refine brQ_dec (fun hy => ?_) (fun hy => ?_) | refine brQ_bool (fun hy => ?_) (fun hy => ?_)) <;> (try simp only [Bool.not_eq_true', Bool.not_eq_false', Bool.and_eq_true, Bool.or_eq_false_iff, decide_eq_true_eq, decide_eq_false_iff_not] at hy) <;> simp (disch := first | rfl | omega | exact lt_new _ | assumption | decide | (simp [tk_here, tk_app, tk_0, tk_S, gr_here, gr_app, gr_0, gr_S] <;> omega) | fail) only [r25_0, r25_1, r25_2, r25_3, r25_4, r25_5, r25_6, r25_7, r25_9, c25, rs25, gc25, hg, go_sem, ↓reduceIte, Nat.reduceLT, Nat.reduceEqDiff, Nat.reduceAdd, Nat.reduceMul, Nat.reduceSub, Int.reduceAdd, Int.reduceSub, Nat.reduceLeDiff, Int.reduceLT, Int.reduceLE, Int.reduceEq, Int.reduceNeg, Int.reduceToNat, hy])
  refine Wp_loop (fun m T D H' => ∃ i, m = l.length - i ∧ i ≤ l.length ∧ D = [] ∧ H' = H ∧ get T 0 = slV b inE l ∧ get T 1 = slV b' inE l' ∧ get T 5 = .int .i64 i ∧ sameL (fun x y => decide (x = y)) l l' = sameL (fun x y => decide (x = y)) (l.drop i) (l'.drop i)) ?_ l.length _ _ _ ?_
  case refine_2 => exact ⟨0, by simp (disch := first | rfl | omega | exact lt_new _ | assumption | decide | (simp [tk_here, tk_app, tk_0, tk_S, gr_here, gr_app, gr_0, gr_S] <;> omega) | fail) only [go_sem, ↓reduceIte, Nat.reduceLT, Nat.reduceEqDiff, Nat.reduceAdd, Nat.reduceMul, Nat.reduceSub, Int.reduceAdd, Int.reduceSub, Nat.reduceLeDiff, Int.reduceLT, Int.reduceLE, Int.reduceEq, Int.reduceNeg, Int.reduceToNat]; simp⟩
  rintro m T D H' ⟨i, rfl, hi, rfl, rfl, t0, t1, t5, hs⟩
  by_cases hlt : i < l.length
  · have hlt' : (i : Int) < l.length := by omega
    have hlt3 : i < l'.length := by omega
    have hlt2 : (i : Int) < l'.length := by omega
    rw [sameL_drop inE hlt hlt3] at hs
    by_cases hq : inE.at l i = inE.at l' i
    · rw [decide_eq_true hq, Bool.true_and] at hs
      simp (disch := first | rfl | omega | exact lt_new _ | assumption | decide | (simp [tk_here, tk_app, tk_0, tk_S, gr_here, gr_app, gr_0, gr_S] <;> omega) | fail) only [l25_8, r25_4, r25_5, r25_7, t0, t1, t5, hlt', hq, go_sem, ↓reduceIte, Nat.reduceLT, Nat.reduceEqDiff, Nat.reduceAdd, Nat.reduceMul, Nat.reduceSub, Int.reduceAdd, Int.reduceSub, Nat.reduceLeDiff, Int.reduceLT, Int.reduceLE, Int.reduceEq, Int.reduceNeg, Int.reduceToNat]
      repeat' ((first | refine guardB_dec (fun hy => ?_) (fun hy => ?_) | refine guardB_bool (fun hy => ?_) (fun hy => ?_) | refine guardQ_ite (fun hy => ?_) (fun hy => ?_) | refine brQ_dec (fun hy => ?_) (fun hy => ?_) | refine brQ_bool (fun hy => ?_) (fun hy => ?_)) <;> (try simp only [Bool.not_eq_true', Bool.not_eq_false', Bool.and_eq_true, Bool.or_eq_false_iff, decide_eq_true_eq, decide_eq_false_iff_not] at hy) <;> simp (disch := first | rfl | omega | exact lt_new _ | assumption | decide | (simp [tk_here, tk_app, tk_0, tk_S, gr_here, gr_app, gr_0, gr_S] <;> omega) | fail) only [l25_8, r25_4, r25_5, r25_7, t0, t1, t5, hlt', hq, go_sem, ↓reduceIte, Nat.reduceLT, Nat.reduceEqDiff, Nat.reduceAdd, Nat.reduceMul, Nat.reduceSub, Int.reduceAdd, Int.reduceSub, Nat.reduceLeDiff, Int.reduceLT, Int.reduceLE, Int.reduceEq, Int.reduceNeg, Int.reduceToNat, hy])
      exact ⟨_, by omega, i + 1, rfl, hlt, rfl, hs⟩
    · rw [decide_eq_false hq, Bool.false_and] at hs
      simp (disch := first | rfl | omega | exact lt_new _ | assumption | decide | (simp [tk_here, tk_app, tk_0, tk_S, gr_here, gr_app, gr_0, gr_S] <;> omega) | fail) only [l25_8, r25_4, r25_5, r25_6, rs25, gc25, t0, t1, t5, hlt', hq, go_sem, ↓reduceIte, Nat.reduceLT, Nat.reduceEqDiff, Nat.reduceAdd, Nat.reduceMul, Nat.reduceSub, Int.reduceAdd, Int.reduceSub, Nat.reduceLeDiff, Int.reduceLT, Int.reduceLE, Int.reduceEq, Int.reduceNeg, Int.reduceToNat]
      repeat' ((first | refine guardB_dec (fun hy => ?_) (fun hy => ?_) | refine guardB_bool (fun hy => ?_) (fun hy => ?_) | refine guardQ_ite (fun hy => ?_) (fun hy => ?_) | refine brQ_dec (fun hy => ?_) (fun hy => ?_) | refine brQ_bool (fun hy => ?_) (fun hy => ?_)) <;> (try simp only [Bool.not_eq_true', Bool.not_eq_false', Bool.and_eq_true, Bool.or_eq_false_iff, decide_eq_true_eq, decide_eq_false_iff_not] at hy) <;> simp (disch := first | rfl | omega | exact lt_new _ | assumption | decide | (simp [tk_here, tk_app, tk_0, tk_S, gr_here, gr_app, gr_0, gr_S] <;> omega) | fail) only [l25_8, r25_4, r25_5, r25_6, rs25, gc25, t0, t1, t5, hlt', hq, go_sem, ↓reduceIte, Nat.reduceLT, Nat.reduceEqDiff, Nat.reduceAdd, Nat.reduceMul, Nat.reduceSub, Int.reduceAdd, Int.reduceSub, Nat.reduceLeDiff, Int.reduceLT, Int.reduceLE, Int.reduceEq, Int.reduceNeg, Int.reduceToNat, hy])
      exact finQ_same (by simp (disch := first | rfl | omega | exact lt_new _ | assumption | decide | (simp [tk_here, tk_app, tk_0, tk_S, gr_here, gr_app, gr_0, gr_S] <;> omega) | fail) only [go_sem, ↓reduceIte, Nat.reduceLT, Nat.reduceEqDiff, Nat.reduceAdd, Nat.reduceMul, Nat.reduceSub, Int.reduceAdd, Int.reduceSub, Nat.reduceLeDiff, Int.reduceLT, Int.reduceLE, Int.reduceEq, Int.reduceNeg, Int.reduceToNat, hs])
  · obtain rfl : i = l.length := by omega
    have hs1 : sameL (fun x y => decide (x = y)) l l' = true := by rw [hs, List.drop_length, List.drop_eq_nil_of_le (by omega)]; rfl
    simp (disch := first | rfl | omega | exact lt_new _ | assumption | decide | (simp [tk_here, tk_app, tk_0, tk_S, gr_here, gr_app, gr_0, gr_S] <;> omega) | fail) only [l25_8, r25_4, r25_9, rs25, gc25, t0, t1, t5, Int.lt_irrefl, go_sem, ↓reduceIte, Nat.reduceLT, Nat.reduceEqDiff, Nat.reduceAdd, Nat.reduceMul, Nat.reduceSub, Int.reduceAdd, Int.reduceSub, Nat.reduceLeDiff, Int.reduceLT, Int.reduceLE, Int.reduceEq, Int.reduceNeg, Int.reduceToNat]
    repeat' ((first | refine guardB_dec (fun hy => ?_) (fun hy => ?_) | refine guardB_bool (fun hy => ?_) (fun hy => ?_) | refine guardQ_ite (fun hy => ?_) (fun hy => ?_) | refine brQ_dec (fun hy => ?_) (fun hy => ?_) | refine brQ_bool (fun hy => ?_) (fun hy => ?_)) <;> (try simp only [Bool.not_eq_true', Bool.not_eq_false', Bool.and_eq_true, Bool.or_eq_false_iff, decide_eq_true_eq, decide_eq_false_iff_not] at hy) <;> simp (disch := first | rfl | omega | exact lt_new _ | assumption | decide | (simp [tk_here, tk_app, tk_0, tk_S, gr_here, gr_app, gr_0, gr_S] <;> omega) | fail) only [l25_8, r25_4, r25_9, rs25, gc25, t0, t1, t5, Int.lt_irrefl, go_sem, ↓reduceIte, Nat.reduceLT, Nat.reduceEqDiff, Nat.reduceAdd, Nat.reduceMul, Nat.reduceSub, Int.reduceAdd, Int.reduceSub, Nat.reduceLeDiff, Int.reduceLT, Int.reduceLE, Int.reduceEq, Int.reduceNeg, Int.reduceToNat, hy])
    exact finQ_same (by simp (disch := first | rfl | omega | exact lt_new _ | assumption | decide | (simp [tk_here, tk_app, tk_0, tk_S, gr_here, gr_app, gr_0, gr_S] <;> omega) | fail) only [go_sem, ↓reduceIte, Nat.reduceLT, Nat.reduceEqDiff, Nat.reduceAdd, Nat.reduceMul, Nat.reduceSub, Int.reduceAdd, Int.reduceSub, Nat.reduceLeDiff, Int.reduceLT, Int.reduceLE, Int.reduceEq, Int.reduceNeg, Int.reduceToNat, hs1])
end Go.Proofs.YteeofpgnjekeaaaGreatDoor
/-
  Lists that grow in the elements of a list. No statement of the seat stands here.
-/
namespace Go.Proofs.YteeofpgnjekeaaaGreatDoor
open Go Go.An
set_option maxRecDepth 4000
set_option linter.unusedSimpArgs false
set_option linter.unusedVariables false

theorem flatE_snoc {α : Type} (E : Enc α) (l : List α) (a : α) : flatE E (l ++ [a]) = flatE E l ++ E.f a := by simp [flatE]
theorem ap_nil (x : Int) (H : Hp) : appOf 1 8 H .nilslice (.isl [.int .i64 x] 1 1) = some (.slice H.length 0 0 1 1 .full, H ++ [.row 0 [.int .i64 x] true]) := app_one rfl rfl (by decide)
theorem ap_row {x : Int} {H : Hp} {id g : Nat} {w : List Int} (hr : getRow H id g = some (flatE inE w, true)) (hb : w.length + 1 ≤ 2 ^ 30) : appOf 1 8 H (.slice id g 0 w.length 1 .full) (.isl [.int .i64 x] 1 1) = some (.slice id (g + 1) 0 (w.length + 1) 1 .full, H.set id (.row (g + 1) (flatE inE (w ++ [x])) true)) := by
  have hfl : (flatE inE w).length = w.length * 1 := flatE_len
  unfold appOf
  rw [show srcCells H (.isl [.int .i64 x] 1 1) = some ([.int .i64 x], 1) from rfl]
  simp only [Option.bind_some, hr]
  rw [if_pos ⟨rfl, rfl⟩, if_pos ⟨trivial, by omega, by omega, by omega⟩, if_neg (by omega), if_pos trivial, if_neg (by omega), if_pos (by omega), flatE_snoc]
  rfl
def PtJ (n : Nat) (M : Hp) (v : V) (l : List Int) (j : Nat) : Prop := (l = [] ∧ v = .nilslice) ∨ (l ≠ [] ∧ j < M.length ∧ ∃ g, v = .slice (n + j) g 0 l.length 1 .full ∧ getRow M j g = some (flatE inE l, true))
def PtsI (n N : Nat) (M : Hp) (cs : List V) (pt : Nat → List Int) : Prop := cs.length = N ∧ ∃ J : Nat → Nat, (∀ k, k < N → ∃ v, cs[k]? = some v ∧ PtJ n M v (pt k) (J k)) ∧ ∀ k k', k < N → k' < N → pt k ≠ [] → pt k' ≠ [] → J k = J k' → k = k'
def Cel (v : V) : Prop := v.isCell = true ∧ v.cells = [v] ∧ v.isTup = false ∧ eqA v v = true ∧ eqC v v = true ∧ v.dem1 = v ∧ v.dem = v
theorem Cel.nil : Cel .nilslice := ⟨rfl, rfl, rfl, rfl, rfl, rfl, rfl⟩
theorem Cel.sl (id g n : Nat) : Cel (.slice id g 0 n 1 .full) := ⟨rfl, rfl, rfl, eqA_slice .., by simp [eqC, eqBase], rfl, rfl⟩
theorem PtJ.cel {n : Nat} {M : Hp} {v : V} {l : List Int} {j : Nat} (h : PtJ n M v l j) : Cel v := by
  rcases h with ⟨_, rfl⟩ | ⟨_, _, g, rfl, _⟩
  · exact .nil
  · exact .sl ..
theorem PtJ.lst {n : Nat} {M A : Hp} {v : V} {l : List Int} {j : Nat} (h : PtJ n M v l j) (hn : A.length = n) : LstE inE (A ++ M) v l := by
  rcases h with ⟨rfl, rfl⟩ | ⟨_, hj, g, rfl, hr⟩
  · exact .inl ⟨true, (slV_nil inE).symm⟩
  · refine .inr ⟨n + j, g, rfl, ?_⟩
    subst hn
    unfold getRow at hr ⊢
    rw [List.getElem?_append_right (by omega), Nat.add_sub_cancel_left]
    exact hr
theorem PtsI.start (n N : Nat) : PtsI n N [] (List.replicate N .nilslice) (fun _ => []) :=
  ⟨by simp, fun _ => 0, fun k hk => ⟨.nilslice, by simp [hk], .inl ⟨rfl, rfl⟩⟩, fun _ _ _ _ h => absurd rfl h⟩
theorem PtsI.push {n N : Nat} {M : Hp} {cs : List V} {pt : Nat → List Int} (h : PtsI n N M cs pt) {k : Nat} (hk : k < N) (x : Int) (A : Hp) (hn : A.length = n) (hb : (pt k).length + 1 ≤ 2 ^ 30) :
    ∃ v v' M', cs[k]? = some v ∧ appOf 1 8 (A ++ M) v (.isl [.int .i64 x] 1 1) = some (v', A ++ M') ∧ Cel v ∧ Cel v' ∧ PtsI n N M' (cs.set k v') (fun i => if i = k then pt k ++ [x] else pt i) := by
  obtain ⟨hl, J, h1, h2⟩ := h
  obtain ⟨v, hv, hp⟩ := h1 k hk
  have hcel := hp.cel
  rcases hp with ⟨e, rfl⟩ | ⟨e, hj, g, rfl, hr⟩
  · refine ⟨_, _, M ++ [.row 0 [.int .i64 x] true], hv, by rw [ap_nil, List.append_assoc], hcel, .sl .., by simp [hl], fun i => if i = k then M.length else J i, fun i hi => ?_, fun i i' hi hi' n1 n2 he => ?_⟩
    · by_cases hik : i = k
      · subst hik
        refine ⟨_, by rw [List.getElem?_set_self (by omega)], .inr ⟨by simp, by simp, 0, ?_, ?_⟩⟩
        · simp [e, hn]
        · simp [getRow, flatE, e]
          rfl
      · obtain ⟨u, hu, hpu⟩ := h1 i hi
        refine ⟨u, by rw [List.getElem?_set_ne (by omega)]; exact hu, ?_⟩
        simp only [if_neg hik]
        rcases hpu with ⟨a, b⟩ | ⟨a, b, g', c, d⟩
        · exact .inl ⟨a, b⟩
        · exact .inr ⟨a, by simp; omega, g', c, by unfold getRow at d ⊢; rw [List.getElem?_append_left b]; exact d⟩
    · have lt : ∀ m, m < N → pt m ≠ [] → J m < M.length := fun m hm hne => by
        obtain ⟨u, _, hpu⟩ := h1 m hm
        rcases hpu with ⟨a, _⟩ | ⟨_, b, _⟩
        · exact absurd a hne
        · exact b
      by_cases hik : i = k <;> by_cases hik' : i' = k
      · omega
      · simp only [if_pos hik, if_neg hik'] at he n2
        have := lt i' hi' n2
        omega
      · simp only [if_neg hik, if_pos hik'] at he n1
        have := lt i hi n1
        omega
      · simp only [if_neg hik, if_neg hik'] at he n1 n2
        exact h2 i i' hi hi' n1 n2 he
  · have hra : getRow (A ++ M) (n + J k) g = some (flatE inE (pt k), true) := by
      subst hn
      unfold getRow at hr ⊢
      rw [List.getElem?_append_right (by omega), Nat.add_sub_cancel_left]
      exact hr
    have hset : ∀ b : AB, (A ++ M).set (n + J k) b = A ++ M.set (J k) b := fun b => by
      subst hn
      rw [List.set_append_right _ _ (by omega), Nat.add_sub_cancel_left]
    refine ⟨_, _, M.set (J k) (.row (g + 1) (flatE inE (pt k ++ [x])) true), hv, by rw [ap_row hra hb, hset], hcel, .sl .., by simp [hl], J, fun i hi => ?_, fun i i' hi hi' n1 n2 he => ?_⟩
    · by_cases hik : i = k
      · subst hik
        refine ⟨_, by rw [List.getElem?_set_self (by omega)], .inr ⟨by simp, by simpa using hj, g + 1, ?_, ?_⟩⟩
        · simp
        · simp [getRow, hj]
      · obtain ⟨u, hu, hpu⟩ := h1 i hi
        refine ⟨u, by rw [List.getElem?_set_ne (by omega)]; exact hu, ?_⟩
        simp only [if_neg hik]
        rcases hpu with ⟨a, b⟩ | ⟨a, b, g', c, d⟩
        · exact .inl ⟨a, b⟩
        · refine .inr ⟨a, by simpa using b, g', c, ?_⟩
          have hne : J k ≠ J i := fun he => hik (h2 i k hi hk a e he.symm)
          unfold getRow at d ⊢
          rw [List.getElem?_set_ne hne]
          exact d
    · refine h2 i i' hi hi' (fun z => ?_) (fun z => ?_) he
      · by_cases hik : i = k
        · exact e (hik ▸ z)
        · simp only [if_neg hik] at n1; exact n1 z
      · by_cases hik : i' = k
        · exact e (hik ▸ z)
        · simp only [if_neg hik] at n2; exact n2 z
theorem part27 {cs : List V} {k : Nat} {v : V} (h : cs[k]? = some v) : partV Tryz.prog 27 cs (k * 1) = some v := by
  have hg : aggT Tryz.prog 27 = some false := by kernel_rfl
  unfold partV
  rw [hg]
  simpa using h
theorem set27 {cs : List V} {k : Nat} {v : V} (h : k < cs.length) : setAt cs (k * 1) [v] = cs.set k v := by
  rw [Nat.mul_one, List.set_eq_take_append_cons_drop, if_pos h]
  simp [setAt]
end Go.Proofs.YteeofpgnjekeaaaGreatDoor
/-
  What is told of values in intervals. No statement of the seat stands here.
-/
namespace Go.Proofs.YteeofpgnjekeaaaGreatDoor
open Go Go.An
set_option maxRecDepth 4000
set_option linter.unusedSimpArgs false
set_option linter.unusedVariables false

def idxI (t : List Int) (w f : Int) (i : Nat) : Int := (inE.at t i - f).tdiv w
def part (t v : List Int) (w f : Int) (k : Nat) : Nat → List Int
  | 0 => []
  | m + 1 => part t v w f k m ++ if idxI t w f m = k then [inE.at v m] else []
def lastI (t : List Int) (w f : Int) : Nat → Int
  | 0 => -1
  | m + 1 => if idxI t w f m > lastI t w f m then idxI t w f m else lastI t w f m
def outs (t v : List Int) (w f how : Int) (n : Nat) : Nat → List Int
  | 0 => []
  | k + 1 => outs t v w f how n k ++ [intv (part t v w f k n) how]
theorem outs_len (t v : List Int) (w f how : Int) (n : Nat) : ∀ k, (outs t v w f how n k).length = k
  | 0 => rfl
  | k + 1 => by simp [outs, outs_len t v w f how n k]
theorem part_le (t v : List Int) (w f : Int) (k : Nat) : ∀ m, (part t v w f k m).length ≤ m
  | 0 => Nat.le_refl _
  | m + 1 => by
    have := part_le t v w f k m
    unfold part
    rw [List.length_append]
    split <;> simp <;> omega
/-- An argument that is not right. -/
def argB (w f how : Int) : Bool := decide (w < 1) || !okT f || decide (how < 0) || decide (4 < how)
def badI (f : Int) (x : Int) : Bool := !(okT x && decide (f ≤ x))
def ivF (t v : List Int) (w f how : Int) : List Int × Int :=
  if t.length ≠ v.length then ([], 10) else if 200 < t.length then ([], 3) else if argB w f how = true ∨ t.any (badI f) = true ∨ v.any badV = true then ([], 1)
  else if 200 < lastI t w f t.length + 1 then ([], 3) else (outs t v w f how t.length (lastI t w f t.length + 1).toNat, 0)
structure Good (t v : List Int) (w f how : Int) : Prop where
  len : t.length = v.length
  few : t.length ≤ 200
  w1 : 1 ≤ w
  h0 : 0 ≤ how
  h4 : how ≤ 4
  f0 : 0 ≤ f
  f1 : f ≤ 1000000000000000
  t1 : ∀ x ∈ t, f ≤ x ∧ x ≤ 1000000000000000
  v1 : ∀ x ∈ v, -4503599627370 ≤ x ∧ x ≤ 4503599627370
theorem good_of {t v : List Int} {w f how : Int} (h1 : t.length = v.length) (h2 : ¬ 200 < t.length) (h3 : ¬ (argB w f how = true ∨ t.any (badI f) = true ∨ v.any badV = true)) : Good t v w f how := by
  simp only [not_or, Bool.not_eq_true] at h3
  obtain ⟨a, b, c⟩ := h3
  simp only [argB, okT, Bool.or_eq_false_iff, decide_eq_false_iff_not, Bool.not_eq_false', Bool.and_eq_true, decide_eq_true_eq] at a
  rw [List.any_eq_false] at b c
  refine ⟨h1, by omega, by omega, by omega, by omega, by omega, by omega, fun x hx => ?_, fun x hx => ?_⟩
  · have := b x hx
    simp only [badI, okT, Bool.not_eq_true, Bool.not_eq_false', Bool.and_eq_true, decide_eq_true_eq] at this
    omega
  · have := c x hx
    simp only [badV, Bool.or_eq_true, decide_eq_true_eq, not_or] at this
    omega
theorem idx_last {t : List Int} {w f : Int} {m : Nat} : ∀ i < m, idxI t w f i ≤ lastI t w f m := by
  induction m with
  | zero => intro i hi; omega
  | succ m ih =>
    intro i hi
    have h1 := ih
    unfold lastI
    by_cases hq : i = m
    · subst hq
      split <;> omega
    · have := h1 i (by omega)
      split <;> omega
section
variable {t v : List Int} {w f how : Int} (hg : Good t v w f how)
include hg
theorem Good.idx {i : Nat} (hi : i < t.length) : 0 ≤ idxI t w f i ∧ idxI t w f i ≤ 1000000000000000 := by
  have h1 := hg.t1 _ (inE.at_mem hi)
  have hw := hg.w1
  have h0 := hg.f0
  obtain ⟨q0, q1, q2, q3, q4⟩ := quo_fx (a := inE.at t i - f) (b := w) (by omega)
  have := q3 (by omega)
  unfold idxI
  omega
theorem Good.sml {k : Nat} : ∀ m ≤ t.length, Sml (part t v w f k m)
  | 0, _ => ⟨by simp [part], by simp [part]⟩
  | m + 1, hm => by
    have h1 := Good.sml (k := k) m (by omega)
    refine ⟨Nat.le_trans (part_le ..) (by have := hg.few; omega), fun x hx => ?_⟩
    unfold part at hx
    rcases List.mem_append.1 hx with hx | hx
    · exact h1.2 x hx
    · split at hx
      · obtain rfl : x = inE.at v m := by simpa using hx
        exact hg.v1 _ (inE.at_mem (by have := hg.len; omega))
      · simp at hx
theorem Good.last_le : ∀ m ≤ t.length, -1 ≤ lastI t w f m ∧ lastI t w f m ≤ 1000000000000000
  | 0, _ => by simp [lastI]
  | m + 1, hm => by
    have h1 := Good.last_le m (by omega)
    have h2 := hg.idx (i := m) (by omega)
    unfold lastI
    split <;> omega
theorem Good.mx : ∀ m, 1 ≤ m → m ≤ t.length → lastI t w f m = (mxI t m - f).tdiv w ∧ f ≤ mxI t m ∧ mxI t m ≤ 1000000000000000
  | 0, h, _ => by omega
  | m + 1, _, hm => by
    have hw := hg.w1
    have h2 := hg.t1 _ (inE.at_mem (i := m) (by omega))
    have h3 := hg.idx (i := m) (by omega)
    by_cases h0 : m = 0
    · subst h0
      rw [mx1]
      have e : lastI t w f 1 = idxI t w f 0 := by
        show (if idxI t w f 0 > -1 then idxI t w f 0 else -1) = _
        rw [if_pos (by omega)]
      exact ⟨e, h2⟩
    obtain ⟨i1, i2, i3⟩ := Good.mx m (by omega) (by omega)
    have e1 : lastI t w f (m + 1) = if idxI t w f m > lastI t w f m then idxI t w f m else lastI t w f m := rfl
    have e2 : mxI t (m + 1) = if inE.at t m > mxI t m then inE.at t m else mxI t m := rfl
    have mono : ∀ a b : Int, 0 ≤ a → a ≤ b → a.tdiv w ≤ b.tdiv w := fun a b ha hab => by
      rw [Int.tdiv_eq_ediv_of_nonneg ha, Int.tdiv_eq_ediv_of_nonneg (by omega)]
      exact Int.ediv_le_ediv (by omega) hab
    rw [e1, e2]
    by_cases hq : inE.at t m > mxI t m
    · rw [if_pos hq]
      have h5 := mono (mxI t m - f) (inE.at t m - f) (by omega) (by omega)
      have h6 : idxI t w f m = (inE.at t m - f).tdiv w := rfl
      refine ⟨?_, h2⟩
      split <;> omega
    · rw [if_neg hq]
      have h5 := mono (inE.at t m - f) (mxI t m - f) (by omega) (by omega)
      have h6 : idxI t w f m = (inE.at t m - f).tdiv w := rfl
      refine ⟨?_, i2, i3⟩
      split <;> omega
end
end Go.Proofs.YteeofpgnjekeaaaGreatDoor
/-
  Values in intervals, as the program has them; walked. No statement of the seat stands here.
-/
namespace Go.Proofs.YteeofpgnjekeaaaGreatDoor
open Go Go.An
set_option maxRecDepth 4000
set_option linter.unusedSimpArgs false
set_option linter.unusedVariables false

theorem rep_nil : ∀ N : Nat, repeatV (V.cells .nilslice) N = List.replicate N .nilslice
  | 0 => rfl
  | N + 1 => by
    rw [repeatV, rep_nil N, List.replicate_succ]
    rfl
theorem mk93 {N : Nat} {H : Hp} (h : N ≤ 200) : makeSliceV Tryz.prog 93 H (.int .i64 (N : Int)) (.int .i64 (N : Int)) = some (.slice H.length 0 0 N 1 .full, H ++ [.row 0 (List.replicate N .nilslice) true]) := by
  unfold makeSliceV
  rw [u93]
  simp only [z27, y27, o27, Option.bind_some]
  rw [if_pos ⟨by decide, rfl, rfl, by omega, by omega, by omega, by omega⟩, Int.toNat_natCast, rep_nil]
theorem lst_bl {H : Hp} {v : V} {l : List Int} (h : LstE inE H v l) (L : Hp) : LstE inE (H ++ L) v l := h.app L
set_option maxHeartbeats 16000000 in
theorem fn23 (bt bv : Bool) (t v : List Int) (w f how : Int) (h1 : t.length ≤ 2 ^ 48) (h2 : v.length ≤ 2 ^ 48) (H : Hp) : callL Tryz.prog pr 23 [slV bt inE t, slV bv inE v, .int .i64 w, .int .i64 f, .int .i64 how] H = some (.tup [slV true inE (ivF t v w f how).1, .int .i64 (ivF t v w f how).2], H) := by
  have h54 := fn54 (b := bt) (l := t)
  have h57 := fn57
  have h55a := fun H => fn55L (b := bt) (l := t) (H := H) (by omega) (badI f) 68 [] [.ipt [.int .i64 f] 0] kp68 (fun x _ => fn68 x f H)
  have h55b := fun H => fn55L (b := bv) (l := v) (H := H) (by omega) badV 69 [] [] kp69 (fun x _ => fn69 x H)
  refine run23 (Nat.le_of_ble_eq_true rfl) ?_
  unfold ivF
  by_cases ha : t.length = v.length
  case neg =>
    rw [if_pos ha]
    have ha2 : ¬ ((t.length : Int) = v.length) := by omega
    simp (disch := first | rfl | omega | exact lt_new _ | assumption | decide | (simp [tk_here, tk_app, tk_0, tk_S, gr_here, gr_app, gr_0, gr_S] <;> omega) | fail) only [r23_0, r23_1, r23_2, r23_3, r23_4, r23_5, r23_6, r23_7, r23_8, r23_9, r23_10, r23_11, r23_12, r23_13, r23_14, r23_15, r23_16, r23_17, r23_18, r23_20, r23_21, r23_22, r23_23, r23_24, r23_25, r23_27, c23, rs23, gc23, ha2, slV_nil, go_sem, ↓reduceIte, Nat.reduceLT, Nat.reduceEqDiff, Nat.reduceAdd, Nat.reduceMul, Nat.reduceSub, Int.reduceAdd, Int.reduceSub, Nat.reduceLeDiff, Int.reduceLT, Int.reduceLE, Int.reduceEq, Int.reduceNeg, Int.reduceToNat]
    repeat' ((first | refine guardB_dec (fun hy => ?_) (fun hy => ?_) | refine guardB_bool (fun hy => ?_) (fun hy => ?_) | refine guardQ_ite (fun hy => ?_) (fun hy => ?_) | refine brQ_dec (fun hy => ?_) (fun hy => ?_) | refine brQ_bool (fun hy => ?_) (fun hy => ?_)) <;> (try simp only [Bool.not_eq_true', Bool.not_eq_false', Bool.and_eq_true, Bool.or_eq_false_iff, decide_eq_true_eq, decide_eq_false_iff_not] at hy) <;> simp (disch := first | rfl | omega | exact lt_new _ | assumption | decide | (simp [tk_here, tk_app, tk_0, tk_S, gr_here, gr_app, gr_0, gr_S] <;> omega) | fail) only [r23_0, r23_1, r23_2, r23_3, r23_4, r23_5, r23_6, r23_7, r23_8, r23_9, r23_10, r23_11, r23_12, r23_13, r23_14, r23_15, r23_16, r23_17, r23_18, r23_20, r23_21, r23_22, r23_23, r23_24, r23_25, r23_27, c23, rs23, gc23, ha2, slV_nil, go_sem, ↓reduceIte, Nat.reduceLT, Nat.reduceEqDiff, Nat.reduceAdd, Nat.reduceMul, Nat.reduceSub, Int.reduceAdd, Int.reduceSub, Nat.reduceLeDiff, Int.reduceLT, Int.reduceLE, Int.reduceEq, Int.reduceNeg, Int.reduceToNat, hy])
    all_goals (try ((first | refine finQ_same ?_ | refine finQ_app ?_ | (rw [List.append_assoc]; refine finQ_app ?_)) <;> simp (disch := first | rfl | omega | exact lt_new _ | assumption | decide | (simp [tk_here, tk_app, tk_0, tk_S, gr_here, gr_app, gr_0, gr_S] <;> omega) | fail) only [go_sem, ↓reduceIte, Nat.reduceLT, Nat.reduceEqDiff, Nat.reduceAdd, Nat.reduceMul, Nat.reduceSub, Int.reduceAdd, Int.reduceSub, Nat.reduceLeDiff, Int.reduceLT, Int.reduceLE, Int.reduceEq, Int.reduceNeg, Int.reduceToNat, List.append_assoc, List.cons_append, List.nil_append, *]))
    all_goals (try first | rfl | (simp [*]; done) | grind)
  rw [if_neg (fun h => h ha)]
  have ha2 : (t.length : Int) = v.length := by omega
  by_cases hb : 200 < t.length
  case pos =>
    rw [if_pos hb]
    have hb2 : (200 : Int) < v.length := by omega
    simp (disch := first | rfl | omega | exact lt_new _ | assumption | decide | (simp [tk_here, tk_app, tk_0, tk_S, gr_here, gr_app, gr_0, gr_S] <;> omega) | fail) only [r23_0, r23_1, r23_2, r23_3, r23_4, r23_5, r23_6, r23_7, r23_8, r23_9, r23_10, r23_11, r23_12, r23_13, r23_14, r23_15, r23_16, r23_17, r23_18, r23_20, r23_21, r23_22, r23_23, r23_24, r23_25, r23_27, c23, rs23, gc23, ha2, h54, hb2, slV_nil, go_sem, ↓reduceIte, Nat.reduceLT, Nat.reduceEqDiff, Nat.reduceAdd, Nat.reduceMul, Nat.reduceSub, Int.reduceAdd, Int.reduceSub, Nat.reduceLeDiff, Int.reduceLT, Int.reduceLE, Int.reduceEq, Int.reduceNeg, Int.reduceToNat]
    repeat' ((first | refine guardB_dec (fun hy => ?_) (fun hy => ?_) | refine guardB_bool (fun hy => ?_) (fun hy => ?_) | refine guardQ_ite (fun hy => ?_) (fun hy => ?_) | refine brQ_dec (fun hy => ?_) (fun hy => ?_) | refine brQ_bool (fun hy => ?_) (fun hy => ?_)) <;> (try simp only [Bool.not_eq_true', Bool.not_eq_false', Bool.and_eq_true, Bool.or_eq_false_iff, decide_eq_true_eq, decide_eq_false_iff_not] at hy) <;> simp (disch := first | rfl | omega | exact lt_new _ | assumption | decide | (simp [tk_here, tk_app, tk_0, tk_S, gr_here, gr_app, gr_0, gr_S] <;> omega) | fail) only [r23_0, r23_1, r23_2, r23_3, r23_4, r23_5, r23_6, r23_7, r23_8, r23_9, r23_10, r23_11, r23_12, r23_13, r23_14, r23_15, r23_16, r23_17, r23_18, r23_20, r23_21, r23_22, r23_23, r23_24, r23_25, r23_27, c23, rs23, gc23, ha2, h54, hb2, slV_nil, go_sem, ↓reduceIte, Nat.reduceLT, Nat.reduceEqDiff, Nat.reduceAdd, Nat.reduceMul, Nat.reduceSub, Int.reduceAdd, Int.reduceSub, Nat.reduceLeDiff, Int.reduceLT, Int.reduceLE, Int.reduceEq, Int.reduceNeg, Int.reduceToNat, hy])
    all_goals (try ((first | refine finQ_same ?_ | refine finQ_app ?_ | (rw [List.append_assoc]; refine finQ_app ?_)) <;> simp (disch := first | rfl | omega | exact lt_new _ | assumption | decide | (simp [tk_here, tk_app, tk_0, tk_S, gr_here, gr_app, gr_0, gr_S] <;> omega) | fail) only [go_sem, ↓reduceIte, Nat.reduceLT, Nat.reduceEqDiff, Nat.reduceAdd, Nat.reduceMul, Nat.reduceSub, Int.reduceAdd, Int.reduceSub, Nat.reduceLeDiff, Int.reduceLT, Int.reduceLE, Int.reduceEq, Int.reduceNeg, Int.reduceToNat, List.append_assoc, List.cons_append, List.nil_append, *]))
    all_goals (try first | rfl | (simp [*]; done) | grind)
  rw [if_neg hb]
  have hb2 : ¬ (200 : Int) < v.length := by omega
  by_cases c1 : w < 1
  case pos =>
    rw [if_pos (.inl (by simp [argB, c1]))]
    simp (disch := first | rfl | omega | exact lt_new _ | assumption | decide | (simp [tk_here, tk_app, tk_0, tk_S, gr_here, gr_app, gr_0, gr_S] <;> omega) | fail) only [r23_0, r23_1, r23_2, r23_3, r23_4, r23_5, r23_6, r23_7, r23_8, r23_9, r23_10, r23_11, r23_12, r23_13, r23_14, r23_15, r23_16, r23_17, r23_18, r23_20, r23_21, r23_22, r23_23, r23_24, r23_25, r23_27, c23, rs23, gc23, ha2, h54, hb2, c1, slV_nil, go_sem, ↓reduceIte, Nat.reduceLT, Nat.reduceEqDiff, Nat.reduceAdd, Nat.reduceMul, Nat.reduceSub, Int.reduceAdd, Int.reduceSub, Nat.reduceLeDiff, Int.reduceLT, Int.reduceLE, Int.reduceEq, Int.reduceNeg, Int.reduceToNat]
    repeat' ((first | refine guardB_dec (fun hy => ?_) (fun hy => ?_) | refine guardB_bool (fun hy => ?_) (fun hy => ?_) | refine guardQ_ite (fun hy => ?_) (fun hy => ?_) | refine brQ_dec (fun hy => ?_) (fun hy => ?_) | refine brQ_bool (fun hy => ?_) (fun hy => ?_)) <;> (try simp only [Bool.not_eq_true', Bool.not_eq_false', Bool.and_eq_true, Bool.or_eq_false_iff, decide_eq_true_eq, decide_eq_false_iff_not] at hy) <;> simp (disch := first | rfl | omega | exact lt_new _ | assumption | decide | (simp [tk_here, tk_app, tk_0, tk_S, gr_here, gr_app, gr_0, gr_S] <;> omega) | fail) only [r23_0, r23_1, r23_2, r23_3, r23_4, r23_5, r23_6, r23_7, r23_8, r23_9, r23_10, r23_11, r23_12, r23_13, r23_14, r23_15, r23_16, r23_17, r23_18, r23_20, r23_21, r23_22, r23_23, r23_24, r23_25, r23_27, c23, rs23, gc23, ha2, h54, hb2, c1, slV_nil, go_sem, ↓reduceIte, Nat.reduceLT, Nat.reduceEqDiff, Nat.reduceAdd, Nat.reduceMul, Nat.reduceSub, Int.reduceAdd, Int.reduceSub, Nat.reduceLeDiff, Int.reduceLT, Int.reduceLE, Int.reduceEq, Int.reduceNeg, Int.reduceToNat, hy])
    all_goals (try ((first | refine finQ_same ?_ | refine finQ_app ?_ | (rw [List.append_assoc]; refine finQ_app ?_)) <;> simp (disch := first | rfl | omega | exact lt_new _ | assumption | decide | (simp [tk_here, tk_app, tk_0, tk_S, gr_here, gr_app, gr_0, gr_S] <;> omega) | fail) only [go_sem, ↓reduceIte, Nat.reduceLT, Nat.reduceEqDiff, Nat.reduceAdd, Nat.reduceMul, Nat.reduceSub, Int.reduceAdd, Int.reduceSub, Nat.reduceLeDiff, Int.reduceLT, Int.reduceLE, Int.reduceEq, Int.reduceNeg, Int.reduceToNat, List.append_assoc, List.cons_append, List.nil_append, *]))
    all_goals (try first | rfl | (simp [*]; done) | grind)
  by_cases c2 : okT f = true
  case neg =>
    rw [Bool.not_eq_true] at c2
    rw [if_pos (.inl (by simp [argB, c2]))]
    simp (disch := first | rfl | omega | exact lt_new _ | assumption | decide | (simp [tk_here, tk_app, tk_0, tk_S, gr_here, gr_app, gr_0, gr_S] <;> omega) | fail) only [r23_0, r23_1, r23_2, r23_3, r23_4, r23_5, r23_6, r23_7, r23_8, r23_9, r23_10, r23_11, r23_12, r23_13, r23_14, r23_15, r23_16, r23_17, r23_18, r23_20, r23_21, r23_22, r23_23, r23_24, r23_25, r23_27, c23, rs23, gc23, ha2, h54, hb2, c1, h57, c2, slV_nil, go_sem, ↓reduceIte, Nat.reduceLT, Nat.reduceEqDiff, Nat.reduceAdd, Nat.reduceMul, Nat.reduceSub, Int.reduceAdd, Int.reduceSub, Nat.reduceLeDiff, Int.reduceLT, Int.reduceLE, Int.reduceEq, Int.reduceNeg, Int.reduceToNat]
    repeat' ((first | refine guardB_dec (fun hy => ?_) (fun hy => ?_) | refine guardB_bool (fun hy => ?_) (fun hy => ?_) | refine guardQ_ite (fun hy => ?_) (fun hy => ?_) | refine brQ_dec (fun hy => ?_) (fun hy => ?_) | refine brQ_bool (fun hy => ?_) (fun hy => ?_)) <;> (try simp only [Bool.not_eq_true', Bool.not_eq_false', Bool.and_eq_true, Bool.or_eq_false_iff, decide_eq_true_eq, decide_eq_false_iff_not] at hy) <;> simp (disch := first | rfl | omega | exact lt_new _ | assumption | decide | (simp [tk_here, tk_app, tk_0, tk_S, gr_here, gr_app, gr_0, gr_S] <;> omega) | fail) only [r23_0, r23_1, r23_2, r23_3, r23_4, r23_5, r23_6, r23_7, r23_8, r23_9, r23_10, r23_11, r23_12, r23_13, r23_14, r23_15, r23_16, r23_17, r23_18, r23_20, r23_21, r23_22, r23_23, r23_24, r23_25, r23_27, c23, rs23, gc23, ha2, h54, hb2, c1, h57, c2, slV_nil, go_sem, ↓reduceIte, Nat.reduceLT, Nat.reduceEqDiff, Nat.reduceAdd, Nat.reduceMul, Nat.reduceSub, Int.reduceAdd, Int.reduceSub, Nat.reduceLeDiff, Int.reduceLT, Int.reduceLE, Int.reduceEq, Int.reduceNeg, Int.reduceToNat, hy])
    all_goals (try ((first | refine finQ_same ?_ | refine finQ_app ?_ | (rw [List.append_assoc]; refine finQ_app ?_)) <;> simp (disch := first | rfl | omega | exact lt_new _ | assumption | decide | (simp [tk_here, tk_app, tk_0, tk_S, gr_here, gr_app, gr_0, gr_S] <;> omega) | fail) only [go_sem, ↓reduceIte, Nat.reduceLT, Nat.reduceEqDiff, Nat.reduceAdd, Nat.reduceMul, Nat.reduceSub, Int.reduceAdd, Int.reduceSub, Nat.reduceLeDiff, Int.reduceLT, Int.reduceLE, Int.reduceEq, Int.reduceNeg, Int.reduceToNat, List.append_assoc, List.cons_append, List.nil_append, *]))
    all_goals (try first | rfl | (simp [*]; done) | grind)
  by_cases c3 : how < 0
  case pos =>
    rw [if_pos (.inl (by simp [argB, c3]))]
    simp (disch := first | rfl | omega | exact lt_new _ | assumption | decide | (simp [tk_here, tk_app, tk_0, tk_S, gr_here, gr_app, gr_0, gr_S] <;> omega) | fail) only [r23_0, r23_1, r23_2, r23_3, r23_4, r23_5, r23_6, r23_7, r23_8, r23_9, r23_10, r23_11, r23_12, r23_13, r23_14, r23_15, r23_16, r23_17, r23_18, r23_20, r23_21, r23_22, r23_23, r23_24, r23_25, r23_27, c23, rs23, gc23, ha2, h54, hb2, c1, h57, c2, c3, slV_nil, go_sem, ↓reduceIte, Nat.reduceLT, Nat.reduceEqDiff, Nat.reduceAdd, Nat.reduceMul, Nat.reduceSub, Int.reduceAdd, Int.reduceSub, Nat.reduceLeDiff, Int.reduceLT, Int.reduceLE, Int.reduceEq, Int.reduceNeg, Int.reduceToNat]
    repeat' ((first | refine guardB_dec (fun hy => ?_) (fun hy => ?_) | refine guardB_bool (fun hy => ?_) (fun hy => ?_) | refine guardQ_ite (fun hy => ?_) (fun hy => ?_) | refine brQ_dec (fun hy => ?_) (fun hy => ?_) | refine brQ_bool (fun hy => ?_) (fun hy => ?_)) <;> (try simp only [Bool.not_eq_true', Bool.not_eq_false', Bool.and_eq_true, Bool.or_eq_false_iff, decide_eq_true_eq, decide_eq_false_iff_not] at hy) <;> simp (disch := first | rfl | omega | exact lt_new _ | assumption | decide | (simp [tk_here, tk_app, tk_0, tk_S, gr_here, gr_app, gr_0, gr_S] <;> omega) | fail) only [r23_0, r23_1, r23_2, r23_3, r23_4, r23_5, r23_6, r23_7, r23_8, r23_9, r23_10, r23_11, r23_12, r23_13, r23_14, r23_15, r23_16, r23_17, r23_18, r23_20, r23_21, r23_22, r23_23, r23_24, r23_25, r23_27, c23, rs23, gc23, ha2, h54, hb2, c1, h57, c2, c3, slV_nil, go_sem, ↓reduceIte, Nat.reduceLT, Nat.reduceEqDiff, Nat.reduceAdd, Nat.reduceMul, Nat.reduceSub, Int.reduceAdd, Int.reduceSub, Nat.reduceLeDiff, Int.reduceLT, Int.reduceLE, Int.reduceEq, Int.reduceNeg, Int.reduceToNat, hy])
    all_goals (try ((first | refine finQ_same ?_ | refine finQ_app ?_ | (rw [List.append_assoc]; refine finQ_app ?_)) <;> simp (disch := first | rfl | omega | exact lt_new _ | assumption | decide | (simp [tk_here, tk_app, tk_0, tk_S, gr_here, gr_app, gr_0, gr_S] <;> omega) | fail) only [go_sem, ↓reduceIte, Nat.reduceLT, Nat.reduceEqDiff, Nat.reduceAdd, Nat.reduceMul, Nat.reduceSub, Int.reduceAdd, Int.reduceSub, Nat.reduceLeDiff, Int.reduceLT, Int.reduceLE, Int.reduceEq, Int.reduceNeg, Int.reduceToNat, List.append_assoc, List.cons_append, List.nil_append, *]))
    all_goals (try first | rfl | (simp [*]; done) | grind)
  by_cases c4 : 4 < how
  case pos =>
    rw [if_pos (.inl (by simp [argB, c4]))]
    simp (disch := first | rfl | omega | exact lt_new _ | assumption | decide | (simp [tk_here, tk_app, tk_0, tk_S, gr_here, gr_app, gr_0, gr_S] <;> omega) | fail) only [r23_0, r23_1, r23_2, r23_3, r23_4, r23_5, r23_6, r23_7, r23_8, r23_9, r23_10, r23_11, r23_12, r23_13, r23_14, r23_15, r23_16, r23_17, r23_18, r23_20, r23_21, r23_22, r23_23, r23_24, r23_25, r23_27, c23, rs23, gc23, ha2, h54, hb2, c1, h57, c2, c3, c4, slV_nil, go_sem, ↓reduceIte, Nat.reduceLT, Nat.reduceEqDiff, Nat.reduceAdd, Nat.reduceMul, Nat.reduceSub, Int.reduceAdd, Int.reduceSub, Nat.reduceLeDiff, Int.reduceLT, Int.reduceLE, Int.reduceEq, Int.reduceNeg, Int.reduceToNat]
    repeat' ((first | refine guardB_dec (fun hy => ?_) (fun hy => ?_) | refine guardB_bool (fun hy => ?_) (fun hy => ?_) | refine guardQ_ite (fun hy => ?_) (fun hy => ?_) | refine brQ_dec (fun hy => ?_) (fun hy => ?_) | refine brQ_bool (fun hy => ?_) (fun hy => ?_)) <;> (try simp only [Bool.not_eq_true', Bool.not_eq_false', Bool.and_eq_true, Bool.or_eq_false_iff, decide_eq_true_eq, decide_eq_false_iff_not] at hy) <;> simp (disch := first | rfl | omega | exact lt_new _ | assumption | decide | (simp [tk_here, tk_app, tk_0, tk_S, gr_here, gr_app, gr_0, gr_S] <;> omega) | fail) only [r23_0, r23_1, r23_2, r23_3, r23_4, r23_5, r23_6, r23_7, r23_8, r23_9, r23_10, r23_11, r23_12, r23_13, r23_14, r23_15, r23_16, r23_17, r23_18, r23_20, r23_21, r23_22, r23_23, r23_24, r23_25, r23_27, c23, rs23, gc23, ha2, h54, hb2, c1, h57, c2, c3, c4, slV_nil, go_sem, ↓reduceIte, Nat.reduceLT, Nat.reduceEqDiff, Nat.reduceAdd, Nat.reduceMul, Nat.reduceSub, Int.reduceAdd, Int.reduceSub, Nat.reduceLeDiff, Int.reduceLT, Int.reduceLE, Int.reduceEq, Int.reduceNeg, Int.reduceToNat, hy])
    all_goals (try ((first | refine finQ_same ?_ | refine finQ_app ?_ | (rw [List.append_assoc]; refine finQ_app ?_)) <;> simp (disch := first | rfl | omega | exact lt_new _ | assumption | decide | (simp [tk_here, tk_app, tk_0, tk_S, gr_here, gr_app, gr_0, gr_S] <;> omega) | fail) only [go_sem, ↓reduceIte, Nat.reduceLT, Nat.reduceEqDiff, Nat.reduceAdd, Nat.reduceMul, Nat.reduceSub, Int.reduceAdd, Int.reduceSub, Nat.reduceLeDiff, Int.reduceLT, Int.reduceLE, Int.reduceEq, Int.reduceNeg, Int.reduceToNat, List.append_assoc, List.cons_append, List.nil_append, *]))
    all_goals (try first | rfl | (simp [*]; done) | grind)
  by_cases c5 : t.any (badI f) = true
  case pos =>
    rw [if_pos (.inr (.inl c5))]
    simp (disch := first | rfl | omega | exact lt_new _ | assumption | decide | (simp [tk_here, tk_app, tk_0, tk_S, gr_here, gr_app, gr_0, gr_S] <;> omega) | fail) only [r23_0, r23_1, r23_2, r23_3, r23_4, r23_5, r23_6, r23_7, r23_8, r23_9, r23_10, r23_11, r23_12, r23_13, r23_14, r23_15, r23_16, r23_17, r23_18, r23_20, r23_21, r23_22, r23_23, r23_24, r23_25, r23_27, c23, rs23, gc23, ha2, h54, hb2, c1, h57, c2, c3, c4, h55a, c5, slV_nil, go_sem, ↓reduceIte, Nat.reduceLT, Nat.reduceEqDiff, Nat.reduceAdd, Nat.reduceMul, Nat.reduceSub, Int.reduceAdd, Int.reduceSub, Nat.reduceLeDiff, Int.reduceLT, Int.reduceLE, Int.reduceEq, Int.reduceNeg, Int.reduceToNat]
    repeat' ((first | refine guardB_dec (fun hy => ?_) (fun hy => ?_) | refine guardB_bool (fun hy => ?_) (fun hy => ?_) | refine guardQ_ite (fun hy => ?_) (fun hy => ?_) | refine brQ_dec (fun hy => ?_) (fun hy => ?_) | refine brQ_bool (fun hy => ?_) (fun hy => ?_)) <;> (try simp only [Bool.not_eq_true', Bool.not_eq_false', Bool.and_eq_true, Bool.or_eq_false_iff, decide_eq_true_eq, decide_eq_false_iff_not] at hy) <;> simp (disch := first | rfl | omega | exact lt_new _ | assumption | decide | (simp [tk_here, tk_app, tk_0, tk_S, gr_here, gr_app, gr_0, gr_S] <;> omega) | fail) only [r23_0, r23_1, r23_2, r23_3, r23_4, r23_5, r23_6, r23_7, r23_8, r23_9, r23_10, r23_11, r23_12, r23_13, r23_14, r23_15, r23_16, r23_17, r23_18, r23_20, r23_21, r23_22, r23_23, r23_24, r23_25, r23_27, c23, rs23, gc23, ha2, h54, hb2, c1, h57, c2, c3, c4, h55a, c5, slV_nil, go_sem, ↓reduceIte, Nat.reduceLT, Nat.reduceEqDiff, Nat.reduceAdd, Nat.reduceMul, Nat.reduceSub, Int.reduceAdd, Int.reduceSub, Nat.reduceLeDiff, Int.reduceLT, Int.reduceLE, Int.reduceEq, Int.reduceNeg, Int.reduceToNat, hy])
    all_goals (try ((first | refine finQ_same ?_ | refine finQ_app ?_ | (rw [List.append_assoc]; refine finQ_app ?_)) <;> simp (disch := first | rfl | omega | exact lt_new _ | assumption | decide | (simp [tk_here, tk_app, tk_0, tk_S, gr_here, gr_app, gr_0, gr_S] <;> omega) | fail) only [go_sem, ↓reduceIte, Nat.reduceLT, Nat.reduceEqDiff, Nat.reduceAdd, Nat.reduceMul, Nat.reduceSub, Int.reduceAdd, Int.reduceSub, Nat.reduceLeDiff, Int.reduceLT, Int.reduceLE, Int.reduceEq, Int.reduceNeg, Int.reduceToNat, List.append_assoc, List.cons_append, List.nil_append, *]))
    all_goals (try first | rfl | (simp [*]; done) | grind)
  rw [Bool.not_eq_true] at c5
  by_cases c6 : v.any badV = true
  case pos =>
    rw [if_pos (.inr (.inr c6))]
    simp (disch := first | rfl | omega | exact lt_new _ | assumption | decide | (simp [tk_here, tk_app, tk_0, tk_S, gr_here, gr_app, gr_0, gr_S] <;> omega) | fail) only [r23_0, r23_1, r23_2, r23_3, r23_4, r23_5, r23_6, r23_7, r23_8, r23_9, r23_10, r23_11, r23_12, r23_13, r23_14, r23_15, r23_16, r23_17, r23_18, r23_20, r23_21, r23_22, r23_23, r23_24, r23_25, r23_27, c23, rs23, gc23, ha2, h54, hb2, c1, h57, c2, c3, c4, h55a, c5, h55b, c6, slV_nil, go_sem, ↓reduceIte, Nat.reduceLT, Nat.reduceEqDiff, Nat.reduceAdd, Nat.reduceMul, Nat.reduceSub, Int.reduceAdd, Int.reduceSub, Nat.reduceLeDiff, Int.reduceLT, Int.reduceLE, Int.reduceEq, Int.reduceNeg, Int.reduceToNat]
    repeat' ((first | refine guardB_dec (fun hy => ?_) (fun hy => ?_) | refine guardB_bool (fun hy => ?_) (fun hy => ?_) | refine guardQ_ite (fun hy => ?_) (fun hy => ?_) | refine brQ_dec (fun hy => ?_) (fun hy => ?_) | refine brQ_bool (fun hy => ?_) (fun hy => ?_)) <;> (try simp only [Bool.not_eq_true', Bool.not_eq_false', Bool.and_eq_true, Bool.or_eq_false_iff, decide_eq_true_eq, decide_eq_false_iff_not] at hy) <;> simp (disch := first | rfl | omega | exact lt_new _ | assumption | decide | (simp [tk_here, tk_app, tk_0, tk_S, gr_here, gr_app, gr_0, gr_S] <;> omega) | fail) only [r23_0, r23_1, r23_2, r23_3, r23_4, r23_5, r23_6, r23_7, r23_8, r23_9, r23_10, r23_11, r23_12, r23_13, r23_14, r23_15, r23_16, r23_17, r23_18, r23_20, r23_21, r23_22, r23_23, r23_24, r23_25, r23_27, c23, rs23, gc23, ha2, h54, hb2, c1, h57, c2, c3, c4, h55a, c5, h55b, c6, slV_nil, go_sem, ↓reduceIte, Nat.reduceLT, Nat.reduceEqDiff, Nat.reduceAdd, Nat.reduceMul, Nat.reduceSub, Int.reduceAdd, Int.reduceSub, Nat.reduceLeDiff, Int.reduceLT, Int.reduceLE, Int.reduceEq, Int.reduceNeg, Int.reduceToNat, hy])
    all_goals (try ((first | refine finQ_same ?_ | refine finQ_app ?_ | (rw [List.append_assoc]; refine finQ_app ?_)) <;> simp (disch := first | rfl | omega | exact lt_new _ | assumption | decide | (simp [tk_here, tk_app, tk_0, tk_S, gr_here, gr_app, gr_0, gr_S] <;> omega) | fail) only [go_sem, ↓reduceIte, Nat.reduceLT, Nat.reduceEqDiff, Nat.reduceAdd, Nat.reduceMul, Nat.reduceSub, Int.reduceAdd, Int.reduceSub, Nat.reduceLeDiff, Int.reduceLT, Int.reduceLE, Int.reduceEq, Int.reduceNeg, Int.reduceToNat, List.append_assoc, List.cons_append, List.nil_append, *]))
    all_goals (try first | rfl | (simp [*]; done) | grind)
  rw [Bool.not_eq_true] at c6
  have hc : ¬ (argB w f how = true ∨ t.any (badI f) = true ∨ v.any badV = true) := by simp [argB, c1, c2, c3, c4, c5, c6]
  rw [if_neg hc]
  have hg := good_of ha hb hc
  have c1' := hg.w1
  by_cases hz : t.length = 0
  case pos =>
    obtain rfl : t = [] := List.eq_nil_of_length_eq_zero hz
    have hv0 : (v.length : Int) = 0 := by simpa using ha2.symm
    simp (disch := first | rfl | omega | exact lt_new _ | assumption | decide | (simp [tk_here, tk_app, tk_0, tk_S, gr_here, gr_app, gr_0, gr_S] <;> omega) | fail) only [r23_0, r23_1, r23_2, r23_3, r23_4, r23_5, r23_6, r23_7, r23_8, r23_9, r23_10, r23_11, r23_12, r23_13, r23_14, r23_15, r23_16, r23_17, r23_18, r23_20, r23_21, r23_22, r23_23, r23_24, r23_25, r23_27, c23, rs23, gc23, ha2, hv0, h54, hb2, c1, h57, c2, c3, c4, h55a, c5, h55b, c6, slV_nil, List.length_nil, Int.natCast_zero, lastI, outs, go_sem, ↓reduceIte, Nat.reduceLT, Nat.reduceEqDiff, Nat.reduceAdd, Nat.reduceMul, Nat.reduceSub, Int.reduceAdd, Int.reduceSub, Nat.reduceLeDiff, Int.reduceLT, Int.reduceLE, Int.reduceEq, Int.reduceNeg, Int.reduceToNat]
    repeat' ((first | refine guardB_dec (fun hy => ?_) (fun hy => ?_) | refine guardB_bool (fun hy => ?_) (fun hy => ?_) | refine guardQ_ite (fun hy => ?_) (fun hy => ?_) | refine brQ_dec (fun hy => ?_) (fun hy => ?_) | refine brQ_bool (fun hy => ?_) (fun hy => ?_)) <;> (try simp only [Bool.not_eq_true', Bool.not_eq_false', Bool.and_eq_true, Bool.or_eq_false_iff, decide_eq_true_eq, decide_eq_false_iff_not] at hy) <;> simp (disch := first | rfl | omega | exact lt_new _ | assumption | decide | (simp [tk_here, tk_app, tk_0, tk_S, gr_here, gr_app, gr_0, gr_S] <;> omega) | fail) only [r23_0, r23_1, r23_2, r23_3, r23_4, r23_5, r23_6, r23_7, r23_8, r23_9, r23_10, r23_11, r23_12, r23_13, r23_14, r23_15, r23_16, r23_17, r23_18, r23_20, r23_21, r23_22, r23_23, r23_24, r23_25, r23_27, c23, rs23, gc23, ha2, hv0, h54, hb2, c1, h57, c2, c3, c4, h55a, c5, h55b, c6, slV_nil, List.length_nil, Int.natCast_zero, lastI, outs, go_sem, ↓reduceIte, Nat.reduceLT, Nat.reduceEqDiff, Nat.reduceAdd, Nat.reduceMul, Nat.reduceSub, Int.reduceAdd, Int.reduceSub, Nat.reduceLeDiff, Int.reduceLT, Int.reduceLE, Int.reduceEq, Int.reduceNeg, Int.reduceToNat, hy])
    all_goals (try ((first | refine finQ_same ?_ | refine finQ_app ?_ | (rw [List.append_assoc]; refine finQ_app ?_)) <;> simp (disch := first | rfl | omega | exact lt_new _ | assumption | decide | (simp [tk_here, tk_app, tk_0, tk_S, gr_here, gr_app, gr_0, gr_S] <;> omega) | fail) only [go_sem, ↓reduceIte, Nat.reduceLT, Nat.reduceEqDiff, Nat.reduceAdd, Nat.reduceMul, Nat.reduceSub, Int.reduceAdd, Int.reduceSub, Nat.reduceLeDiff, Int.reduceLT, Int.reduceLE, Int.reduceEq, Int.reduceNeg, Int.reduceToNat, List.append_assoc, List.cons_append, List.nil_append, *]))
    all_goals (try first | rfl | (simp [*]; done) | grind)
  obtain ⟨A, hA⟩ := SqE_of (LstE.of inE H bt t)
  have h70 := fn70 hA (by omega) (by omega)
  obtain ⟨m1, m2, m3⟩ := hg.mx t.length (by omega) (Nat.le_refl _)
  obtain ⟨l1, l2⟩ := hg.last_le t.length (Nat.le_refl _)
  have hw0 : ¬ w = 0 := by omega
  have hf0 := hg.f0
  have hf1 := hg.f1
  have hzv : ¬ (v.length : Int) = 0 := by omega
  by_cases hn : 200 < lastI t w f t.length + 1
  case pos =>
    rw [if_pos hn]
    simp (disch := first | rfl | omega | exact lt_new _ | assumption | decide | (simp [tk_here, tk_app, tk_0, tk_S, gr_here, gr_app, gr_0, gr_S] <;> omega) | fail) only [r23_0, r23_1, r23_2, r23_3, r23_4, r23_5, r23_6, r23_7, r23_8, r23_9, r23_10, r23_11, r23_12, r23_13, r23_14, r23_15, r23_16, r23_17, r23_18, r23_20, r23_21, r23_22, r23_23, r23_24, r23_25, r23_27, c23, rs23, gc23, ha2, h54, hb2, c1, h57, c2, c3, c4, h55a, c5, h55b, c6, hzv, h70, hw0, ← m1, hn, slV_nil, go_sem, ↓reduceIte, Nat.reduceLT, Nat.reduceEqDiff, Nat.reduceAdd, Nat.reduceMul, Nat.reduceSub, Int.reduceAdd, Int.reduceSub, Nat.reduceLeDiff, Int.reduceLT, Int.reduceLE, Int.reduceEq, Int.reduceNeg, Int.reduceToNat]
    repeat' ((first | refine guardB_dec (fun hy => ?_) (fun hy => ?_) | refine guardB_bool (fun hy => ?_) (fun hy => ?_) | refine guardQ_ite (fun hy => ?_) (fun hy => ?_) | refine brQ_dec (fun hy => ?_) (fun hy => ?_) | refine brQ_bool (fun hy => ?_) (fun hy => ?_)) <;> (try simp only [Bool.not_eq_true', Bool.not_eq_false', Bool.and_eq_true, Bool.or_eq_false_iff, decide_eq_true_eq, decide_eq_false_iff_not] at hy) <;> simp (disch := first | rfl | omega | exact lt_new _ | assumption | decide | (simp [tk_here, tk_app, tk_0, tk_S, gr_here, gr_app, gr_0, gr_S] <;> omega) | fail) only [r23_0, r23_1, r23_2, r23_3, r23_4, r23_5, r23_6, r23_7, r23_8, r23_9, r23_10, r23_11, r23_12, r23_13, r23_14, r23_15, r23_16, r23_17, r23_18, r23_20, r23_21, r23_22, r23_23, r23_24, r23_25, r23_27, c23, rs23, gc23, ha2, h54, hb2, c1, h57, c2, c3, c4, h55a, c5, h55b, c6, hzv, h70, hw0, ← m1, hn, slV_nil, go_sem, ↓reduceIte, Nat.reduceLT, Nat.reduceEqDiff, Nat.reduceAdd, Nat.reduceMul, Nat.reduceSub, Int.reduceAdd, Int.reduceSub, Nat.reduceLeDiff, Int.reduceLT, Int.reduceLE, Int.reduceEq, Int.reduceNeg, Int.reduceToNat, hy])
    all_goals (try ((first | refine finQ_same ?_ | refine finQ_app ?_ | (rw [List.append_assoc]; refine finQ_app ?_)) <;> simp (disch := first | rfl | omega | exact lt_new _ | assumption | decide | (simp [tk_here, tk_app, tk_0, tk_S, gr_here, gr_app, gr_0, gr_S] <;> omega) | fail) only [go_sem, ↓reduceIte, Nat.reduceLT, Nat.reduceEqDiff, Nat.reduceAdd, Nat.reduceMul, Nat.reduceSub, Int.reduceAdd, Int.reduceSub, Nat.reduceLeDiff, Int.reduceLT, Int.reduceLE, Int.reduceEq, Int.reduceNeg, Int.reduceToNat, List.append_assoc, List.cons_append, List.nil_append, *]))
    all_goals (try first | rfl | (simp [*]; done) | grind)
  rw [if_neg hn]
  obtain ⟨N, hN⟩ : ∃ N : Nat, lastI t w f t.length + 1 = (N : Int) := ⟨(lastI t w f t.length + 1).toNat, by omega⟩
  rw [hN] at hn
  have hN2 : N ≤ 200 := by omega
  have hmk := fun H => mk93 (N := N) (H := H) hN2
  rw [hN, Int.toNat_natCast]
  simp (disch := first | rfl | omega | exact lt_new _ | assumption | decide | (simp [tk_here, tk_app, tk_0, tk_S, gr_here, gr_app, gr_0, gr_S] <;> omega) | fail) only [r23_0, r23_1, r23_2, r23_3, r23_4, r23_5, r23_6, r23_7, r23_8, r23_9, r23_10, r23_11, r23_12, r23_13, r23_14, r23_15, r23_16, r23_17, r23_18, r23_20, r23_21, r23_22, r23_23, r23_24, r23_25, r23_27, c23, rs23, gc23, ha2, h54, hb2, c1, h57, c2, c3, c4, h55a, c5, h55b, c6, hzv, h70, hw0, ← m1, hN, hn, hmk, go_sem, ↓reduceIte, Nat.reduceLT, Nat.reduceEqDiff, Nat.reduceAdd, Nat.reduceMul, Nat.reduceSub, Int.reduceAdd, Int.reduceSub, Nat.reduceLeDiff, Int.reduceLT, Int.reduceLE, Int.reduceEq, Int.reduceNeg, Int.reduceToNat]
  repeat' ((first | refine guardB_dec (fun hy => ?_) (fun hy => ?_) | refine guardB_bool (fun hy => ?_) (fun hy => ?_) | refine guardQ_ite (fun hy => ?_) (fun hy => ?_) | refine brQ_dec (fun hy => ?_) (fun hy => ?_) | refine brQ_bool (fun hy => ?_) (fun hy => ?_)) <;> (try simp only [Bool.not_eq_true', Bool.not_eq_false', Bool.and_eq_true, Bool.or_eq_false_iff, decide_eq_true_eq, decide_eq_false_iff_not] at hy) <;> simp (disch := first | rfl | omega | exact lt_new _ | assumption | decide | (simp [tk_here, tk_app, tk_0, tk_S, gr_here, gr_app, gr_0, gr_S] <;> omega) | fail) only [r23_0, r23_1, r23_2, r23_3, r23_4, r23_5, r23_6, r23_7, r23_8, r23_9, r23_10, r23_11, r23_12, r23_13, r23_14, r23_15, r23_16, r23_17, r23_18, r23_20, r23_21, r23_22, r23_23, r23_24, r23_25, r23_27, c23, rs23, gc23, ha2, h54, hb2, c1, h57, c2, c3, c4, h55a, c5, h55b, c6, hzv, h70, hw0, ← m1, hN, hn, hmk, go_sem, ↓reduceIte, Nat.reduceLT, Nat.reduceEqDiff, Nat.reduceAdd, Nat.reduceMul, Nat.reduceSub, Int.reduceAdd, Int.reduceSub, Nat.reduceLeDiff, Int.reduceLT, Int.reduceLE, Int.reduceEq, Int.reduceNeg, Int.reduceToNat, hy])
  refine Wp_loop (fun m T D H' => ∃ i cs M, m = t.length - i ∧ i ≤ t.length ∧ D = [] ∧ H' = H ++ .row 0 cs true :: M ∧ PtsI (H.length + 1) N M cs (fun k => part t v w f k i) ∧ get T 0 = slV bt inE t ∧ get T 1 = slV bv inE v ∧ get T 2 = .int .i64 w ∧ get T 4 = .int .i64 how ∧ get T 8 = .ipt [.int .i64 f] 0 ∧ get T 13 = .slice H.length 0 0 N 1 .full ∧ get T 65 = slV bt inE t ∧ get T 66 = .int .i64 t.length ∧ get T 67 = .int .i64 i) ?_ t.length _ _ _ ?_
  case refine_2 => exact ⟨0, _, [], rfl, Nat.zero_le _, rfl, rfl, PtsI.start (H.length + 1) N, by simp (disch := first | rfl | omega | exact lt_new _ | assumption | decide | (simp [tk_here, tk_app, tk_0, tk_S, gr_here, gr_app, gr_0, gr_S] <;> omega) | fail) only [go_sem, ↓reduceIte, Nat.reduceLT, Nat.reduceEqDiff, Nat.reduceAdd, Nat.reduceMul, Nat.reduceSub, Int.reduceAdd, Int.reduceSub, Nat.reduceLeDiff, Int.reduceLT, Int.reduceLE, Int.reduceEq, Int.reduceNeg, Int.reduceToNat]; simp [ha2]⟩
  rintro m T D H' ⟨i, cs, M, rfl, hi, rfl, rfl, hP, t0, t1, t2, t4, t8, t13, t65, t66, t67⟩
  by_cases hlt : i < t.length
  · have hlt' : (i : Int) < t.length := by omega
    have hlv' : (i : Int) < v.length := by omega
    have b1 := hg.t1 _ (inE.at_mem hlt)
    have b2 := hg.idx hlt
    have b3 := idx_last (t := t) (w := w) (f := f) i hlt
    obtain ⟨k, hk⟩ : ∃ k : Nat, idxI t w f i = k := ⟨(idxI t w f i).toNat, by omega⟩
    have hkN : k < N := by omega
    have hkN' : (k : Int) < N := by omega
    have hq : (inE.at t i - f).tdiv w = (k : Int) := hk
    have hpl := part_le t v w f k i
    obtain ⟨u, u', M', e1, e2, ⟨a1, a2, a3, a4, a5, a6, a7⟩, ⟨b1', b2', b3', b4', b5', b6', b7'⟩, hP2⟩ := hP.push (k := k) hkN (inE.at v i) (H ++ [.row 0 cs true]) (by simp) (by omega)
    simp only [List.append_assoc, List.cons_append, List.nil_append] at e2
    have hp := part27 e1
    have hs := set27 (v := u') (cs := cs) (k := k) (by rw [hP.1]; exact hkN)
    have hcl : (cs.set k u').length = N := hP2.1
    have hcl0 : cs.length = N := hP.1
    have hfun : (fun i_1 => if i_1 = k then part t v w f k i ++ [inE.at v i] else part t v w f i_1 i) = fun j => part t v w f j (i + 1) := by
      funext j
      show _ = part t v w f j i ++ if idxI t w f i = j then [inE.at v i] else []
      by_cases hj : j = k
      · rw [if_pos hj, if_pos (by rw [hk, hj]), hj]
      · rw [if_neg hj, if_neg (by omega), List.append_nil]
    have hfun2 : PtsI (H.length + 1) N M' (cs.set k u') (fun j => part t v w f j (i + 1)) := hfun ▸ hP2
    have hk1 : k * 1 + 1 ≤ N := by omega
    simp (disch := first | rfl | omega | exact lt_new _ | assumption | decide | (simp [tk_here, tk_app, tk_0, tk_S, gr_here, gr_app, gr_0, gr_S] <;> omega) | fail) only [l23_19, r23_14, r23_15, r23_16, r23_17, r23_18, loadV_ptr, storeV_ptr, List.append_assoc, List.length_append, List.length_cons, List.length_nil, List.set_cons_zero, List.set_cons_succ, tk_here, tk_app, gr_here, gr_app, st_here, st_app, t0, t1, t2, t4, t8, t13, t65, t66, t67, hlt', hlv', hq, hw0, hkN', e2, hp, hs, a1, a2, a3, a4, a5, a6, a7, b1', b2', b3', b4', b5', b6', b7', hcl0, hk1, Nat.zero_add, go_sem, ↓reduceIte, Nat.reduceLT, Nat.reduceEqDiff, Nat.reduceAdd, Nat.reduceMul, Nat.reduceSub, Int.reduceAdd, Int.reduceSub, Nat.reduceLeDiff, Int.reduceLT, Int.reduceLE, Int.reduceEq, Int.reduceNeg, Int.reduceToNat]
    repeat' ((first | refine guardB_dec (fun hy => ?_) (fun hy => ?_) | refine guardB_bool (fun hy => ?_) (fun hy => ?_) | refine guardQ_ite (fun hy => ?_) (fun hy => ?_) | refine brQ_dec (fun hy => ?_) (fun hy => ?_) | refine brQ_bool (fun hy => ?_) (fun hy => ?_)) <;> (try simp only [Bool.not_eq_true', Bool.not_eq_false', Bool.and_eq_true, Bool.or_eq_false_iff, decide_eq_true_eq, decide_eq_false_iff_not] at hy) <;> simp (disch := first | rfl | omega | exact lt_new _ | assumption | decide | (simp [tk_here, tk_app, tk_0, tk_S, gr_here, gr_app, gr_0, gr_S] <;> omega) | fail) only [l23_19, r23_14, r23_15, r23_16, r23_17, r23_18, loadV_ptr, storeV_ptr, List.append_assoc, List.length_append, List.length_cons, List.length_nil, List.set_cons_zero, List.set_cons_succ, tk_here, tk_app, gr_here, gr_app, st_here, st_app, t0, t1, t2, t4, t8, t13, t65, t66, t67, hlt', hlv', hq, hw0, hkN', e2, hp, hs, a1, a2, a3, a4, a5, a6, a7, b1', b2', b3', b4', b5', b6', b7', hcl0, hk1, Nat.zero_add, go_sem, ↓reduceIte, Nat.reduceLT, Nat.reduceEqDiff, Nat.reduceAdd, Nat.reduceMul, Nat.reduceSub, Int.reduceAdd, Int.reduceSub, Nat.reduceLeDiff, Int.reduceLT, Int.reduceLE, Int.reduceEq, Int.reduceNeg, Int.reduceToNat, hy])
    exact ⟨_, by omega, i + 1, _, _, rfl, hlt, rfl, hfun2, rfl⟩
  · obtain rfl : i = t.length := by omega
    simp (disch := first | rfl | omega | exact lt_new _ | assumption | decide | (simp [tk_here, tk_app, tk_0, tk_S, gr_here, gr_app, gr_0, gr_S] <;> omega) | fail) only [l23_19, r23_14, r23_20, r23_21, loadV_ptr, storeV_ptr, List.append_assoc, List.length_append, List.length_cons, List.length_nil, List.set_cons_zero, List.set_cons_succ, tk_here, tk_app, gr_here, gr_app, st_here, st_app, t0, t1, t2, t4, t8, t13, t65, t66, t67, Int.lt_irrefl, go_sem, ↓reduceIte, Nat.reduceLT, Nat.reduceEqDiff, Nat.reduceAdd, Nat.reduceMul, Nat.reduceSub, Int.reduceAdd, Int.reduceSub, Nat.reduceLeDiff, Int.reduceLT, Int.reduceLE, Int.reduceEq, Int.reduceNeg, Int.reduceToNat]
    repeat' ((first | refine guardB_dec (fun hy => ?_) (fun hy => ?_) | refine guardB_bool (fun hy => ?_) (fun hy => ?_) | refine guardQ_ite (fun hy => ?_) (fun hy => ?_) | refine brQ_dec (fun hy => ?_) (fun hy => ?_) | refine brQ_bool (fun hy => ?_) (fun hy => ?_)) <;> (try simp only [Bool.not_eq_true', Bool.not_eq_false', Bool.and_eq_true, Bool.or_eq_false_iff, decide_eq_true_eq, decide_eq_false_iff_not] at hy) <;> simp (disch := first | rfl | omega | exact lt_new _ | assumption | decide | (simp [tk_here, tk_app, tk_0, tk_S, gr_here, gr_app, gr_0, gr_S] <;> omega) | fail) only [l23_19, r23_14, r23_20, r23_21, loadV_ptr, storeV_ptr, List.append_assoc, List.length_append, List.length_cons, List.length_nil, List.set_cons_zero, List.set_cons_succ, tk_here, tk_app, gr_here, gr_app, st_here, st_app, t0, t1, t2, t4, t8, t13, t65, t66, t67, Int.lt_irrefl, go_sem, ↓reduceIte, Nat.reduceLT, Nat.reduceEqDiff, Nat.reduceAdd, Nat.reduceMul, Nat.reduceSub, Int.reduceAdd, Int.reduceSub, Nat.reduceLeDiff, Int.reduceLT, Int.reduceLE, Int.reduceEq, Int.reduceNeg, Int.reduceToNat, hy])
    refine Wp_loop (fun m T D H' => ∃ k, m = N - k ∧ k ≤ N ∧ D = [] ∧ H' = H ++ .row 0 cs true :: (M ++ [.tok (outs t v w f how t.length k).length]) ∧ get T 4 = .int .i64 how ∧ get T 17 = osV (H.length + (M.length + 1)) inE (outs t v w f how t.length k) ∧ get T 91 = .slice H.length 0 0 N 1 .full ∧ get T 92 = .int .i64 N ∧ get T 93 = .int .i64 k) ?_ N _ _ _ ?_
    case refine_2 =>
      refine ⟨0, rfl, Nat.zero_le _, ?_⟩
      simp (disch := first | rfl | omega | exact lt_new _ | assumption | decide | (simp [tk_here, tk_app, tk_0, tk_S, gr_here, gr_app, gr_0, gr_S] <;> omega) | fail) only [go_sem, ↓reduceIte, Nat.reduceLT, Nat.reduceEqDiff, Nat.reduceAdd, Nat.reduceMul, Nat.reduceSub, Int.reduceAdd, Int.reduceSub, Nat.reduceLeDiff, Int.reduceLT, Int.reduceLE, Int.reduceEq, Int.reduceNeg, Int.reduceToNat, t4, t13]
      first | done | simp [outs, osV_nil]
    clear t0 t1 t2 t4 t8 t13 t65 t66 t67
    rintro m T D H' ⟨k, rfl, hk, rfl, rfl, t4, t17, t91, t92, t93⟩
    by_cases hlt : k < N
    · have hkN' : (k : Int) < N := by omega
      obtain ⟨hcl, J, hJ, _⟩ := id hP
      obtain ⟨u, e1, hpj⟩ := hJ k hlt
      obtain ⟨a1, a2, a3, a4, a5, a6, a7⟩ := hpj.cel
      have hL := (hpj.lst (A := H ++ [.row 0 cs true]) (by simp)).app [.tok (outs t v w f how t.length k).length]
      simp only [List.append_assoc, List.cons_append, List.nil_append] at hL
      obtain ⟨A2, hA2⟩ := SqE_of hL
      have h71 := fn71 hA2 (hg.sml t.length (Nat.le_refl _)) how ⟨hg.h0, hg.h4⟩
      have hp := part27 e1
      have hol := outs_len t v w f how t.length k
      have hon : outs t v w f how t.length (k + 1) = outs t v w f how t.length k ++ [intv (part t v w f k t.length) how] := rfl
      simp (disch := first | rfl | omega | exact lt_new _ | assumption | decide | (simp [tk_here, tk_app, tk_0, tk_S, gr_here, gr_app, gr_0, gr_S] <;> omega) | fail) only [l23_26, r23_22, r23_23, r23_24, r23_25, loadV_ptr, storeV_ptr, List.append_assoc, List.length_append, List.length_cons, List.length_nil, List.set_cons_zero, List.set_cons_succ, tk_here, tk_app, gr_here, gr_app, st_here, st_app, t4, t17, t91, t92, t93, hkN', hp, a1, a2, a3, a4, a5, a6, a7, h71, Nat.zero_add, go_sem, ↓reduceIte, Nat.reduceLT, Nat.reduceEqDiff, Nat.reduceAdd, Nat.reduceMul, Nat.reduceSub, Int.reduceAdd, Int.reduceSub, Nat.reduceLeDiff, Int.reduceLT, Int.reduceLE, Int.reduceEq, Int.reduceNeg, Int.reduceToNat]
      repeat' ((first | refine guardB_dec (fun hy => ?_) (fun hy => ?_) | refine guardB_bool (fun hy => ?_) (fun hy => ?_) | refine guardQ_ite (fun hy => ?_) (fun hy => ?_) | refine brQ_dec (fun hy => ?_) (fun hy => ?_) | refine brQ_bool (fun hy => ?_) (fun hy => ?_)) <;> (try simp only [Bool.not_eq_true', Bool.not_eq_false', Bool.and_eq_true, Bool.or_eq_false_iff, decide_eq_true_eq, decide_eq_false_iff_not] at hy) <;> simp (disch := first | rfl | omega | exact lt_new _ | assumption | decide | (simp [tk_here, tk_app, tk_0, tk_S, gr_here, gr_app, gr_0, gr_S] <;> omega) | fail) only [l23_26, r23_22, r23_23, r23_24, r23_25, loadV_ptr, storeV_ptr, List.append_assoc, List.length_append, List.length_cons, List.length_nil, List.set_cons_zero, List.set_cons_succ, tk_here, tk_app, gr_here, gr_app, st_here, st_app, t4, t17, t91, t92, t93, hkN', hp, a1, a2, a3, a4, a5, a6, a7, h71, Nat.zero_add, go_sem, ↓reduceIte, Nat.reduceLT, Nat.reduceEqDiff, Nat.reduceAdd, Nat.reduceMul, Nat.reduceSub, Int.reduceAdd, Int.reduceSub, Nat.reduceLeDiff, Int.reduceLT, Int.reduceLE, Int.reduceEq, Int.reduceNeg, Int.reduceToNat, hy])
      exact ⟨_, by omega, k + 1, rfl, hlt, by rw [hon, List.length_append]; rfl, by rw [hon], rfl⟩
    · obtain rfl : k = N := by omega
      simp (disch := first | rfl | omega | exact lt_new _ | assumption | decide | (simp [tk_here, tk_app, tk_0, tk_S, gr_here, gr_app, gr_0, gr_S] <;> omega) | fail) only [l23_26, r23_22, r23_27, rs23, gc23, loadV_ptr, storeV_ptr, List.append_assoc, List.length_append, List.length_cons, List.length_nil, List.set_cons_zero, List.set_cons_succ, tk_here, tk_app, gr_here, gr_app, st_here, st_app, t4, t17, t91, t92, t93, Int.lt_irrefl, go_sem, ↓reduceIte, Nat.reduceLT, Nat.reduceEqDiff, Nat.reduceAdd, Nat.reduceMul, Nat.reduceSub, Int.reduceAdd, Int.reduceSub, Nat.reduceLeDiff, Int.reduceLT, Int.reduceLE, Int.reduceEq, Int.reduceNeg, Int.reduceToNat]
      repeat' ((first | refine guardB_dec (fun hy => ?_) (fun hy => ?_) | refine guardB_bool (fun hy => ?_) (fun hy => ?_) | refine guardQ_ite (fun hy => ?_) (fun hy => ?_) | refine brQ_dec (fun hy => ?_) (fun hy => ?_) | refine brQ_bool (fun hy => ?_) (fun hy => ?_)) <;> (try simp only [Bool.not_eq_true', Bool.not_eq_false', Bool.and_eq_true, Bool.or_eq_false_iff, decide_eq_true_eq, decide_eq_false_iff_not] at hy) <;> simp (disch := first | rfl | omega | exact lt_new _ | assumption | decide | (simp [tk_here, tk_app, tk_0, tk_S, gr_here, gr_app, gr_0, gr_S] <;> omega) | fail) only [l23_26, r23_22, r23_27, rs23, gc23, loadV_ptr, storeV_ptr, List.append_assoc, List.length_append, List.length_cons, List.length_nil, List.set_cons_zero, List.set_cons_succ, tk_here, tk_app, gr_here, gr_app, st_here, st_app, t4, t17, t91, t92, t93, Int.lt_irrefl, go_sem, ↓reduceIte, Nat.reduceLT, Nat.reduceEqDiff, Nat.reduceAdd, Nat.reduceMul, Nat.reduceSub, Int.reduceAdd, Int.reduceSub, Nat.reduceLeDiff, Int.reduceLT, Int.reduceLE, Int.reduceEq, Int.reduceNeg, Int.reduceToNat, hy])
      refine finQ_app ?_
      simp (disch := first | rfl | omega | exact lt_new _ | assumption | decide | (simp [tk_here, tk_app, tk_0, tk_S, gr_here, gr_app, gr_0, gr_S] <;> omega) | fail) only [go_sem, ↓reduceIte, Nat.reduceLT, Nat.reduceEqDiff, Nat.reduceAdd, Nat.reduceMul, Nat.reduceSub, Int.reduceAdd, Int.reduceSub, Nat.reduceLeDiff, Int.reduceLT, Int.reduceLE, Int.reduceEq, Int.reduceNeg, Int.reduceToNat]
end Go.Proofs.YteeofpgnjekeaaaGreatDoor
/-
  Values in intervals, as the reference has them; walked. No statement of the seat stands here.
-/
namespace Go.Proofs.YteeofpgnjekeaaaGreatDoor
open Go Go.An
set_option maxRecDepth 4000
set_option linter.unusedSimpArgs false
set_option linter.unusedVariables false

theorem any_of_at {l : List Int} {p : Int → Bool} {i : Nat} (hi : i < l.length) (h : p (inE.at l i) = true) : l.any p = true := List.any_eq_true.2 ⟨_, inE.at_mem hi, h⟩
theorem any_no {l : List Int} {p : Int → Bool} (h : ∀ i < l.length, p (inE.at l i) = false) : l.any p = false := by
  rw [List.any_eq_false]
  intro x hx
  obtain ⟨j, hj, rfl⟩ := List.mem_iff_getElem.1 hx
  have := h j hj
  have e : inE.at l j = l[j] := by simp [Enc.at, List.getD, hj]
  rw [e] at this
  simp [this]
set_option maxHeartbeats 16000000 in
theorem fn24 (bt bv : Bool) (t v : List Int) (w f how : Int) (h1 : t.length ≤ 2 ^ 48) (h2 : v.length ≤ 2 ^ 48) (H : Hp) : callL Tryz.prog pr 24 [slV bt inE t, slV bv inE v, .int .i64 w, .int .i64 f, .int .i64 how] H = some (.tup [slV true inE (ivF t v w f how).1, .int .i64 (ivF t v w f how).2], H) := by
  have h58 := fn58
  refine run24 (Nat.le_of_ble_eq_true rfl) ?_
  unfold ivF
  by_cases ha : t.length = v.length
  case neg =>
    rw [if_pos ha]
    have ha2 : ¬ ((t.length : Int) = v.length) := by omega
    simp (disch := first | rfl | omega | exact lt_new _ | assumption | decide | (simp [tk_here, tk_app, tk_0, tk_S, gr_here, gr_app, gr_0, gr_S] <;> omega) | fail) only [r24_0, r24_1, r24_2, r24_3, r24_4, r24_5, r24_6, r24_7, r24_8, r24_9, r24_10, r24_11, r24_12, r24_13, r24_15, r24_16, r24_17, r24_18, r24_19, r24_20, r24_21, r24_22, r24_23, r24_24, r24_25, r24_27, r24_28, r24_30, c24, rs24, gc24, ha2, slV_nil, go_sem, ↓reduceIte, Nat.reduceLT, Nat.reduceEqDiff, Nat.reduceAdd, Nat.reduceMul, Nat.reduceSub, Int.reduceAdd, Int.reduceSub, Nat.reduceLeDiff, Int.reduceLT, Int.reduceLE, Int.reduceEq, Int.reduceNeg, Int.reduceToNat]
    repeat' ((first | refine guardB_dec (fun hy => ?_) (fun hy => ?_) | refine guardB_bool (fun hy => ?_) (fun hy => ?_) | refine guardQ_ite (fun hy => ?_) (fun hy => ?_) | refine brQ_dec (fun hy => ?_) (fun hy => ?_) | refine brQ_bool (fun hy => ?_) (fun hy => ?_)) <;> (try simp only [Bool.not_eq_true', Bool.not_eq_false', Bool.and_eq_true, Bool.or_eq_false_iff, decide_eq_true_eq, decide_eq_false_iff_not] at hy) <;> simp (disch := first | rfl | omega | exact lt_new _ | assumption | decide | (simp [tk_here, tk_app, tk_0, tk_S, gr_here, gr_app, gr_0, gr_S] <;> omega) | fail) only [r24_0, r24_1, r24_2, r24_3, r24_4, r24_5, r24_6, r24_7, r24_8, r24_9, r24_10, r24_11, r24_12, r24_13, r24_15, r24_16, r24_17, r24_18, r24_19, r24_20, r24_21, r24_22, r24_23, r24_24, r24_25, r24_27, r24_28, r24_30, c24, rs24, gc24, ha2, slV_nil, go_sem, ↓reduceIte, Nat.reduceLT, Nat.reduceEqDiff, Nat.reduceAdd, Nat.reduceMul, Nat.reduceSub, Int.reduceAdd, Int.reduceSub, Nat.reduceLeDiff, Int.reduceLT, Int.reduceLE, Int.reduceEq, Int.reduceNeg, Int.reduceToNat, hy])
    all_goals (try ((first | refine finQ_same ?_ | refine finQ_app ?_ | (rw [List.append_assoc]; refine finQ_app ?_)) <;> simp (disch := first | rfl | omega | exact lt_new _ | assumption | decide | (simp [tk_here, tk_app, tk_0, tk_S, gr_here, gr_app, gr_0, gr_S] <;> omega) | fail) only [go_sem, ↓reduceIte, Nat.reduceLT, Nat.reduceEqDiff, Nat.reduceAdd, Nat.reduceMul, Nat.reduceSub, Int.reduceAdd, Int.reduceSub, Nat.reduceLeDiff, Int.reduceLT, Int.reduceLE, Int.reduceEq, Int.reduceNeg, Int.reduceToNat, List.append_assoc, List.cons_append, List.nil_append, *]))
    all_goals (try first | rfl | (simp [*]; done) | grind)
  rw [if_neg (fun h => h ha)]
  have ha2 : (t.length : Int) = v.length := by omega
  by_cases hb : 200 < t.length
  case pos =>
    rw [if_pos hb]
    have hb2 : (200 : Int) < v.length := by omega
    simp (disch := first | rfl | omega | exact lt_new _ | assumption | decide | (simp [tk_here, tk_app, tk_0, tk_S, gr_here, gr_app, gr_0, gr_S] <;> omega) | fail) only [r24_0, r24_1, r24_2, r24_3, r24_4, r24_5, r24_6, r24_7, r24_8, r24_9, r24_10, r24_11, r24_12, r24_13, r24_15, r24_16, r24_17, r24_18, r24_19, r24_20, r24_21, r24_22, r24_23, r24_24, r24_25, r24_27, r24_28, r24_30, c24, rs24, gc24, ha2, hb2, slV_nil, go_sem, ↓reduceIte, Nat.reduceLT, Nat.reduceEqDiff, Nat.reduceAdd, Nat.reduceMul, Nat.reduceSub, Int.reduceAdd, Int.reduceSub, Nat.reduceLeDiff, Int.reduceLT, Int.reduceLE, Int.reduceEq, Int.reduceNeg, Int.reduceToNat]
    repeat' ((first | refine guardB_dec (fun hy => ?_) (fun hy => ?_) | refine guardB_bool (fun hy => ?_) (fun hy => ?_) | refine guardQ_ite (fun hy => ?_) (fun hy => ?_) | refine brQ_dec (fun hy => ?_) (fun hy => ?_) | refine brQ_bool (fun hy => ?_) (fun hy => ?_)) <;> (try simp only [Bool.not_eq_true', Bool.not_eq_false', Bool.and_eq_true, Bool.or_eq_false_iff, decide_eq_true_eq, decide_eq_false_iff_not] at hy) <;> simp (disch := first | rfl | omega | exact lt_new _ | assumption | decide | (simp [tk_here, tk_app, tk_0, tk_S, gr_here, gr_app, gr_0, gr_S] <;> omega) | fail) only [r24_0, r24_1, r24_2, r24_3, r24_4, r24_5, r24_6, r24_7, r24_8, r24_9, r24_10, r24_11, r24_12, r24_13, r24_15, r24_16, r24_17, r24_18, r24_19, r24_20, r24_21, r24_22, r24_23, r24_24, r24_25, r24_27, r24_28, r24_30, c24, rs24, gc24, ha2, hb2, slV_nil, go_sem, ↓reduceIte, Nat.reduceLT, Nat.reduceEqDiff, Nat.reduceAdd, Nat.reduceMul, Nat.reduceSub, Int.reduceAdd, Int.reduceSub, Nat.reduceLeDiff, Int.reduceLT, Int.reduceLE, Int.reduceEq, Int.reduceNeg, Int.reduceToNat, hy])
    all_goals (try ((first | refine finQ_same ?_ | refine finQ_app ?_ | (rw [List.append_assoc]; refine finQ_app ?_)) <;> simp (disch := first | rfl | omega | exact lt_new _ | assumption | decide | (simp [tk_here, tk_app, tk_0, tk_S, gr_here, gr_app, gr_0, gr_S] <;> omega) | fail) only [go_sem, ↓reduceIte, Nat.reduceLT, Nat.reduceEqDiff, Nat.reduceAdd, Nat.reduceMul, Nat.reduceSub, Int.reduceAdd, Int.reduceSub, Nat.reduceLeDiff, Int.reduceLT, Int.reduceLE, Int.reduceEq, Int.reduceNeg, Int.reduceToNat, List.append_assoc, List.cons_append, List.nil_append, *]))
    all_goals (try first | rfl | (simp [*]; done) | grind)
  rw [if_neg hb]
  have hb2 : ¬ (200 : Int) < v.length := by omega
  by_cases c1 : w < 1
  case pos =>
    rw [if_pos (.inl (by simp [argB, c1]))]
    simp (disch := first | rfl | omega | exact lt_new _ | assumption | decide | (simp [tk_here, tk_app, tk_0, tk_S, gr_here, gr_app, gr_0, gr_S] <;> omega) | fail) only [r24_0, r24_1, r24_2, r24_3, r24_4, r24_5, r24_6, r24_7, r24_8, r24_9, r24_10, r24_11, r24_12, r24_13, r24_15, r24_16, r24_17, r24_18, r24_19, r24_20, r24_21, r24_22, r24_23, r24_24, r24_25, r24_27, r24_28, r24_30, c24, rs24, gc24, ha2, hb2, c1, slV_nil, go_sem, ↓reduceIte, Nat.reduceLT, Nat.reduceEqDiff, Nat.reduceAdd, Nat.reduceMul, Nat.reduceSub, Int.reduceAdd, Int.reduceSub, Nat.reduceLeDiff, Int.reduceLT, Int.reduceLE, Int.reduceEq, Int.reduceNeg, Int.reduceToNat]
    repeat' ((first | refine guardB_dec (fun hy => ?_) (fun hy => ?_) | refine guardB_bool (fun hy => ?_) (fun hy => ?_) | refine guardQ_ite (fun hy => ?_) (fun hy => ?_) | refine brQ_dec (fun hy => ?_) (fun hy => ?_) | refine brQ_bool (fun hy => ?_) (fun hy => ?_)) <;> (try simp only [Bool.not_eq_true', Bool.not_eq_false', Bool.and_eq_true, Bool.or_eq_false_iff, decide_eq_true_eq, decide_eq_false_iff_not] at hy) <;> simp (disch := first | rfl | omega | exact lt_new _ | assumption | decide | (simp [tk_here, tk_app, tk_0, tk_S, gr_here, gr_app, gr_0, gr_S] <;> omega) | fail) only [r24_0, r24_1, r24_2, r24_3, r24_4, r24_5, r24_6, r24_7, r24_8, r24_9, r24_10, r24_11, r24_12, r24_13, r24_15, r24_16, r24_17, r24_18, r24_19, r24_20, r24_21, r24_22, r24_23, r24_24, r24_25, r24_27, r24_28, r24_30, c24, rs24, gc24, ha2, hb2, c1, slV_nil, go_sem, ↓reduceIte, Nat.reduceLT, Nat.reduceEqDiff, Nat.reduceAdd, Nat.reduceMul, Nat.reduceSub, Int.reduceAdd, Int.reduceSub, Nat.reduceLeDiff, Int.reduceLT, Int.reduceLE, Int.reduceEq, Int.reduceNeg, Int.reduceToNat, hy])
    all_goals (try ((first | refine finQ_same ?_ | refine finQ_app ?_ | (rw [List.append_assoc]; refine finQ_app ?_)) <;> simp (disch := first | rfl | omega | exact lt_new _ | assumption | decide | (simp [tk_here, tk_app, tk_0, tk_S, gr_here, gr_app, gr_0, gr_S] <;> omega) | fail) only [go_sem, ↓reduceIte, Nat.reduceLT, Nat.reduceEqDiff, Nat.reduceAdd, Nat.reduceMul, Nat.reduceSub, Int.reduceAdd, Int.reduceSub, Nat.reduceLeDiff, Int.reduceLT, Int.reduceLE, Int.reduceEq, Int.reduceNeg, Int.reduceToNat, List.append_assoc, List.cons_append, List.nil_append, *]))
    all_goals (try first | rfl | (simp [*]; done) | grind)
  by_cases c2 : okT f = true
  case neg =>
    rw [Bool.not_eq_true] at c2
    rw [if_pos (.inl (by simp [argB, c2]))]
    simp (disch := first | rfl | omega | exact lt_new _ | assumption | decide | (simp [tk_here, tk_app, tk_0, tk_S, gr_here, gr_app, gr_0, gr_S] <;> omega) | fail) only [r24_0, r24_1, r24_2, r24_3, r24_4, r24_5, r24_6, r24_7, r24_8, r24_9, r24_10, r24_11, r24_12, r24_13, r24_15, r24_16, r24_17, r24_18, r24_19, r24_20, r24_21, r24_22, r24_23, r24_24, r24_25, r24_27, r24_28, r24_30, c24, rs24, gc24, ha2, hb2, c1, h58, c2, slV_nil, go_sem, ↓reduceIte, Nat.reduceLT, Nat.reduceEqDiff, Nat.reduceAdd, Nat.reduceMul, Nat.reduceSub, Int.reduceAdd, Int.reduceSub, Nat.reduceLeDiff, Int.reduceLT, Int.reduceLE, Int.reduceEq, Int.reduceNeg, Int.reduceToNat]
    repeat' ((first | refine guardB_dec (fun hy => ?_) (fun hy => ?_) | refine guardB_bool (fun hy => ?_) (fun hy => ?_) | refine guardQ_ite (fun hy => ?_) (fun hy => ?_) | refine brQ_dec (fun hy => ?_) (fun hy => ?_) | refine brQ_bool (fun hy => ?_) (fun hy => ?_)) <;> (try simp only [Bool.not_eq_true', Bool.not_eq_false', Bool.and_eq_true, Bool.or_eq_false_iff, decide_eq_true_eq, decide_eq_false_iff_not] at hy) <;> simp (disch := first | rfl | omega | exact lt_new _ | assumption | decide | (simp [tk_here, tk_app, tk_0, tk_S, gr_here, gr_app, gr_0, gr_S] <;> omega) | fail) only [r24_0, r24_1, r24_2, r24_3, r24_4, r24_5, r24_6, r24_7, r24_8, r24_9, r24_10, r24_11, r24_12, r24_13, r24_15, r24_16, r24_17, r24_18, r24_19, r24_20, r24_21, r24_22, r24_23, r24_24, r24_25, r24_27, r24_28, r24_30, c24, rs24, gc24, ha2, hb2, c1, h58, c2, slV_nil, go_sem, ↓reduceIte, Nat.reduceLT, Nat.reduceEqDiff, Nat.reduceAdd, Nat.reduceMul, Nat.reduceSub, Int.reduceAdd, Int.reduceSub, Nat.reduceLeDiff, Int.reduceLT, Int.reduceLE, Int.reduceEq, Int.reduceNeg, Int.reduceToNat, hy])
    all_goals (try ((first | refine finQ_same ?_ | refine finQ_app ?_ | (rw [List.append_assoc]; refine finQ_app ?_)) <;> simp (disch := first | rfl | omega | exact lt_new _ | assumption | decide | (simp [tk_here, tk_app, tk_0, tk_S, gr_here, gr_app, gr_0, gr_S] <;> omega) | fail) only [go_sem, ↓reduceIte, Nat.reduceLT, Nat.reduceEqDiff, Nat.reduceAdd, Nat.reduceMul, Nat.reduceSub, Int.reduceAdd, Int.reduceSub, Nat.reduceLeDiff, Int.reduceLT, Int.reduceLE, Int.reduceEq, Int.reduceNeg, Int.reduceToNat, List.append_assoc, List.cons_append, List.nil_append, *]))
    all_goals (try first | rfl | (simp [*]; done) | grind)
  by_cases c3 : how < 0
  case pos =>
    rw [if_pos (.inl (by simp [argB, c3]))]
    simp (disch := first | rfl | omega | exact lt_new _ | assumption | decide | (simp [tk_here, tk_app, tk_0, tk_S, gr_here, gr_app, gr_0, gr_S] <;> omega) | fail) only [r24_0, r24_1, r24_2, r24_3, r24_4, r24_5, r24_6, r24_7, r24_8, r24_9, r24_10, r24_11, r24_12, r24_13, r24_15, r24_16, r24_17, r24_18, r24_19, r24_20, r24_21, r24_22, r24_23, r24_24, r24_25, r24_27, r24_28, r24_30, c24, rs24, gc24, ha2, hb2, c1, h58, c2, c3, slV_nil, go_sem, ↓reduceIte, Nat.reduceLT, Nat.reduceEqDiff, Nat.reduceAdd, Nat.reduceMul, Nat.reduceSub, Int.reduceAdd, Int.reduceSub, Nat.reduceLeDiff, Int.reduceLT, Int.reduceLE, Int.reduceEq, Int.reduceNeg, Int.reduceToNat]
    repeat' ((first | refine guardB_dec (fun hy => ?_) (fun hy => ?_) | refine guardB_bool (fun hy => ?_) (fun hy => ?_) | refine guardQ_ite (fun hy => ?_) (fun hy => ?_) | refine brQ_dec (fun hy => ?_) (fun hy => ?_) | refine brQ_bool (fun hy => ?_) (fun hy => ?_)) <;> (try simp only [Bool.not_eq_true', Bool.not_eq_false', Bool.and_eq_true, Bool.or_eq_false_iff, decide_eq_true_eq, decide_eq_false_iff_not] at hy) <;> simp (disch := first | rfl | omega | exact lt_new _ | assumption | decide | (simp [tk_here, tk_app, tk_0, tk_S, gr_here, gr_app, gr_0, gr_S] <;> omega) | fail) only [r24_0, r24_1, r24_2, r24_3, r24_4, r24_5, r24_6, r24_7, r24_8, r24_9, r24_10, r24_11, r24_12, r24_13, r24_15, r24_16, r24_17, r24_18, r24_19, r24_20, r24_21, r24_22, r24_23, r24_24, r24_25, r24_27, r24_28, r24_30, c24, rs24, gc24, ha2, hb2, c1, h58, c2, c3, slV_nil, go_sem, ↓reduceIte, Nat.reduceLT, Nat.reduceEqDiff, Nat.reduceAdd, Nat.reduceMul, Nat.reduceSub, Int.reduceAdd, Int.reduceSub, Nat.reduceLeDiff, Int.reduceLT, Int.reduceLE, Int.reduceEq, Int.reduceNeg, Int.reduceToNat, hy])
    all_goals (try ((first | refine finQ_same ?_ | refine finQ_app ?_ | (rw [List.append_assoc]; refine finQ_app ?_)) <;> simp (disch := first | rfl | omega | exact lt_new _ | assumption | decide | (simp [tk_here, tk_app, tk_0, tk_S, gr_here, gr_app, gr_0, gr_S] <;> omega) | fail) only [go_sem, ↓reduceIte, Nat.reduceLT, Nat.reduceEqDiff, Nat.reduceAdd, Nat.reduceMul, Nat.reduceSub, Int.reduceAdd, Int.reduceSub, Nat.reduceLeDiff, Int.reduceLT, Int.reduceLE, Int.reduceEq, Int.reduceNeg, Int.reduceToNat, List.append_assoc, List.cons_append, List.nil_append, *]))
    all_goals (try first | rfl | (simp [*]; done) | grind)
  by_cases c4 : 4 < how
  case pos =>
    rw [if_pos (.inl (by simp [argB, c4]))]
    simp (disch := first | rfl | omega | exact lt_new _ | assumption | decide | (simp [tk_here, tk_app, tk_0, tk_S, gr_here, gr_app, gr_0, gr_S] <;> omega) | fail) only [r24_0, r24_1, r24_2, r24_3, r24_4, r24_5, r24_6, r24_7, r24_8, r24_9, r24_10, r24_11, r24_12, r24_13, r24_15, r24_16, r24_17, r24_18, r24_19, r24_20, r24_21, r24_22, r24_23, r24_24, r24_25, r24_27, r24_28, r24_30, c24, rs24, gc24, ha2, hb2, c1, h58, c2, c3, c4, slV_nil, go_sem, ↓reduceIte, Nat.reduceLT, Nat.reduceEqDiff, Nat.reduceAdd, Nat.reduceMul, Nat.reduceSub, Int.reduceAdd, Int.reduceSub, Nat.reduceLeDiff, Int.reduceLT, Int.reduceLE, Int.reduceEq, Int.reduceNeg, Int.reduceToNat]
    repeat' ((first | refine guardB_dec (fun hy => ?_) (fun hy => ?_) | refine guardB_bool (fun hy => ?_) (fun hy => ?_) | refine guardQ_ite (fun hy => ?_) (fun hy => ?_) | refine brQ_dec (fun hy => ?_) (fun hy => ?_) | refine brQ_bool (fun hy => ?_) (fun hy => ?_)) <;> (try simp only [Bool.not_eq_true', Bool.not_eq_false', Bool.and_eq_true, Bool.or_eq_false_iff, decide_eq_true_eq, decide_eq_false_iff_not] at hy) <;> simp (disch := first | rfl | omega | exact lt_new _ | assumption | decide | (simp [tk_here, tk_app, tk_0, tk_S, gr_here, gr_app, gr_0, gr_S] <;> omega) | fail) only [r24_0, r24_1, r24_2, r24_3, r24_4, r24_5, r24_6, r24_7, r24_8, r24_9, r24_10, r24_11, r24_12, r24_13, r24_15, r24_16, r24_17, r24_18, r24_19, r24_20, r24_21, r24_22, r24_23, r24_24, r24_25, r24_27, r24_28, r24_30, c24, rs24, gc24, ha2, hb2, c1, h58, c2, c3, c4, slV_nil, go_sem, ↓reduceIte, Nat.reduceLT, Nat.reduceEqDiff, Nat.reduceAdd, Nat.reduceMul, Nat.reduceSub, Int.reduceAdd, Int.reduceSub, Nat.reduceLeDiff, Int.reduceLT, Int.reduceLE, Int.reduceEq, Int.reduceNeg, Int.reduceToNat, hy])
    all_goals (try ((first | refine finQ_same ?_ | refine finQ_app ?_ | (rw [List.append_assoc]; refine finQ_app ?_)) <;> simp (disch := first | rfl | omega | exact lt_new _ | assumption | decide | (simp [tk_here, tk_app, tk_0, tk_S, gr_here, gr_app, gr_0, gr_S] <;> omega) | fail) only [go_sem, ↓reduceIte, Nat.reduceLT, Nat.reduceEqDiff, Nat.reduceAdd, Nat.reduceMul, Nat.reduceSub, Int.reduceAdd, Int.reduceSub, Nat.reduceLeDiff, Int.reduceLT, Int.reduceLE, Int.reduceEq, Int.reduceNeg, Int.reduceToNat, List.append_assoc, List.cons_append, List.nil_append, *]))
    all_goals (try first | rfl | (simp [*]; done) | grind)
  have hf : 0 ≤ f ∧ f ≤ 1000000000000000 := by simpa [okT] using c2
  have hw0 : ¬ w = 0 := by omega
  simp (disch := first | rfl | omega | exact lt_new _ | assumption | decide | (simp [tk_here, tk_app, tk_0, tk_S, gr_here, gr_app, gr_0, gr_S] <;> omega) | fail) only [r24_0, r24_1, r24_2, r24_3, r24_4, r24_5, r24_6, r24_7, r24_8, r24_9, r24_10, r24_11, r24_12, r24_13, r24_15, r24_16, r24_17, r24_18, r24_19, r24_20, r24_21, r24_22, r24_23, r24_24, r24_25, r24_27, r24_28, r24_30, c24, rs24, gc24, ha2, hb2, c1, h58, c2, c3, c4, go_sem, ↓reduceIte, Nat.reduceLT, Nat.reduceEqDiff, Nat.reduceAdd, Nat.reduceMul, Nat.reduceSub, Int.reduceAdd, Int.reduceSub, Nat.reduceLeDiff, Int.reduceLT, Int.reduceLE, Int.reduceEq, Int.reduceNeg, Int.reduceToNat]
  repeat' ((first | refine guardB_dec (fun hy => ?_) (fun hy => ?_) | refine guardB_bool (fun hy => ?_) (fun hy => ?_) | refine guardQ_ite (fun hy => ?_) (fun hy => ?_) | refine brQ_dec (fun hy => ?_) (fun hy => ?_) | refine brQ_bool (fun hy => ?_) (fun hy => ?_)) <;> (try simp only [Bool.not_eq_true', Bool.not_eq_false', Bool.and_eq_true, Bool.or_eq_false_iff, decide_eq_true_eq, decide_eq_false_iff_not] at hy) <;> simp (disch := first | rfl | omega | exact lt_new _ | assumption | decide | (simp [tk_here, tk_app, tk_0, tk_S, gr_here, gr_app, gr_0, gr_S] <;> omega) | fail) only [r24_0, r24_1, r24_2, r24_3, r24_4, r24_5, r24_6, r24_7, r24_8, r24_9, r24_10, r24_11, r24_12, r24_13, r24_15, r24_16, r24_17, r24_18, r24_19, r24_20, r24_21, r24_22, r24_23, r24_24, r24_25, r24_27, r24_28, r24_30, c24, rs24, gc24, ha2, hb2, c1, h58, c2, c3, c4, go_sem, ↓reduceIte, Nat.reduceLT, Nat.reduceEqDiff, Nat.reduceAdd, Nat.reduceMul, Nat.reduceSub, Int.reduceAdd, Int.reduceSub, Nat.reduceLeDiff, Int.reduceLT, Int.reduceLE, Int.reduceEq, Int.reduceNeg, Int.reduceToNat, hy])
  refine Wp_loop (fun m T D H' => ∃ i, m = t.length - i ∧ i ≤ t.length ∧ D = [] ∧ H' = H ∧ get T 0 = slV bt inE t ∧ get T 1 = slV bv inE v ∧ get T 2 = .int .i64 w ∧ get T 3 = .int .i64 f ∧ get T 4 = .int .i64 how ∧ get T 12 = .int .i64 (lastI t w f i) ∧ get T 13 = .int .i64 i ∧ (-1 ≤ lastI t w f i ∧ lastI t w f i ≤ 1000000000000000) ∧ (∀ j < i, badI f (inE.at t j) = false ∧ badV (inE.at v j) = false)) ?_ t.length _ _ _ ?_
  case refine_2 => exact ⟨0, by simp (disch := first | rfl | omega | exact lt_new _ | assumption | decide | (simp [tk_here, tk_app, tk_0, tk_S, gr_here, gr_app, gr_0, gr_S] <;> omega) | fail) only [go_sem, ↓reduceIte, Nat.reduceLT, Nat.reduceEqDiff, Nat.reduceAdd, Nat.reduceMul, Nat.reduceSub, Int.reduceAdd, Int.reduceSub, Nat.reduceLeDiff, Int.reduceLT, Int.reduceLE, Int.reduceEq, Int.reduceNeg, Int.reduceToNat]; simp [lastI]⟩
  rintro m T D H' ⟨i, rfl, hi, rfl, rfl, t0, t1, t2, t3, t4, t12, t13, hlb, hall⟩
  by_cases hlt : i < t.length
  · have hlt' : (i : Int) < t.length := by omega
    have hlv : i < v.length := by omega
    have hlv' : (i : Int) < v.length := by omega
    by_cases q1 : okT (inE.at t i) = true
    case neg =>
      rw [Bool.not_eq_true] at q1
      rw [if_pos (.inr (.inl (any_of_at hlt (by simp [badI, q1]))))]
      simp (disch := first | rfl | omega | exact lt_new _ | assumption | decide | (simp [tk_here, tk_app, tk_0, tk_S, gr_here, gr_app, gr_0, gr_S] <;> omega) | fail) only [l24_14, r24_9, r24_10, r24_11, rs24, gc24, t0, t1, t2, t3, t4, t12, t13, hlt', hlv', h58, q1, slV_nil, go_sem, ↓reduceIte, Nat.reduceLT, Nat.reduceEqDiff, Nat.reduceAdd, Nat.reduceMul, Nat.reduceSub, Int.reduceAdd, Int.reduceSub, Nat.reduceLeDiff, Int.reduceLT, Int.reduceLE, Int.reduceEq, Int.reduceNeg, Int.reduceToNat]
      repeat' ((first | refine guardB_dec (fun hy => ?_) (fun hy => ?_) | refine guardB_bool (fun hy => ?_) (fun hy => ?_) | refine guardQ_ite (fun hy => ?_) (fun hy => ?_) | refine brQ_dec (fun hy => ?_) (fun hy => ?_) | refine brQ_bool (fun hy => ?_) (fun hy => ?_)) <;> (try simp only [Bool.not_eq_true', Bool.not_eq_false', Bool.and_eq_true, Bool.or_eq_false_iff, decide_eq_true_eq, decide_eq_false_iff_not] at hy) <;> simp (disch := first | rfl | omega | exact lt_new _ | assumption | decide | (simp [tk_here, tk_app, tk_0, tk_S, gr_here, gr_app, gr_0, gr_S] <;> omega) | fail) only [l24_14, r24_9, r24_10, r24_11, rs24, gc24, t0, t1, t2, t3, t4, t12, t13, hlt', hlv', h58, q1, slV_nil, go_sem, ↓reduceIte, Nat.reduceLT, Nat.reduceEqDiff, Nat.reduceAdd, Nat.reduceMul, Nat.reduceSub, Int.reduceAdd, Int.reduceSub, Nat.reduceLeDiff, Int.reduceLT, Int.reduceLE, Int.reduceEq, Int.reduceNeg, Int.reduceToNat, hy])
      all_goals (try ((first | refine finQ_same ?_ | refine finQ_app ?_ | (rw [List.append_assoc]; refine finQ_app ?_)) <;> simp (disch := first | rfl | omega | exact lt_new _ | assumption | decide | (simp [tk_here, tk_app, tk_0, tk_S, gr_here, gr_app, gr_0, gr_S] <;> omega) | fail) only [go_sem, ↓reduceIte, Nat.reduceLT, Nat.reduceEqDiff, Nat.reduceAdd, Nat.reduceMul, Nat.reduceSub, Int.reduceAdd, Int.reduceSub, Nat.reduceLeDiff, Int.reduceLT, Int.reduceLE, Int.reduceEq, Int.reduceNeg, Int.reduceToNat, List.append_assoc, List.cons_append, List.nil_append, *]))
      all_goals (try first | rfl | (simp [*]; done) | grind)
    by_cases q2 : inE.at t i < f
    case pos =>
      rw [if_pos (.inr (.inl (any_of_at hlt (by simp [badI]; exact .inr q2))))]
      simp (disch := first | rfl | omega | exact lt_new _ | assumption | decide | (simp [tk_here, tk_app, tk_0, tk_S, gr_here, gr_app, gr_0, gr_S] <;> omega) | fail) only [l24_14, r24_9, r24_10, r24_11, rs24, gc24, t0, t1, t2, t3, t4, t12, t13, hlt', hlv', h58, q1, q2, slV_nil, go_sem, ↓reduceIte, Nat.reduceLT, Nat.reduceEqDiff, Nat.reduceAdd, Nat.reduceMul, Nat.reduceSub, Int.reduceAdd, Int.reduceSub, Nat.reduceLeDiff, Int.reduceLT, Int.reduceLE, Int.reduceEq, Int.reduceNeg, Int.reduceToNat]
      repeat' ((first | refine guardB_dec (fun hy => ?_) (fun hy => ?_) | refine guardB_bool (fun hy => ?_) (fun hy => ?_) | refine guardQ_ite (fun hy => ?_) (fun hy => ?_) | refine brQ_dec (fun hy => ?_) (fun hy => ?_) | refine brQ_bool (fun hy => ?_) (fun hy => ?_)) <;> (try simp only [Bool.not_eq_true', Bool.not_eq_false', Bool.and_eq_true, Bool.or_eq_false_iff, decide_eq_true_eq, decide_eq_false_iff_not] at hy) <;> simp (disch := first | rfl | omega | exact lt_new _ | assumption | decide | (simp [tk_here, tk_app, tk_0, tk_S, gr_here, gr_app, gr_0, gr_S] <;> omega) | fail) only [l24_14, r24_9, r24_10, r24_11, rs24, gc24, t0, t1, t2, t3, t4, t12, t13, hlt', hlv', h58, q1, q2, slV_nil, go_sem, ↓reduceIte, Nat.reduceLT, Nat.reduceEqDiff, Nat.reduceAdd, Nat.reduceMul, Nat.reduceSub, Int.reduceAdd, Int.reduceSub, Nat.reduceLeDiff, Int.reduceLT, Int.reduceLE, Int.reduceEq, Int.reduceNeg, Int.reduceToNat, hy])
      all_goals (try ((first | refine finQ_same ?_ | refine finQ_app ?_ | (rw [List.append_assoc]; refine finQ_app ?_)) <;> simp (disch := first | rfl | omega | exact lt_new _ | assumption | decide | (simp [tk_here, tk_app, tk_0, tk_S, gr_here, gr_app, gr_0, gr_S] <;> omega) | fail) only [go_sem, ↓reduceIte, Nat.reduceLT, Nat.reduceEqDiff, Nat.reduceAdd, Nat.reduceMul, Nat.reduceSub, Int.reduceAdd, Int.reduceSub, Nat.reduceLeDiff, Int.reduceLT, Int.reduceLE, Int.reduceEq, Int.reduceNeg, Int.reduceToNat, List.append_assoc, List.cons_append, List.nil_append, *]))
      all_goals (try first | rfl | (simp [*]; done) | grind)
    by_cases q3 : 4503599627370 < inE.at v i
    case pos =>
      rw [if_pos (.inr (.inr (any_of_at hlv (by simp [badV, q3]))))]
      simp (disch := first | rfl | omega | exact lt_new _ | assumption | decide | (simp [tk_here, tk_app, tk_0, tk_S, gr_here, gr_app, gr_0, gr_S] <;> omega) | fail) only [l24_14, r24_9, r24_10, r24_11, rs24, gc24, t0, t1, t2, t3, t4, t12, t13, hlt', hlv', h58, q1, q2, q3, slV_nil, go_sem, ↓reduceIte, Nat.reduceLT, Nat.reduceEqDiff, Nat.reduceAdd, Nat.reduceMul, Nat.reduceSub, Int.reduceAdd, Int.reduceSub, Nat.reduceLeDiff, Int.reduceLT, Int.reduceLE, Int.reduceEq, Int.reduceNeg, Int.reduceToNat]
      repeat' ((first | refine guardB_dec (fun hy => ?_) (fun hy => ?_) | refine guardB_bool (fun hy => ?_) (fun hy => ?_) | refine guardQ_ite (fun hy => ?_) (fun hy => ?_) | refine brQ_dec (fun hy => ?_) (fun hy => ?_) | refine brQ_bool (fun hy => ?_) (fun hy => ?_)) <;> (try simp only [Bool.not_eq_true', Bool.not_eq_false', Bool.and_eq_true, Bool.or_eq_false_iff, decide_eq_true_eq, decide_eq_false_iff_not] at hy) <;> simp (disch := first | rfl | omega | exact lt_new _ | assumption | decide | (simp [tk_here, tk_app, tk_0, tk_S, gr_here, gr_app, gr_0, gr_S] <;> omega) | fail) only [l24_14, r24_9, r24_10, r24_11, rs24, gc24, t0, t1, t2, t3, t4, t12, t13, hlt', hlv', h58, q1, q2, q3, slV_nil, go_sem, ↓reduceIte, Nat.reduceLT, Nat.reduceEqDiff, Nat.reduceAdd, Nat.reduceMul, Nat.reduceSub, Int.reduceAdd, Int.reduceSub, Nat.reduceLeDiff, Int.reduceLT, Int.reduceLE, Int.reduceEq, Int.reduceNeg, Int.reduceToNat, hy])
      all_goals (try ((first | refine finQ_same ?_ | refine finQ_app ?_ | (rw [List.append_assoc]; refine finQ_app ?_)) <;> simp (disch := first | rfl | omega | exact lt_new _ | assumption | decide | (simp [tk_here, tk_app, tk_0, tk_S, gr_here, gr_app, gr_0, gr_S] <;> omega) | fail) only [go_sem, ↓reduceIte, Nat.reduceLT, Nat.reduceEqDiff, Nat.reduceAdd, Nat.reduceMul, Nat.reduceSub, Int.reduceAdd, Int.reduceSub, Nat.reduceLeDiff, Int.reduceLT, Int.reduceLE, Int.reduceEq, Int.reduceNeg, Int.reduceToNat, List.append_assoc, List.cons_append, List.nil_append, *]))
      all_goals (try first | rfl | (simp [*]; done) | grind)
    by_cases q4 : inE.at v i < -4503599627370
    case pos =>
      rw [if_pos (.inr (.inr (any_of_at hlv (by simp [badV, q4]))))]
      simp (disch := first | rfl | omega | exact lt_new _ | assumption | decide | (simp [tk_here, tk_app, tk_0, tk_S, gr_here, gr_app, gr_0, gr_S] <;> omega) | fail) only [l24_14, r24_9, r24_10, r24_11, rs24, gc24, t0, t1, t2, t3, t4, t12, t13, hlt', hlv', h58, q1, q2, q3, q4, slV_nil, go_sem, ↓reduceIte, Nat.reduceLT, Nat.reduceEqDiff, Nat.reduceAdd, Nat.reduceMul, Nat.reduceSub, Int.reduceAdd, Int.reduceSub, Nat.reduceLeDiff, Int.reduceLT, Int.reduceLE, Int.reduceEq, Int.reduceNeg, Int.reduceToNat]
      repeat' ((first | refine guardB_dec (fun hy => ?_) (fun hy => ?_) | refine guardB_bool (fun hy => ?_) (fun hy => ?_) | refine guardQ_ite (fun hy => ?_) (fun hy => ?_) | refine brQ_dec (fun hy => ?_) (fun hy => ?_) | refine brQ_bool (fun hy => ?_) (fun hy => ?_)) <;> (try simp only [Bool.not_eq_true', Bool.not_eq_false', Bool.and_eq_true, Bool.or_eq_false_iff, decide_eq_true_eq, decide_eq_false_iff_not] at hy) <;> simp (disch := first | rfl | omega | exact lt_new _ | assumption | decide | (simp [tk_here, tk_app, tk_0, tk_S, gr_here, gr_app, gr_0, gr_S] <;> omega) | fail) only [l24_14, r24_9, r24_10, r24_11, rs24, gc24, t0, t1, t2, t3, t4, t12, t13, hlt', hlv', h58, q1, q2, q3, q4, slV_nil, go_sem, ↓reduceIte, Nat.reduceLT, Nat.reduceEqDiff, Nat.reduceAdd, Nat.reduceMul, Nat.reduceSub, Int.reduceAdd, Int.reduceSub, Nat.reduceLeDiff, Int.reduceLT, Int.reduceLE, Int.reduceEq, Int.reduceNeg, Int.reduceToNat, hy])
      all_goals (try ((first | refine finQ_same ?_ | refine finQ_app ?_ | (rw [List.append_assoc]; refine finQ_app ?_)) <;> simp (disch := first | rfl | omega | exact lt_new _ | assumption | decide | (simp [tk_here, tk_app, tk_0, tk_S, gr_here, gr_app, gr_0, gr_S] <;> omega) | fail) only [go_sem, ↓reduceIte, Nat.reduceLT, Nat.reduceEqDiff, Nat.reduceAdd, Nat.reduceMul, Nat.reduceSub, Int.reduceAdd, Int.reduceSub, Nat.reduceLeDiff, Int.reduceLT, Int.reduceLE, Int.reduceEq, Int.reduceNeg, Int.reduceToNat, List.append_assoc, List.cons_append, List.nil_append, *]))
      all_goals (try first | rfl | (simp [*]; done) | grind)
    have hT : 0 ≤ inE.at t i ∧ inE.at t i ≤ 1000000000000000 := by simpa [okT] using q1
    obtain ⟨x0, x1, x2, x3, x4⟩ := quo_fx (a := inE.at t i - f) (b := w) (by omega)
    have x5 := x3 (by omega)
    have w1 : IntKind.i64.wrap ((inE.at t i - f).tdiv w) = (inE.at t i - f).tdiv w := by simp (disch := first | rfl | omega | exact lt_new _ | assumption | decide | (simp [tk_here, tk_app, tk_0, tk_S, gr_here, gr_app, gr_0, gr_S] <;> omega) | fail) only [go_sem, ↓reduceIte, Nat.reduceLT, Nat.reduceEqDiff, Nat.reduceAdd, Nat.reduceMul, Nat.reduceSub, Int.reduceAdd, Int.reduceSub, Nat.reduceLeDiff, Int.reduceLT, Int.reduceLE, Int.reduceEq, Int.reduceNeg, Int.reduceToNat]
    have hl1 : lastI t w f (i + 1) = if (inE.at t i - f).tdiv w > lastI t w f i then (inE.at t i - f).tdiv w else lastI t w f i := rfl
    simp (disch := first | rfl | omega | exact lt_new _ | assumption | decide | (simp [tk_here, tk_app, tk_0, tk_S, gr_here, gr_app, gr_0, gr_S] <;> omega) | fail) only [l24_14, r24_9, r24_10, r24_12, r24_13, t0, t1, t2, t3, t4, t12, t13, hlt', hlv', h58, q1, q2, q3, q4, hw0, w1, go_sem, ↓reduceIte, Nat.reduceLT, Nat.reduceEqDiff, Nat.reduceAdd, Nat.reduceMul, Nat.reduceSub, Int.reduceAdd, Int.reduceSub, Nat.reduceLeDiff, Int.reduceLT, Int.reduceLE, Int.reduceEq, Int.reduceNeg, Int.reduceToNat]
    repeat' ((first | refine guardB_dec (fun hy => ?_) (fun hy => ?_) | refine guardB_bool (fun hy => ?_) (fun hy => ?_) | refine guardQ_ite (fun hy => ?_) (fun hy => ?_) | refine brQ_dec (fun hy => ?_) (fun hy => ?_) | refine brQ_bool (fun hy => ?_) (fun hy => ?_)) <;> (try simp only [Bool.not_eq_true', Bool.not_eq_false', Bool.and_eq_true, Bool.or_eq_false_iff, decide_eq_true_eq, decide_eq_false_iff_not] at hy) <;> simp (disch := first | rfl | omega | exact lt_new _ | assumption | decide | (simp [tk_here, tk_app, tk_0, tk_S, gr_here, gr_app, gr_0, gr_S] <;> omega) | fail) only [l24_14, r24_9, r24_10, r24_12, r24_13, t0, t1, t2, t3, t4, t12, t13, hlt', hlv', h58, q1, q2, q3, q4, hw0, w1, go_sem, ↓reduceIte, Nat.reduceLT, Nat.reduceEqDiff, Nat.reduceAdd, Nat.reduceMul, Nat.reduceSub, Int.reduceAdd, Int.reduceSub, Nat.reduceLeDiff, Int.reduceLT, Int.reduceLE, Int.reduceEq, Int.reduceNeg, Int.reduceToNat, hy])
    refine ⟨_, by omega, i + 1, rfl, hlt, by rw [hl1], rfl, by rw [hl1]; split <;> omega, fun j hj => ?_⟩
    by_cases e : j = i
    · subst e
      exact ⟨by simp [badI, q1]; omega, by simp [badV]; omega⟩
    · exact hall j (by omega)
  · obtain rfl : i = t.length := by omega
    have c5 := any_no (l := t) (p := badI f) (fun j hj => (hall j hj).1)
    have c6 := any_no (l := v) (p := badV) (fun j hj => (hall j (by omega)).2)
    have hc : ¬ (argB w f how = true ∨ t.any (badI f) = true ∨ v.any badV = true) := by simp [argB, c1, c2, c3, c4, c5, c6]
    rw [if_neg hc]
    have hg := good_of ha hb hc
    clear hall
    by_cases hn : 200 < lastI t w f t.length + 1
    case pos =>
      rw [if_pos hn]
      have hn2 : 200 ≤ lastI t w f t.length := by omega
      simp (disch := first | rfl | omega | exact lt_new _ | assumption | decide | (simp [tk_here, tk_app, tk_0, tk_S, gr_here, gr_app, gr_0, gr_S] <;> omega) | fail) only [l24_14, r24_9, r24_15, r24_16, rs24, gc24, t0, t1, t2, t3, t4, t12, t13, Int.lt_irrefl, hn2, slV_nil, go_sem, ↓reduceIte, Nat.reduceLT, Nat.reduceEqDiff, Nat.reduceAdd, Nat.reduceMul, Nat.reduceSub, Int.reduceAdd, Int.reduceSub, Nat.reduceLeDiff, Int.reduceLT, Int.reduceLE, Int.reduceEq, Int.reduceNeg, Int.reduceToNat]
      repeat' ((first | refine guardB_dec (fun hy => ?_) (fun hy => ?_) | refine guardB_bool (fun hy => ?_) (fun hy => ?_) | refine guardQ_ite (fun hy => ?_) (fun hy => ?_) | refine brQ_dec (fun hy => ?_) (fun hy => ?_) | refine brQ_bool (fun hy => ?_) (fun hy => ?_)) <;> (try simp only [Bool.not_eq_true', Bool.not_eq_false', Bool.and_eq_true, Bool.or_eq_false_iff, decide_eq_true_eq, decide_eq_false_iff_not] at hy) <;> simp (disch := first | rfl | omega | exact lt_new _ | assumption | decide | (simp [tk_here, tk_app, tk_0, tk_S, gr_here, gr_app, gr_0, gr_S] <;> omega) | fail) only [l24_14, r24_9, r24_15, r24_16, rs24, gc24, t0, t1, t2, t3, t4, t12, t13, Int.lt_irrefl, hn2, slV_nil, go_sem, ↓reduceIte, Nat.reduceLT, Nat.reduceEqDiff, Nat.reduceAdd, Nat.reduceMul, Nat.reduceSub, Int.reduceAdd, Int.reduceSub, Nat.reduceLeDiff, Int.reduceLT, Int.reduceLE, Int.reduceEq, Int.reduceNeg, Int.reduceToNat, hy])
      all_goals (try ((first | refine finQ_same ?_ | refine finQ_app ?_ | (rw [List.append_assoc]; refine finQ_app ?_)) <;> simp (disch := first | rfl | omega | exact lt_new _ | assumption | decide | (simp [tk_here, tk_app, tk_0, tk_S, gr_here, gr_app, gr_0, gr_S] <;> omega) | fail) only [go_sem, ↓reduceIte, Nat.reduceLT, Nat.reduceEqDiff, Nat.reduceAdd, Nat.reduceMul, Nat.reduceSub, Int.reduceAdd, Int.reduceSub, Nat.reduceLeDiff, Int.reduceLT, Int.reduceLE, Int.reduceEq, Int.reduceNeg, Int.reduceToNat, List.append_assoc, List.cons_append, List.nil_append, *]))
      all_goals (try first | rfl | (simp [*]; done) | grind)
    rw [if_neg hn]
    have hn2 : ¬ 200 ≤ lastI t w f t.length := by omega
    obtain ⟨N, hN⟩ : ∃ N : Nat, lastI t w f t.length + 1 = (N : Int) := ⟨(lastI t w f t.length + 1).toNat, by omega⟩
    rw [hN, Int.toNat_natCast]
    simp (disch := first | rfl | omega | exact lt_new _ | assumption | decide | (simp [tk_here, tk_app, tk_0, tk_S, gr_here, gr_app, gr_0, gr_S] <;> omega) | fail) only [l24_14, r24_9, r24_15, r24_17, r24_18, loadV_ptr, storeV_ptr, List.append_assoc, List.length_append, List.length_cons, List.length_nil, List.set_cons_zero, List.set_cons_succ, tk_here, tk_app, gr_here, gr_app, st_here, st_app, t0, t1, t2, t3, t4, t12, t13, Int.lt_irrefl, hn2, go_sem, ↓reduceIte, Nat.reduceLT, Nat.reduceEqDiff, Nat.reduceAdd, Nat.reduceMul, Nat.reduceSub, Int.reduceAdd, Int.reduceSub, Nat.reduceLeDiff, Int.reduceLT, Int.reduceLE, Int.reduceEq, Int.reduceNeg, Int.reduceToNat]
    repeat' ((first | refine guardB_dec (fun hy => ?_) (fun hy => ?_) | refine guardB_bool (fun hy => ?_) (fun hy => ?_) | refine guardQ_ite (fun hy => ?_) (fun hy => ?_) | refine brQ_dec (fun hy => ?_) (fun hy => ?_) | refine brQ_bool (fun hy => ?_) (fun hy => ?_)) <;> (try simp only [Bool.not_eq_true', Bool.not_eq_false', Bool.and_eq_true, Bool.or_eq_false_iff, decide_eq_true_eq, decide_eq_false_iff_not] at hy) <;> simp (disch := first | rfl | omega | exact lt_new _ | assumption | decide | (simp [tk_here, tk_app, tk_0, tk_S, gr_here, gr_app, gr_0, gr_S] <;> omega) | fail) only [l24_14, r24_9, r24_15, r24_17, r24_18, loadV_ptr, storeV_ptr, List.append_assoc, List.length_append, List.length_cons, List.length_nil, List.set_cons_zero, List.set_cons_succ, tk_here, tk_app, gr_here, gr_app, st_here, st_app, t0, t1, t2, t3, t4, t12, t13, Int.lt_irrefl, hn2, go_sem, ↓reduceIte, Nat.reduceLT, Nat.reduceEqDiff, Nat.reduceAdd, Nat.reduceMul, Nat.reduceSub, Int.reduceAdd, Int.reduceSub, Nat.reduceLeDiff, Int.reduceLT, Int.reduceLE, Int.reduceEq, Int.reduceNeg, Int.reduceToNat, hy])
    refine Wp_loop (fun m T D H1 => ∃ k G, m = N - k ∧ k ≤ N ∧ D = [] ∧ H1 = H' ++ .tok (outs t v w f how t.length k).length :: G ∧ get T 0 = slV bt inE t ∧ get T 1 = slV bv inE v ∧ get T 2 = .int .i64 w ∧ get T 3 = .int .i64 f ∧ get T 4 = .int .i64 how ∧ get T 12 = .int .i64 (lastI t w f t.length) ∧ get T 14 = osV H'.length inE (outs t v w f how t.length k) ∧ get T 15 = .int .i64 k) ?_ N _ _ _ ?_
    case refine_2 => exact ⟨0, [], by simp (disch := first | rfl | omega | exact lt_new _ | assumption | decide | (simp [tk_here, tk_app, tk_0, tk_S, gr_here, gr_app, gr_0, gr_S] <;> omega) | fail) only [go_sem, ↓reduceIte, Nat.reduceLT, Nat.reduceEqDiff, Nat.reduceAdd, Nat.reduceMul, Nat.reduceSub, Int.reduceAdd, Int.reduceSub, Nat.reduceLeDiff, Int.reduceLT, Int.reduceLE, Int.reduceEq, Int.reduceNeg, Int.reduceToNat, t0, t1, t2, t3, t4, t12]; simp [outs, osV_nil]⟩
    clear t0 t1 t2 t3 t4 t12 t13
    rintro m T D _ ⟨k, G, rfl, hk, rfl, rfl, t0, t1, t2, t3, t4, t12, t14, t15⟩
    by_cases hlt : k < N
    · have hkl : (k : Int) ≤ lastI t w f t.length := by omega
      have hol := outs_len t v w f how t.length k
      have hon : outs t v w f how t.length (k + 1) = outs t v w f how t.length k ++ [intv (part t v w f k t.length) how] := rfl
      simp (disch := first | rfl | omega | exact lt_new _ | assumption | decide | (simp [tk_here, tk_app, tk_0, tk_S, gr_here, gr_app, gr_0, gr_S] <;> omega) | fail) only [l24_29, r24_19, r24_20, r24_21, loadV_ptr, storeV_ptr, List.append_assoc, List.length_append, List.length_cons, List.length_nil, List.set_cons_zero, List.set_cons_succ, tk_here, tk_app, gr_here, gr_app, st_here, st_app, t0, t1, t2, t3, t4, t12, t14, t15, hkl, go_sem, ↓reduceIte, Nat.reduceLT, Nat.reduceEqDiff, Nat.reduceAdd, Nat.reduceMul, Nat.reduceSub, Int.reduceAdd, Int.reduceSub, Nat.reduceLeDiff, Int.reduceLT, Int.reduceLE, Int.reduceEq, Int.reduceNeg, Int.reduceToNat]
      repeat' ((first | refine guardB_dec (fun hy => ?_) (fun hy => ?_) | refine guardB_bool (fun hy => ?_) (fun hy => ?_) | refine guardQ_ite (fun hy => ?_) (fun hy => ?_) | refine brQ_dec (fun hy => ?_) (fun hy => ?_) | refine brQ_bool (fun hy => ?_) (fun hy => ?_)) <;> (try simp only [Bool.not_eq_true', Bool.not_eq_false', Bool.and_eq_true, Bool.or_eq_false_iff, decide_eq_true_eq, decide_eq_false_iff_not] at hy) <;> simp (disch := first | rfl | omega | exact lt_new _ | assumption | decide | (simp [tk_here, tk_app, tk_0, tk_S, gr_here, gr_app, gr_0, gr_S] <;> omega) | fail) only [l24_29, r24_19, r24_20, r24_21, loadV_ptr, storeV_ptr, List.append_assoc, List.length_append, List.length_cons, List.length_nil, List.set_cons_zero, List.set_cons_succ, tk_here, tk_app, gr_here, gr_app, st_here, st_app, t0, t1, t2, t3, t4, t12, t14, t15, hkl, go_sem, ↓reduceIte, Nat.reduceLT, Nat.reduceEqDiff, Nat.reduceAdd, Nat.reduceMul, Nat.reduceSub, Int.reduceAdd, Int.reduceSub, Nat.reduceLeDiff, Int.reduceLT, Int.reduceLE, Int.reduceEq, Int.reduceNeg, Int.reduceToNat, hy])
      refine Wp_loop (fun m T D H1 => ∃ i, m = t.length - i ∧ i ≤ t.length ∧ D = [] ∧ H1 = H' ++ .tok (outs t v w f how t.length k).length :: (G ++ [.tok (part t v w f k i).length]) ∧ get T 0 = slV bt inE t ∧ get T 1 = slV bv inE v ∧ get T 2 = .int .i64 w ∧ get T 3 = .int .i64 f ∧ get T 4 = .int .i64 how ∧ get T 12 = .int .i64 (lastI t w f t.length) ∧ get T 14 = osV H'.length inE (outs t v w f how t.length k) ∧ get T 15 = .int .i64 k ∧ get T 16 = osV (H'.length + (G.length + 1)) inE (part t v w f k i) ∧ get T 17 = .int .i64 i) ?_ t.length _ _ _ ?_
      case refine_2 =>
        refine ⟨0, rfl, Nat.zero_le _, ?_⟩
        simp (disch := first | rfl | omega | exact lt_new _ | assumption | decide | (simp [tk_here, tk_app, tk_0, tk_S, gr_here, gr_app, gr_0, gr_S] <;> omega) | fail) only [go_sem, ↓reduceIte, Nat.reduceLT, Nat.reduceEqDiff, Nat.reduceAdd, Nat.reduceMul, Nat.reduceSub, Int.reduceAdd, Int.reduceSub, Nat.reduceLeDiff, Int.reduceLT, Int.reduceLE, Int.reduceEq, Int.reduceNeg, Int.reduceToNat, t0, t1, t2, t3, t4, t12, t14, t15]
        first | done | simp [part, osV_nil]
      clear t0 t1 t2 t3 t4 t12 t14 t15
      rintro m T D _ ⟨i, rfl, hi, rfl, rfl, t0, t1, t2, t3, t4, t12, t14, t15, t16, t17⟩
      by_cases hlt2 : i < t.length
      · have hlt' : (i : Int) < t.length := by omega
        have hlv : i < v.length := by omega
        have hlv' : (i : Int) < v.length := by omega
        have b1 := hg.t1 _ (inE.at_mem hlt2)
        have b2 := hg.idx hlt2
        have hq : (inE.at t i - f).tdiv w = idxI t w f i := rfl
        have hpl := part_le t v w f k i
        have hpn : part t v w f k (i + 1) = part t v w f k i ++ if idxI t w f i = k then [inE.at v i] else [] := rfl
        by_cases hk2 : idxI t w f i = k
        · rw [if_pos hk2] at hpn
          simp (disch := first | rfl | omega | exact lt_new _ | assumption | decide | (simp [tk_here, tk_app, tk_0, tk_S, gr_here, gr_app, gr_0, gr_S] <;> omega) | fail) only [l24_26, r24_22, r24_23, r24_24, r24_25, loadV_ptr, storeV_ptr, List.append_assoc, List.length_append, List.length_cons, List.length_nil, List.set_cons_zero, List.set_cons_succ, tk_here, tk_app, gr_here, gr_app, st_here, st_app, t0, t1, t2, t3, t4, t12, t14, t15, t16, t17, hlt', hlv', hq, hw0, hk2, go_sem, ↓reduceIte, Nat.reduceLT, Nat.reduceEqDiff, Nat.reduceAdd, Nat.reduceMul, Nat.reduceSub, Int.reduceAdd, Int.reduceSub, Nat.reduceLeDiff, Int.reduceLT, Int.reduceLE, Int.reduceEq, Int.reduceNeg, Int.reduceToNat]
          repeat' ((first | refine guardB_dec (fun hy => ?_) (fun hy => ?_) | refine guardB_bool (fun hy => ?_) (fun hy => ?_) | refine guardQ_ite (fun hy => ?_) (fun hy => ?_) | refine brQ_dec (fun hy => ?_) (fun hy => ?_) | refine brQ_bool (fun hy => ?_) (fun hy => ?_)) <;> (try simp only [Bool.not_eq_true', Bool.not_eq_false', Bool.and_eq_true, Bool.or_eq_false_iff, decide_eq_true_eq, decide_eq_false_iff_not] at hy) <;> simp (disch := first | rfl | omega | exact lt_new _ | assumption | decide | (simp [tk_here, tk_app, tk_0, tk_S, gr_here, gr_app, gr_0, gr_S] <;> omega) | fail) only [l24_26, r24_22, r24_23, r24_24, r24_25, loadV_ptr, storeV_ptr, List.append_assoc, List.length_append, List.length_cons, List.length_nil, List.set_cons_zero, List.set_cons_succ, tk_here, tk_app, gr_here, gr_app, st_here, st_app, t0, t1, t2, t3, t4, t12, t14, t15, t16, t17, hlt', hlv', hq, hw0, hk2, go_sem, ↓reduceIte, Nat.reduceLT, Nat.reduceEqDiff, Nat.reduceAdd, Nat.reduceMul, Nat.reduceSub, Int.reduceAdd, Int.reduceSub, Nat.reduceLeDiff, Int.reduceLT, Int.reduceLE, Int.reduceEq, Int.reduceNeg, Int.reduceToNat, hy])
          exact ⟨_, by omega, i + 1, rfl, hlt2, by rw [hpn, List.length_append]; rfl, by rw [hpn], rfl⟩
        · rw [if_neg hk2, List.append_nil] at hpn
          simp (disch := first | rfl | omega | exact lt_new _ | assumption | decide | (simp [tk_here, tk_app, tk_0, tk_S, gr_here, gr_app, gr_0, gr_S] <;> omega) | fail) only [l24_26, r24_22, r24_23, r24_25, loadV_ptr, storeV_ptr, List.append_assoc, List.length_append, List.length_cons, List.length_nil, List.set_cons_zero, List.set_cons_succ, tk_here, tk_app, gr_here, gr_app, st_here, st_app, t0, t1, t2, t3, t4, t12, t14, t15, t16, t17, hlt', hlv', hq, hw0, hk2, go_sem, ↓reduceIte, Nat.reduceLT, Nat.reduceEqDiff, Nat.reduceAdd, Nat.reduceMul, Nat.reduceSub, Int.reduceAdd, Int.reduceSub, Nat.reduceLeDiff, Int.reduceLT, Int.reduceLE, Int.reduceEq, Int.reduceNeg, Int.reduceToNat]
          repeat' ((first | refine guardB_dec (fun hy => ?_) (fun hy => ?_) | refine guardB_bool (fun hy => ?_) (fun hy => ?_) | refine guardQ_ite (fun hy => ?_) (fun hy => ?_) | refine brQ_dec (fun hy => ?_) (fun hy => ?_) | refine brQ_bool (fun hy => ?_) (fun hy => ?_)) <;> (try simp only [Bool.not_eq_true', Bool.not_eq_false', Bool.and_eq_true, Bool.or_eq_false_iff, decide_eq_true_eq, decide_eq_false_iff_not] at hy) <;> simp (disch := first | rfl | omega | exact lt_new _ | assumption | decide | (simp [tk_here, tk_app, tk_0, tk_S, gr_here, gr_app, gr_0, gr_S] <;> omega) | fail) only [l24_26, r24_22, r24_23, r24_25, loadV_ptr, storeV_ptr, List.append_assoc, List.length_append, List.length_cons, List.length_nil, List.set_cons_zero, List.set_cons_succ, tk_here, tk_app, gr_here, gr_app, st_here, st_app, t0, t1, t2, t3, t4, t12, t14, t15, t16, t17, hlt', hlv', hq, hw0, hk2, go_sem, ↓reduceIte, Nat.reduceLT, Nat.reduceEqDiff, Nat.reduceAdd, Nat.reduceMul, Nat.reduceSub, Int.reduceAdd, Int.reduceSub, Nat.reduceLeDiff, Int.reduceLT, Int.reduceLE, Int.reduceEq, Int.reduceNeg, Int.reduceToNat, hy])
          exact ⟨_, by omega, i + 1, rfl, hlt2, by rw [hpn], by rw [hpn], rfl⟩
      · obtain rfl : i = t.length := by omega
        have h72 := fun H => fn72 (b := true) (hg.sml (k := k) t.length (Nat.le_refl _)) how ⟨hg.h0, hg.h4⟩ H
        simp (disch := first | rfl | omega | exact lt_new _ | assumption | decide | (simp [tk_here, tk_app, tk_0, tk_S, gr_here, gr_app, gr_0, gr_S] <;> omega) | fail) only [l24_26, r24_22, r24_27, r24_28, loadV_ptr, storeV_ptr, List.append_assoc, List.length_append, List.length_cons, List.length_nil, List.set_cons_zero, List.set_cons_succ, tk_here, tk_app, gr_here, gr_app, st_here, st_app, t0, t1, t2, t3, t4, t12, t14, t15, t16, t17, Int.lt_irrefl, h72, go_sem, ↓reduceIte, Nat.reduceLT, Nat.reduceEqDiff, Nat.reduceAdd, Nat.reduceMul, Nat.reduceSub, Int.reduceAdd, Int.reduceSub, Nat.reduceLeDiff, Int.reduceLT, Int.reduceLE, Int.reduceEq, Int.reduceNeg, Int.reduceToNat]
        repeat' ((first | refine guardB_dec (fun hy => ?_) (fun hy => ?_) | refine guardB_bool (fun hy => ?_) (fun hy => ?_) | refine guardQ_ite (fun hy => ?_) (fun hy => ?_) | refine brQ_dec (fun hy => ?_) (fun hy => ?_) | refine brQ_bool (fun hy => ?_) (fun hy => ?_)) <;> (try simp only [Bool.not_eq_true', Bool.not_eq_false', Bool.and_eq_true, Bool.or_eq_false_iff, decide_eq_true_eq, decide_eq_false_iff_not] at hy) <;> simp (disch := first | rfl | omega | exact lt_new _ | assumption | decide | (simp [tk_here, tk_app, tk_0, tk_S, gr_here, gr_app, gr_0, gr_S] <;> omega) | fail) only [l24_26, r24_22, r24_27, r24_28, loadV_ptr, storeV_ptr, List.append_assoc, List.length_append, List.length_cons, List.length_nil, List.set_cons_zero, List.set_cons_succ, tk_here, tk_app, gr_here, gr_app, st_here, st_app, t0, t1, t2, t3, t4, t12, t14, t15, t16, t17, Int.lt_irrefl, h72, go_sem, ↓reduceIte, Nat.reduceLT, Nat.reduceEqDiff, Nat.reduceAdd, Nat.reduceMul, Nat.reduceSub, Int.reduceAdd, Int.reduceSub, Nat.reduceLeDiff, Int.reduceLT, Int.reduceLE, Int.reduceEq, Int.reduceNeg, Int.reduceToNat, hy])
        exact ⟨_, by omega, k + 1, _, rfl, hlt, by rw [hon, List.length_append]; rfl, by rw [hon], rfl⟩
    · obtain rfl : k = N := by omega
      have hkl : ¬ (k : Int) ≤ lastI t w f t.length := by omega
      simp (disch := first | rfl | omega | exact lt_new _ | assumption | decide | (simp [tk_here, tk_app, tk_0, tk_S, gr_here, gr_app, gr_0, gr_S] <;> omega) | fail) only [l24_29, r24_19, r24_30, rs24, gc24, loadV_ptr, storeV_ptr, List.append_assoc, List.length_append, List.length_cons, List.length_nil, List.set_cons_zero, List.set_cons_succ, tk_here, tk_app, gr_here, gr_app, st_here, st_app, t0, t1, t2, t3, t4, t12, t14, t15, hkl, go_sem, ↓reduceIte, Nat.reduceLT, Nat.reduceEqDiff, Nat.reduceAdd, Nat.reduceMul, Nat.reduceSub, Int.reduceAdd, Int.reduceSub, Nat.reduceLeDiff, Int.reduceLT, Int.reduceLE, Int.reduceEq, Int.reduceNeg, Int.reduceToNat]
      repeat' ((first | refine guardB_dec (fun hy => ?_) (fun hy => ?_) | refine guardB_bool (fun hy => ?_) (fun hy => ?_) | refine guardQ_ite (fun hy => ?_) (fun hy => ?_) | refine brQ_dec (fun hy => ?_) (fun hy => ?_) | refine brQ_bool (fun hy => ?_) (fun hy => ?_)) <;> (try simp only [Bool.not_eq_true', Bool.not_eq_false', Bool.and_eq_true, Bool.or_eq_false_iff, decide_eq_true_eq, decide_eq_false_iff_not] at hy) <;> simp (disch := first | rfl | omega | exact lt_new _ | assumption | decide | (simp [tk_here, tk_app, tk_0, tk_S, gr_here, gr_app, gr_0, gr_S] <;> omega) | fail) only [l24_29, r24_19, r24_30, rs24, gc24, loadV_ptr, storeV_ptr, List.append_assoc, List.length_append, List.length_cons, List.length_nil, List.set_cons_zero, List.set_cons_succ, tk_here, tk_app, gr_here, gr_app, st_here, st_app, t0, t1, t2, t3, t4, t12, t14, t15, hkl, go_sem, ↓reduceIte, Nat.reduceLT, Nat.reduceEqDiff, Nat.reduceAdd, Nat.reduceMul, Nat.reduceSub, Int.reduceAdd, Int.reduceSub, Nat.reduceLeDiff, Int.reduceLT, Int.reduceLE, Int.reduceEq, Int.reduceNeg, Int.reduceToNat, hy])
      refine finQ_app ?_
      simp (disch := first | rfl | omega | exact lt_new _ | assumption | decide | (simp [tk_here, tk_app, tk_0, tk_S, gr_here, gr_app, gr_0, gr_S] <;> omega) | fail) only [go_sem, ↓reduceIte, Nat.reduceLT, Nat.reduceEqDiff, Nat.reduceAdd, Nat.reduceMul, Nat.reduceSub, Int.reduceAdd, Int.reduceSub, Nat.reduceLeDiff, Int.reduceLT, Int.reduceLE, Int.reduceEq, Int.reduceNeg, Int.reduceToNat]
end Go.Proofs.YteeofpgnjekeaaaGreatDoor
/-
  Values in intervals: both are the same. No statement of the seat stands here.
-/
namespace Go.Proofs.YteeofpgnjekeaaaGreatDoor
open Go Go.An
set_option maxRecDepth 4000
set_option linter.unusedSimpArgs false
set_option linter.unusedVariables false

theorem ivF_len (t v : List Int) (w f how : Int) : (ivF t v w f how).1.length ≤ 200 := by
  unfold ivF
  split
  · exact Nat.zero_le _
  · split
    · exact Nat.zero_le _
    · split
      · exact Nat.zero_le _
      · split
        · exact Nat.zero_le _
        · show (outs ..).length ≤ 200
          rw [outs_len]
          omega
theorem fn7 (bt bv : Bool) (t v : List Int) (w f how : Int) (h1 : t.length ≤ 2 ^ 47) (h2 : v.length ≤ 2 ^ 47) (H : Hp) : callL Tryz.prog pr 7 [slV bt inE t, slV bv inE v, .agg [.int .i64 w, .int .i64 f, .int .i64 how]] H = some (.bool true, H) := by
  have h23 := fn23 bt bv t v w f how (by omega) (by omega)
  have h24 := fn24 bt bv t v w f how (by omega) (by omega)
  have h25 := fun H => fn25 (b := true) (b' := true) (l := (ivF t v w f how).1) (l' := (ivF t v w f how).1) (by have := ivF_len t v w f how; omega) H
  have hk := known_call
  refine run7 (Nat.le_of_ble_eq_true rfl) ?_
  by_cases ha : (20000 : Int) < t.length + v.length
  · skip
    simp (disch := first | rfl | omega | exact lt_new _ | assumption | decide | (simp [tk_here, tk_app, tk_0, tk_S, gr_here, gr_app, gr_0, gr_S] <;> omega) | fail) only [r7_0, r7_1, r7_2, r7_3, r7_4, r7_5, c7, rs7, gc7, ha, hk, go_sem, ↓reduceIte, Nat.reduceLT, Nat.reduceEqDiff, Nat.reduceAdd, Nat.reduceMul, Nat.reduceSub, Int.reduceAdd, Int.reduceSub, Nat.reduceLeDiff, Int.reduceLT, Int.reduceLE, Int.reduceEq, Int.reduceNeg, Int.reduceToNat]
    repeat' ((first | refine guardB_dec (fun hy => ?_) (fun hy => ?_) | refine guardB_bool (fun hy => ?_) (fun hy => ?_) | refine guardQ_ite (fun hy => ?_) (fun hy => ?_) | refine brQ_dec (fun hy => ?_) (fun hy => ?_) | refine brQ_bool (fun hy => ?_) (fun hy => ?_)) <;> (try simp only [Bool.not_eq_true', Bool.not_eq_false', Bool.and_eq_true, Bool.or_eq_false_iff, decide_eq_true_eq, decide_eq_false_iff_not] at hy) <;> simp (disch := first | rfl | omega | exact lt_new _ | assumption | decide | (simp [tk_here, tk_app, tk_0, tk_S, gr_here, gr_app, gr_0, gr_S] <;> omega) | fail) only [r7_0, r7_1, r7_2, r7_3, r7_4, r7_5, c7, rs7, gc7, ha, hk, go_sem, ↓reduceIte, Nat.reduceLT, Nat.reduceEqDiff, Nat.reduceAdd, Nat.reduceMul, Nat.reduceSub, Int.reduceAdd, Int.reduceSub, Nat.reduceLeDiff, Int.reduceLT, Int.reduceLE, Int.reduceEq, Int.reduceNeg, Int.reduceToNat, hy])
    all_goals (try ((first | refine finQ_same ?_ | refine finQ_app ?_ | (rw [List.append_assoc]; refine finQ_app ?_)) <;> simp (disch := first | rfl | omega | exact lt_new _ | assumption | decide | (simp [tk_here, tk_app, tk_0, tk_S, gr_here, gr_app, gr_0, gr_S] <;> omega) | fail) only [go_sem, ↓reduceIte, Nat.reduceLT, Nat.reduceEqDiff, Nat.reduceAdd, Nat.reduceMul, Nat.reduceSub, Int.reduceAdd, Int.reduceSub, Nat.reduceLeDiff, Int.reduceLT, Int.reduceLE, Int.reduceEq, Int.reduceNeg, Int.reduceToNat, List.append_assoc, List.cons_append, List.nil_append, *]))
    all_goals (try first | rfl | (simp [*]; done) | grind)
  simp (disch := first | rfl | omega | exact lt_new _ | assumption | decide | (simp [tk_here, tk_app, tk_0, tk_S, gr_here, gr_app, gr_0, gr_S] <;> omega) | fail) only [r7_0, r7_1, r7_2, r7_3, r7_4, r7_5, c7, rs7, gc7, ha, h23, h24, h25, hk, go_sem, ↓reduceIte, Nat.reduceLT, Nat.reduceEqDiff, Nat.reduceAdd, Nat.reduceMul, Nat.reduceSub, Int.reduceAdd, Int.reduceSub, Nat.reduceLeDiff, Int.reduceLT, Int.reduceLE, Int.reduceEq, Int.reduceNeg, Int.reduceToNat]
  repeat' ((first | refine guardB_dec (fun hy => ?_) (fun hy => ?_) | refine guardB_bool (fun hy => ?_) (fun hy => ?_) | refine guardQ_ite (fun hy => ?_) (fun hy => ?_) | refine brQ_dec (fun hy => ?_) (fun hy => ?_) | refine brQ_bool (fun hy => ?_) (fun hy => ?_)) <;> (try simp only [Bool.not_eq_true', Bool.not_eq_false', Bool.and_eq_true, Bool.or_eq_false_iff, decide_eq_true_eq, decide_eq_false_iff_not] at hy) <;> simp (disch := first | rfl | omega | exact lt_new _ | assumption | decide | (simp [tk_here, tk_app, tk_0, tk_S, gr_here, gr_app, gr_0, gr_S] <;> omega) | fail) only [r7_0, r7_1, r7_2, r7_3, r7_4, r7_5, c7, rs7, gc7, ha, h23, h24, h25, hk, go_sem, ↓reduceIte, Nat.reduceLT, Nat.reduceEqDiff, Nat.reduceAdd, Nat.reduceMul, Nat.reduceSub, Int.reduceAdd, Int.reduceSub, Nat.reduceLeDiff, Int.reduceLT, Int.reduceLE, Int.reduceEq, Int.reduceNeg, Int.reduceToNat, hy])
  all_goals (try ((first | refine finQ_same ?_ | refine finQ_app ?_ | (rw [List.append_assoc]; refine finQ_app ?_)) <;> simp (disch := first | rfl | omega | exact lt_new _ | assumption | decide | (simp [tk_here, tk_app, tk_0, tk_S, gr_here, gr_app, gr_0, gr_S] <;> omega) | fail) only [go_sem, ↓reduceIte, Nat.reduceLT, Nat.reduceEqDiff, Nat.reduceAdd, Nat.reduceMul, Nat.reduceSub, Int.reduceAdd, Int.reduceSub, Nat.reduceLeDiff, Int.reduceLT, Int.reduceLE, Int.reduceEq, Int.reduceNeg, Int.reduceToNat, List.append_assoc, List.cons_append, List.nil_append, *]))
  all_goals (try first | rfl | (simp [*]; done) | grind)
end Go.Proofs.YteeofpgnjekeaaaGreatDoor
/-
  The sums of intervals make the sum of all. No statement of the seat stands here.
-/
namespace Go.Proofs.YteeofpgnjekeaaaGreatDoor
open Go Go.An
set_option maxRecDepth 4000
set_option linter.unusedSimpArgs false
set_option linter.unusedVariables false

theorem at_app {l : List Int} {x : Int} {k : Nat} (h : k < l.length) : inE.at (l ++ [x]) k = inE.at l k := by
  simp [Enc.at, List.getD, List.getElem?_append_left h]
theorem sumI_app {l : List Int} {x : Int} : ∀ k ≤ l.length, sumI (l ++ [x]) k = sumI l k
  | 0, _ => rfl
  | k + 1, h => by
    unfold sumI
    rw [sumI_app k (by omega), at_app (by omega)]
theorem sumI_snoc (l : List Int) (x : Int) : sumI (l ++ [x]) (l ++ [x]).length = sumI l l.length + x := by
  rw [List.length_append]
  show sumI (l ++ [x]) l.length + inE.at (l ++ [x]) l.length = _
  rw [sumI_app _ (Nat.le_refl _)]
  simp [Enc.at, List.getD]
/-- The sum of what intervals tell. -/
def gat (g : Nat → Int) : Nat → Int
  | 0 => 0
  | k + 1 => gat g k + g k
theorem outs_at (t v : List Int) (w f how : Int) (n : Nat) : ∀ K k, k < K → inE.at (outs t v w f how n K) k = intv (part t v w f k n) how
  | K + 1, k, h => by
    unfold outs
    by_cases e : k = K
    · subst e
      simp [Enc.at, List.getD, outs_len]
    · rw [at_app (by rw [outs_len]; omega)]
      exact outs_at t v w f how n K k (by omega)
theorem sum_outs (t v : List Int) (w f how : Int) (n K : Nat) : ∀ k ≤ K, sumI (outs t v w f how n K) k = gat (fun k => intv (part t v w f k n) how) k
  | 0, _ => rfl
  | k + 1, h => by
    unfold sumI gat
    rw [sum_outs t v w f how n K k (by omega), outs_at t v w f how n K k (by omega)]
theorem intv1 (l : List Int) : intv l 1 = sumI l l.length := by
  unfold intv
  split
  · rename_i h
    rw [h]
    rfl
  · simp
theorem intv0 (l : List Int) : intv l 0 = l.length := by
  unfold intv
  split <;> simp_all
theorem gat_add (g : Nat → Int) (i : Nat) (x : Int) : ∀ K, gat (fun k => g k + if i = k then x else 0) K = gat g K + if i < K then x else 0
  | 0 => by simp [gat]
  | K + 1 => by
    unfold gat
    rw [gat_add g i x K]
    by_cases h1 : i < K
    · rw [if_pos h1, if_neg (by omega), if_pos (by omega)]
      omega
    · by_cases h2 : i = K
      · rw [if_neg h1, if_pos h2, if_pos (by omega)]
        omega
      · rw [if_neg h1, if_neg h2, if_neg (by omega)]
        omega
theorem gat_congr {g g' : Nat → Int} (h : ∀ k, g k = g' k) (K : Nat) : gat g K = gat g' K := by
  rw [show g = g' from funext h]
theorem gat_bound {g : Nat → Int} {c : Int} (h : ∀ k, -c ≤ g k ∧ g k ≤ c) (hc : 0 ≤ c) : ∀ K : Nat, K ≤ 200 → -(200 * c) ≤ gat g K ∧ gat g K ≤ 200 * c := by
  have h2 : ∀ K : Nat, -(K * c) ≤ gat g K ∧ gat g K ≤ K * c := by
    intro K
    induction K with
    | zero => simp [gat]
    | succ K ih =>
      have := h K
      unfold gat
      have e : ((K + 1 : Nat) : Int) * c = K * c + c := by rw [Int.natCast_add, Int.add_mul]; simp
      omega
  intro K hK
  have := h2 K
  have e : (K : Int) * c ≤ 200 * c := Int.mul_le_mul_of_nonneg_right (by omega) hc
  omega
section
variable {t v : List Int} {w f how : Int} (hg : Good t v w f how)
include hg
theorem Good.parts {N : Nat} (hN : lastI t w f t.length + 1 = (N : Int)) : ∀ m ≤ t.length, gat (fun k => sumI (part t v w f k m) (part t v w f k m).length) N = sumI v m ∧ gat (fun k => ((part t v w f k m).length : Int)) N = m
  | 0, _ => by
    have z : ∀ K, gat (fun k => sumI (part t v w f k 0) (part t v w f k 0).length) K = 0 := fun K => by
      induction K with
      | zero => rfl
      | succ K ih => unfold gat; rw [ih]; rfl
    have z2 : ∀ K, gat (fun k => ((part t v w f k 0).length : Int)) K = 0 := fun K => by
      induction K with
      | zero => rfl
      | succ K ih => unfold gat; rw [ih]; rfl
    exact ⟨z N, z2 N⟩
  | m + 1, hm => by
    obtain ⟨i1, i2⟩ := Good.parts hN m (by omega)
    have b2 := hg.idx (i := m) (by omega)
    have b3 := idx_last (t := t) (w := w) (f := f) (m := t.length) m (by omega)
    obtain ⟨j, hj⟩ : ∃ j : Nat, idxI t w f m = j := ⟨(idxI t w f m).toNat, by omega⟩
    have hp : ∀ k : Nat, part t v w f k (m + 1) = part t v w f k m ++ if j = k then [inE.at v m] else [] := fun k => by
      show part t v w f k m ++ (if idxI t w f m = k then [inE.at v m] else []) = _
      by_cases e : j = k
      · rw [if_pos e, if_pos (by omega)]
      · rw [if_neg e, if_neg (by omega)]
    have e1 : ∀ k : Nat, sumI (part t v w f k (m + 1)) (part t v w f k (m + 1)).length = sumI (part t v w f k m) (part t v w f k m).length + if j = k then inE.at v m else 0 := fun k => by
      rw [hp]
      by_cases e : j = k
      · rw [if_pos e, if_pos e, sumI_snoc]
      · rw [if_neg e, if_neg e, List.append_nil, Int.add_zero]
    have e2 : ∀ k : Nat, ((part t v w f k (m + 1)).length : Int) = (part t v w f k m).length + if j = k then 1 else 0 := fun k => by
      rw [hp]
      by_cases e : j = k
      · rw [if_pos e, if_pos e, List.length_append]; rfl
      · rw [if_neg e, if_neg e, List.append_nil, Int.add_zero]
    refine ⟨?_, ?_⟩
    · rw [gat_congr e1, gat_add, i1, if_pos (by omega)]
      rfl
    · rw [gat_congr e2, gat_add, i2, if_pos (by omega)]
      omega
end
/-- The error does not hang on what is told. -/
theorem ivF_err (t v : List Int) (w : Int) : (ivF t v w 0 1).2 = (ivF t v w 0 0).2 := by
  have e : argB w 0 1 = argB w 0 0 := by simp [argB]
  unfold ivF
  rw [e]
  split
  · rfl
  · split
    · rfl
    · split
      · rfl
      · split <;> rfl
end Go.Proofs.YteeofpgnjekeaaaGreatDoor
/-
  The sums of intervals make the sum of all values; walked. No statement of the seat stands here.
-/
namespace Go.Proofs.YteeofpgnjekeaaaGreatDoor
open Go Go.An
set_option maxRecDepth 4000
set_option linter.unusedSimpArgs false
set_option linter.unusedVariables false

theorem ivF_ok {t v : List Int} {w f how : Int} (h : (ivF t v w f how).2 = 0) : Good t v w f how ∧ ∃ N : Nat, N ≤ 200 ∧ lastI t w f t.length + 1 = (N : Int) ∧ (ivF t v w f how).1 = outs t v w f how t.length N := by
  unfold ivF at h ⊢
  by_cases h1 : t.length ≠ v.length
  · rw [if_pos h1] at h; simp at h
  rw [if_neg h1] at h ⊢
  by_cases h2 : 200 < t.length
  · rw [if_pos h2] at h; simp at h
  rw [if_neg h2] at h ⊢
  by_cases h3 : argB w f how = true ∨ t.any (badI f) = true ∨ v.any badV = true
  · rw [if_pos h3] at h; simp at h
  rw [if_neg h3] at h ⊢
  by_cases h4 : 200 < lastI t w f t.length + 1
  · rw [if_pos h4] at h; simp at h
  rw [if_neg h4]
  have hg := good_of (by omega) h2 h3
  have := hg.last_le t.length (Nat.le_refl _)
  exact ⟨hg, (lastI t w f t.length + 1).toNat, by omega, by omega, rfl⟩
set_option maxHeartbeats 8000000 in
theorem fn8 (bt bv : Bool) (t v : List Int) (w : Int) (h1 : t.length ≤ 2 ^ 47) (h2 : v.length ≤ 2 ^ 47) (H : Hp) : callL Tryz.prog pr 8 [slV bt inE t, slV bv inE v, .int .i64 w] H = some (.bool true, H) := by
  have h23a := fn23 bt bv t v w 0 1 (by omega) (by omega)
  have h23b := fn23 bt bv t v w 0 0 (by omega) (by omega)
  have hk := known_call
  have he := ivF_err t v w
  refine run8 (Nat.le_of_ble_eq_true rfl) ?_
  by_cases ha : (20000 : Int) < t.length + v.length
  · skip
    simp (disch := first | rfl | omega | exact lt_new _ | assumption | decide | (simp [tk_here, tk_app, tk_0, tk_S, gr_here, gr_app, gr_0, gr_S] <;> omega) | fail) only [r8_0, r8_1, r8_2, r8_3, r8_4, r8_5, r8_6, r8_7, r8_8, r8_9, r8_10, r8_11, r8_12, r8_13, r8_15, r8_16, r8_17, r8_18, r8_20, r8_21, r8_22, r8_23, r8_25, c8, rs8, gc8, ha, hk, go_sem, ↓reduceIte, Nat.reduceLT, Nat.reduceEqDiff, Nat.reduceAdd, Nat.reduceMul, Nat.reduceSub, Int.reduceAdd, Int.reduceSub, Nat.reduceLeDiff, Int.reduceLT, Int.reduceLE, Int.reduceEq, Int.reduceNeg, Int.reduceToNat]
    repeat' ((first | refine guardB_dec (fun hy => ?_) (fun hy => ?_) | refine guardB_bool (fun hy => ?_) (fun hy => ?_) | refine guardQ_ite (fun hy => ?_) (fun hy => ?_) | refine brQ_dec (fun hy => ?_) (fun hy => ?_) | refine brQ_bool (fun hy => ?_) (fun hy => ?_)) <;> (try simp only [Bool.not_eq_true', Bool.not_eq_false', Bool.and_eq_true, Bool.or_eq_false_iff, decide_eq_true_eq, decide_eq_false_iff_not] at hy) <;> simp (disch := first | rfl | omega | exact lt_new _ | assumption | decide | (simp [tk_here, tk_app, tk_0, tk_S, gr_here, gr_app, gr_0, gr_S] <;> omega) | fail) only [r8_0, r8_1, r8_2, r8_3, r8_4, r8_5, r8_6, r8_7, r8_8, r8_9, r8_10, r8_11, r8_12, r8_13, r8_15, r8_16, r8_17, r8_18, r8_20, r8_21, r8_22, r8_23, r8_25, c8, rs8, gc8, ha, hk, go_sem, ↓reduceIte, Nat.reduceLT, Nat.reduceEqDiff, Nat.reduceAdd, Nat.reduceMul, Nat.reduceSub, Int.reduceAdd, Int.reduceSub, Nat.reduceLeDiff, Int.reduceLT, Int.reduceLE, Int.reduceEq, Int.reduceNeg, Int.reduceToNat, hy])
    all_goals (try ((first | refine finQ_same ?_ | refine finQ_app ?_ | (rw [List.append_assoc]; refine finQ_app ?_)) <;> simp (disch := first | rfl | omega | exact lt_new _ | assumption | decide | (simp [tk_here, tk_app, tk_0, tk_S, gr_here, gr_app, gr_0, gr_S] <;> omega) | fail) only [go_sem, ↓reduceIte, Nat.reduceLT, Nat.reduceEqDiff, Nat.reduceAdd, Nat.reduceMul, Nat.reduceSub, Int.reduceAdd, Int.reduceSub, Nat.reduceLeDiff, Int.reduceLT, Int.reduceLE, Int.reduceEq, Int.reduceNeg, Int.reduceToNat, List.append_assoc, List.cons_append, List.nil_append, *]))
    all_goals (try first | rfl | (simp [*]; done) | grind)
  by_cases h0 : (ivF t v w 0 0).2 = 0
  case neg =>
    simp (disch := first | rfl | omega | exact lt_new _ | assumption | decide | (simp [tk_here, tk_app, tk_0, tk_S, gr_here, gr_app, gr_0, gr_S] <;> omega) | fail) only [r8_0, r8_1, r8_2, r8_3, r8_4, r8_5, r8_6, r8_7, r8_8, r8_9, r8_10, r8_11, r8_12, r8_13, r8_15, r8_16, r8_17, r8_18, r8_20, r8_21, r8_22, r8_23, r8_25, c8, rs8, gc8, ha, h23a, h23b, he, h0, hk, go_sem, ↓reduceIte, Nat.reduceLT, Nat.reduceEqDiff, Nat.reduceAdd, Nat.reduceMul, Nat.reduceSub, Int.reduceAdd, Int.reduceSub, Nat.reduceLeDiff, Int.reduceLT, Int.reduceLE, Int.reduceEq, Int.reduceNeg, Int.reduceToNat]
    repeat' ((first | refine guardB_dec (fun hy => ?_) (fun hy => ?_) | refine guardB_bool (fun hy => ?_) (fun hy => ?_) | refine guardQ_ite (fun hy => ?_) (fun hy => ?_) | refine brQ_dec (fun hy => ?_) (fun hy => ?_) | refine brQ_bool (fun hy => ?_) (fun hy => ?_)) <;> (try simp only [Bool.not_eq_true', Bool.not_eq_false', Bool.and_eq_true, Bool.or_eq_false_iff, decide_eq_true_eq, decide_eq_false_iff_not] at hy) <;> simp (disch := first | rfl | omega | exact lt_new _ | assumption | decide | (simp [tk_here, tk_app, tk_0, tk_S, gr_here, gr_app, gr_0, gr_S] <;> omega) | fail) only [r8_0, r8_1, r8_2, r8_3, r8_4, r8_5, r8_6, r8_7, r8_8, r8_9, r8_10, r8_11, r8_12, r8_13, r8_15, r8_16, r8_17, r8_18, r8_20, r8_21, r8_22, r8_23, r8_25, c8, rs8, gc8, ha, h23a, h23b, he, h0, hk, go_sem, ↓reduceIte, Nat.reduceLT, Nat.reduceEqDiff, Nat.reduceAdd, Nat.reduceMul, Nat.reduceSub, Int.reduceAdd, Int.reduceSub, Nat.reduceLeDiff, Int.reduceLT, Int.reduceLE, Int.reduceEq, Int.reduceNeg, Int.reduceToNat, hy])
    all_goals (try ((first | refine finQ_same ?_ | refine finQ_app ?_ | (rw [List.append_assoc]; refine finQ_app ?_)) <;> simp (disch := first | rfl | omega | exact lt_new _ | assumption | decide | (simp [tk_here, tk_app, tk_0, tk_S, gr_here, gr_app, gr_0, gr_S] <;> omega) | fail) only [go_sem, ↓reduceIte, Nat.reduceLT, Nat.reduceEqDiff, Nat.reduceAdd, Nat.reduceMul, Nat.reduceSub, Int.reduceAdd, Int.reduceSub, Nat.reduceLeDiff, Int.reduceLT, Int.reduceLE, Int.reduceEq, Int.reduceNeg, Int.reduceToNat, List.append_assoc, List.cons_append, List.nil_append, *]))
    all_goals (try first | rfl | (simp [*]; done) | grind)
  rw [h0] at he
  obtain ⟨hg, N, hN2, hN, ho1⟩ := ivF_ok he
  obtain ⟨_, N', _, hN', ho0⟩ := ivF_ok h0
  obtain rfl : N' = N := by omega
  obtain ⟨s1, s2⟩ := hg.parts hN t.length (Nat.le_refl _)
  rw [ho1, he] at h23a
  rw [ho0, h0] at h23b
  have hvl : v.length = t.length := hg.len.symm
  have hsv : Sml v := ⟨by have := hg.few; omega, hg.v1⟩
  have hvs := hsv.sum
  have hfew := hg.few
  have hg1 : ∀ k, -900719925474000 ≤ sumI (part t v w 0 k t.length) (part t v w 0 k t.length).length ∧ sumI (part t v w 0 k t.length) (part t v w 0 k t.length).length ≤ 900719925474000 := fun k => by
    have hs := hg.sml (k := k) t.length (Nat.le_refl _)
    have := hs.sum _ (Nat.le_refl _)
    have := hs.1
    omega
  have hg0 : ∀ k, -200 ≤ ((part t v w 0 k t.length).length : Int) ∧ ((part t v w 0 k t.length).length : Int) ≤ 200 := fun k => by
    have := (hg.sml (k := k) t.length (Nat.le_refl _)).1
    omega
  have hb1 := gat_bound hg1 (by omega)
  have hb0 := gat_bound hg0 (by omega)
  have hl1 := outs_len t v w 0 1 t.length N'
  have hl0 := outs_len t v w 0 0 t.length N'
  obtain ⟨g1, hg1'⟩ : ∃ g, (fun k => sumI (part t v w 0 k t.length) (part t v w 0 k t.length).length) = g := ⟨_, rfl⟩
  obtain ⟨g0, hg0'⟩ : ∃ g, (fun k => ((part t v w 0 k t.length).length : Int)) = g := ⟨_, rfl⟩
  rw [hg1'] at s1 hb1
  rw [hg0'] at s2 hb0
  have ha1 : ∀ k < N', inE.at (outs t v w 0 1 t.length N') k = g1 k := fun k hk => by rw [outs_at _ _ _ _ _ _ _ _ hk, intv1, ← hg1']
  have ha0 : ∀ k < N', inE.at (outs t v w 0 0 t.length N') k = g0 k := fun k hk => by rw [outs_at _ _ _ _ _ _ _ _ hk, intv0, ← hg0']
  clear hg1 hg0 ho1 ho0 hg1' hg0'
  obtain ⟨L1, hL1⟩ : ∃ L, outs t v w 0 1 t.length N' = L := ⟨_, rfl⟩
  obtain ⟨L0, hL0⟩ : ∃ L, outs t v w 0 0 t.length N' = L := ⟨_, rfl⟩
  rw [hL1] at h23a hl1 ha1
  rw [hL0] at h23b hl0 ha0
  simp (disch := first | rfl | omega | exact lt_new _ | assumption | decide | (simp [tk_here, tk_app, tk_0, tk_S, gr_here, gr_app, gr_0, gr_S] <;> omega) | fail) only [r8_0, r8_1, r8_2, r8_3, r8_4, r8_5, r8_6, r8_7, r8_8, r8_9, r8_10, r8_11, r8_12, r8_13, r8_15, r8_16, r8_17, r8_18, r8_20, r8_21, r8_22, r8_23, r8_25, c8, rs8, gc8, ha, h23a, h23b, go_sem, ↓reduceIte, Nat.reduceLT, Nat.reduceEqDiff, Nat.reduceAdd, Nat.reduceMul, Nat.reduceSub, Int.reduceAdd, Int.reduceSub, Nat.reduceLeDiff, Int.reduceLT, Int.reduceLE, Int.reduceEq, Int.reduceNeg, Int.reduceToNat]
  repeat' ((first | refine guardB_dec (fun hy => ?_) (fun hy => ?_) | refine guardB_bool (fun hy => ?_) (fun hy => ?_) | refine guardQ_ite (fun hy => ?_) (fun hy => ?_) | refine brQ_dec (fun hy => ?_) (fun hy => ?_) | refine brQ_bool (fun hy => ?_) (fun hy => ?_)) <;> (try simp only [Bool.not_eq_true', Bool.not_eq_false', Bool.and_eq_true, Bool.or_eq_false_iff, decide_eq_true_eq, decide_eq_false_iff_not] at hy) <;> simp (disch := first | rfl | omega | exact lt_new _ | assumption | decide | (simp [tk_here, tk_app, tk_0, tk_S, gr_here, gr_app, gr_0, gr_S] <;> omega) | fail) only [r8_0, r8_1, r8_2, r8_3, r8_4, r8_5, r8_6, r8_7, r8_8, r8_9, r8_10, r8_11, r8_12, r8_13, r8_15, r8_16, r8_17, r8_18, r8_20, r8_21, r8_22, r8_23, r8_25, c8, rs8, gc8, ha, h23a, h23b, go_sem, ↓reduceIte, Nat.reduceLT, Nat.reduceEqDiff, Nat.reduceAdd, Nat.reduceMul, Nat.reduceSub, Int.reduceAdd, Int.reduceSub, Nat.reduceLeDiff, Int.reduceLT, Int.reduceLE, Int.reduceEq, Int.reduceNeg, Int.reduceToNat, hy])
  refine Wp_loop (fun m T D H' => ∃ i, m = v.length - i ∧ i ≤ v.length ∧ D = [] ∧ H' = H ∧ get T 1 = slV bv inE v ∧ get T 7 = slV true inE L1 ∧ get T 9 = slV true inE L0 ∧ get T 11 = .int .i64 (sumI v i) ∧ get T 12 = .int .i64 0 ∧ get T 13 = .int .i64 i) ?_ v.length _ _ _ ?_
  case refine_2 => exact ⟨0, by simp (disch := first | rfl | omega | exact lt_new _ | assumption | decide | (simp [tk_here, tk_app, tk_0, tk_S, gr_here, gr_app, gr_0, gr_S] <;> omega) | fail) only [go_sem, ↓reduceIte, Nat.reduceLT, Nat.reduceEqDiff, Nat.reduceAdd, Nat.reduceMul, Nat.reduceSub, Int.reduceAdd, Int.reduceSub, Nat.reduceLeDiff, Int.reduceLT, Int.reduceLE, Int.reduceEq, Int.reduceNeg, Int.reduceToNat]; simp [sumI]⟩
  rintro m T D H' ⟨i, rfl, hi, rfl, rfl, t1, t7, t9, t11, t12, t13⟩
  by_cases hlt : i < v.length
  · have hlt' : (i : Int) < v.length := by omega
    have b1 := hvs i hi
    have b2 := hsv.2 _ (inE.at_mem hlt)
    simp (disch := first | rfl | omega | exact lt_new _ | assumption | decide | (simp [tk_here, tk_app, tk_0, tk_S, gr_here, gr_app, gr_0, gr_S] <;> omega) | fail) only [l8_14, r8_11, r8_12, r8_13, t1, t7, t9, t11, t12, t13, hlt', go_sem, ↓reduceIte, Nat.reduceLT, Nat.reduceEqDiff, Nat.reduceAdd, Nat.reduceMul, Nat.reduceSub, Int.reduceAdd, Int.reduceSub, Nat.reduceLeDiff, Int.reduceLT, Int.reduceLE, Int.reduceEq, Int.reduceNeg, Int.reduceToNat]
    repeat' ((first | refine guardB_dec (fun hy => ?_) (fun hy => ?_) | refine guardB_bool (fun hy => ?_) (fun hy => ?_) | refine guardQ_ite (fun hy => ?_) (fun hy => ?_) | refine brQ_dec (fun hy => ?_) (fun hy => ?_) | refine brQ_bool (fun hy => ?_) (fun hy => ?_)) <;> (try simp only [Bool.not_eq_true', Bool.not_eq_false', Bool.and_eq_true, Bool.or_eq_false_iff, decide_eq_true_eq, decide_eq_false_iff_not] at hy) <;> simp (disch := first | rfl | omega | exact lt_new _ | assumption | decide | (simp [tk_here, tk_app, tk_0, tk_S, gr_here, gr_app, gr_0, gr_S] <;> omega) | fail) only [l8_14, r8_11, r8_12, r8_13, t1, t7, t9, t11, t12, t13, hlt', go_sem, ↓reduceIte, Nat.reduceLT, Nat.reduceEqDiff, Nat.reduceAdd, Nat.reduceMul, Nat.reduceSub, Int.reduceAdd, Int.reduceSub, Nat.reduceLeDiff, Int.reduceLT, Int.reduceLE, Int.reduceEq, Int.reduceNeg, Int.reduceToNat, hy])
    exact ⟨_, by omega, i + 1, rfl, hlt, rfl, rfl⟩
  obtain rfl : i = v.length := by omega
  have b1 := hvs v.length (Nat.le_refl _)
  simp (disch := first | rfl | omega | exact lt_new _ | assumption | decide | (simp [tk_here, tk_app, tk_0, tk_S, gr_here, gr_app, gr_0, gr_S] <;> omega) | fail) only [l8_14, r8_11, r8_15, t1, t7, t9, t11, t12, t13, Int.lt_irrefl, go_sem, ↓reduceIte, Nat.reduceLT, Nat.reduceEqDiff, Nat.reduceAdd, Nat.reduceMul, Nat.reduceSub, Int.reduceAdd, Int.reduceSub, Nat.reduceLeDiff, Int.reduceLT, Int.reduceLE, Int.reduceEq, Int.reduceNeg, Int.reduceToNat]
  repeat' ((first | refine guardB_dec (fun hy => ?_) (fun hy => ?_) | refine guardB_bool (fun hy => ?_) (fun hy => ?_) | refine guardQ_ite (fun hy => ?_) (fun hy => ?_) | refine brQ_dec (fun hy => ?_) (fun hy => ?_) | refine brQ_bool (fun hy => ?_) (fun hy => ?_)) <;> (try simp only [Bool.not_eq_true', Bool.not_eq_false', Bool.and_eq_true, Bool.or_eq_false_iff, decide_eq_true_eq, decide_eq_false_iff_not] at hy) <;> simp (disch := first | rfl | omega | exact lt_new _ | assumption | decide | (simp [tk_here, tk_app, tk_0, tk_S, gr_here, gr_app, gr_0, gr_S] <;> omega) | fail) only [l8_14, r8_11, r8_15, t1, t7, t9, t11, t12, t13, Int.lt_irrefl, go_sem, ↓reduceIte, Nat.reduceLT, Nat.reduceEqDiff, Nat.reduceAdd, Nat.reduceMul, Nat.reduceSub, Int.reduceAdd, Int.reduceSub, Nat.reduceLeDiff, Int.reduceLT, Int.reduceLE, Int.reduceEq, Int.reduceNeg, Int.reduceToNat, hy])
  refine Wp_loop (fun m T D H1 => ∃ k, m = N' - k ∧ k ≤ N' ∧ D = [] ∧ H1 = H' ∧ get T 1 = slV bv inE v ∧ get T 7 = slV true inE L1 ∧ get T 9 = slV true inE L0 ∧ get T 11 = .int .i64 (sumI v v.length - gat g1 k) ∧ get T 12 = .int .i64 0 ∧ get T 14 = .int .i64 k) ?_ N' _ _ _ ?_
  case refine_2 => exact ⟨0, by simp (disch := first | rfl | omega | exact lt_new _ | assumption | decide | (simp [tk_here, tk_app, tk_0, tk_S, gr_here, gr_app, gr_0, gr_S] <;> omega) | fail) only [go_sem, ↓reduceIte, Nat.reduceLT, Nat.reduceEqDiff, Nat.reduceAdd, Nat.reduceMul, Nat.reduceSub, Int.reduceAdd, Int.reduceSub, Nat.reduceLeDiff, Int.reduceLT, Int.reduceLE, Int.reduceEq, Int.reduceNeg, Int.reduceToNat, t1, t7, t9, t11, t12]; simp [gat]⟩
  clear t1 t7 t9 t11 t12 t13
  rintro m T D H' ⟨k, rfl, hk1, rfl, rfl, t1, t7, t9, t11, t12, t14⟩
  by_cases hlt : k < N'
  · have hlt' : (k : Int) < L1.length := by omega
    have e1 := ha1 k hlt
    have b3 := hb1 k (by omega)
    have b4 := hb1 (k + 1) (by omega)
    have e2 : gat g1 (k + 1) = gat g1 k + g1 k := rfl
    simp (disch := first | rfl | omega | exact lt_new _ | assumption | decide | (simp [tk_here, tk_app, tk_0, tk_S, gr_here, gr_app, gr_0, gr_S] <;> omega) | fail) only [l8_19, r8_16, r8_17, r8_18, t1, t7, t9, t11, t12, t14, hlt', e1, go_sem, ↓reduceIte, Nat.reduceLT, Nat.reduceEqDiff, Nat.reduceAdd, Nat.reduceMul, Nat.reduceSub, Int.reduceAdd, Int.reduceSub, Nat.reduceLeDiff, Int.reduceLT, Int.reduceLE, Int.reduceEq, Int.reduceNeg, Int.reduceToNat]
    repeat' ((first | refine guardB_dec (fun hy => ?_) (fun hy => ?_) | refine guardB_bool (fun hy => ?_) (fun hy => ?_) | refine guardQ_ite (fun hy => ?_) (fun hy => ?_) | refine brQ_dec (fun hy => ?_) (fun hy => ?_) | refine brQ_bool (fun hy => ?_) (fun hy => ?_)) <;> (try simp only [Bool.not_eq_true', Bool.not_eq_false', Bool.and_eq_true, Bool.or_eq_false_iff, decide_eq_true_eq, decide_eq_false_iff_not] at hy) <;> simp (disch := first | rfl | omega | exact lt_new _ | assumption | decide | (simp [tk_here, tk_app, tk_0, tk_S, gr_here, gr_app, gr_0, gr_S] <;> omega) | fail) only [l8_19, r8_16, r8_17, r8_18, t1, t7, t9, t11, t12, t14, hlt', e1, go_sem, ↓reduceIte, Nat.reduceLT, Nat.reduceEqDiff, Nat.reduceAdd, Nat.reduceMul, Nat.reduceSub, Int.reduceAdd, Int.reduceSub, Nat.reduceLeDiff, Int.reduceLT, Int.reduceLE, Int.reduceEq, Int.reduceNeg, Int.reduceToNat, hy])
    exact ⟨_, by omega, k + 1, rfl, hlt, by rw [e2]; congr 1; omega, rfl⟩
  obtain rfl : k = N' := by omega
  have hlt' : ¬ (k : Int) < L1.length := by omega
  simp (disch := first | rfl | omega | exact lt_new _ | assumption | decide | (simp [tk_here, tk_app, tk_0, tk_S, gr_here, gr_app, gr_0, gr_S] <;> omega) | fail) only [l8_19, r8_16, r8_20, t1, t7, t9, t11, t12, t14, hlt', go_sem, ↓reduceIte, Nat.reduceLT, Nat.reduceEqDiff, Nat.reduceAdd, Nat.reduceMul, Nat.reduceSub, Int.reduceAdd, Int.reduceSub, Nat.reduceLeDiff, Int.reduceLT, Int.reduceLE, Int.reduceEq, Int.reduceNeg, Int.reduceToNat]
  repeat' ((first | refine guardB_dec (fun hy => ?_) (fun hy => ?_) | refine guardB_bool (fun hy => ?_) (fun hy => ?_) | refine guardQ_ite (fun hy => ?_) (fun hy => ?_) | refine brQ_dec (fun hy => ?_) (fun hy => ?_) | refine brQ_bool (fun hy => ?_) (fun hy => ?_)) <;> (try simp only [Bool.not_eq_true', Bool.not_eq_false', Bool.and_eq_true, Bool.or_eq_false_iff, decide_eq_true_eq, decide_eq_false_iff_not] at hy) <;> simp (disch := first | rfl | omega | exact lt_new _ | assumption | decide | (simp [tk_here, tk_app, tk_0, tk_S, gr_here, gr_app, gr_0, gr_S] <;> omega) | fail) only [l8_19, r8_16, r8_20, t1, t7, t9, t11, t12, t14, hlt', go_sem, ↓reduceIte, Nat.reduceLT, Nat.reduceEqDiff, Nat.reduceAdd, Nat.reduceMul, Nat.reduceSub, Int.reduceAdd, Int.reduceSub, Nat.reduceLeDiff, Int.reduceLT, Int.reduceLE, Int.reduceEq, Int.reduceNeg, Int.reduceToNat, hy])
  refine Wp_loop (fun m T D H1 => ∃ j, m = k - j ∧ j ≤ k ∧ D = [] ∧ H1 = H' ∧ get T 1 = slV bv inE v ∧ get T 9 = slV true inE L0 ∧ get T 11 = .int .i64 (sumI v v.length - gat g1 k) ∧ get T 12 = .int .i64 (gat g0 j) ∧ get T 15 = .int .i64 j) ?_ k _ _ _ ?_
  case refine_2 => exact ⟨0, by simp (disch := first | rfl | omega | exact lt_new _ | assumption | decide | (simp [tk_here, tk_app, tk_0, tk_S, gr_here, gr_app, gr_0, gr_S] <;> omega) | fail) only [go_sem, ↓reduceIte, Nat.reduceLT, Nat.reduceEqDiff, Nat.reduceAdd, Nat.reduceMul, Nat.reduceSub, Int.reduceAdd, Int.reduceSub, Nat.reduceLeDiff, Int.reduceLT, Int.reduceLE, Int.reduceEq, Int.reduceNeg, Int.reduceToNat, t1, t7, t9, t11, t12]; simp [gat]⟩
  clear t1 t7 t9 t11 t12 t14
  rintro m T D H' ⟨j, rfl, hj, rfl, rfl, t1, t9, t11, t12, t15⟩
  by_cases hlt : j < k
  · have hlt' : (j : Int) < L0.length := by omega
    have e1 := ha0 j hlt
    have b3 := hb0 j (by omega)
    have b4 := hb0 (j + 1) (by omega)
    have e2 : gat g0 (j + 1) = gat g0 j + g0 j := rfl
    simp (disch := first | rfl | omega | exact lt_new _ | assumption | decide | (simp [tk_here, tk_app, tk_0, tk_S, gr_here, gr_app, gr_0, gr_S] <;> omega) | fail) only [l8_24, r8_21, r8_22, r8_23, t1, t9, t11, t12, t15, hlt', e1, go_sem, ↓reduceIte, Nat.reduceLT, Nat.reduceEqDiff, Nat.reduceAdd, Nat.reduceMul, Nat.reduceSub, Int.reduceAdd, Int.reduceSub, Nat.reduceLeDiff, Int.reduceLT, Int.reduceLE, Int.reduceEq, Int.reduceNeg, Int.reduceToNat]
    repeat' ((first | refine guardB_dec (fun hy => ?_) (fun hy => ?_) | refine guardB_bool (fun hy => ?_) (fun hy => ?_) | refine guardQ_ite (fun hy => ?_) (fun hy => ?_) | refine brQ_dec (fun hy => ?_) (fun hy => ?_) | refine brQ_bool (fun hy => ?_) (fun hy => ?_)) <;> (try simp only [Bool.not_eq_true', Bool.not_eq_false', Bool.and_eq_true, Bool.or_eq_false_iff, decide_eq_true_eq, decide_eq_false_iff_not] at hy) <;> simp (disch := first | rfl | omega | exact lt_new _ | assumption | decide | (simp [tk_here, tk_app, tk_0, tk_S, gr_here, gr_app, gr_0, gr_S] <;> omega) | fail) only [l8_24, r8_21, r8_22, r8_23, t1, t9, t11, t12, t15, hlt', e1, go_sem, ↓reduceIte, Nat.reduceLT, Nat.reduceEqDiff, Nat.reduceAdd, Nat.reduceMul, Nat.reduceSub, Int.reduceAdd, Int.reduceSub, Nat.reduceLeDiff, Int.reduceLT, Int.reduceLE, Int.reduceEq, Int.reduceNeg, Int.reduceToNat, hy])
    exact ⟨_, by omega, j + 1, rfl, hlt, by rw [e2], rfl⟩
  obtain rfl : j = k := by omega
  have hlt' : ¬ (j : Int) < L0.length := by omega
  have z1 : sumI v v.length - gat g1 j = 0 := by rw [s1, hvl]; omega
  have z2 : gat g0 j = (v.length : Int) := by rw [s2]; omega
  rw [z1] at t11
  rw [z2] at t12
  simp (disch := first | rfl | omega | exact lt_new _ | assumption | decide | (simp [tk_here, tk_app, tk_0, tk_S, gr_here, gr_app, gr_0, gr_S] <;> omega) | fail) only [l8_24, r8_21, r8_25, rs8, gc8, t1, t9, t11, t12, t15, hlt', hk, go_sem, ↓reduceIte, Nat.reduceLT, Nat.reduceEqDiff, Nat.reduceAdd, Nat.reduceMul, Nat.reduceSub, Int.reduceAdd, Int.reduceSub, Nat.reduceLeDiff, Int.reduceLT, Int.reduceLE, Int.reduceEq, Int.reduceNeg, Int.reduceToNat]
  repeat' ((first | refine guardB_dec (fun hy => ?_) (fun hy => ?_) | refine guardB_bool (fun hy => ?_) (fun hy => ?_) | refine guardQ_ite (fun hy => ?_) (fun hy => ?_) | refine brQ_dec (fun hy => ?_) (fun hy => ?_) | refine brQ_bool (fun hy => ?_) (fun hy => ?_)) <;> (try simp only [Bool.not_eq_true', Bool.not_eq_false', Bool.and_eq_true, Bool.or_eq_false_iff, decide_eq_true_eq, decide_eq_false_iff_not] at hy) <;> simp (disch := first | rfl | omega | exact lt_new _ | assumption | decide | (simp [tk_here, tk_app, tk_0, tk_S, gr_here, gr_app, gr_0, gr_S] <;> omega) | fail) only [l8_24, r8_21, r8_25, rs8, gc8, t1, t9, t11, t12, t15, hlt', hk, go_sem, ↓reduceIte, Nat.reduceLT, Nat.reduceEqDiff, Nat.reduceAdd, Nat.reduceMul, Nat.reduceSub, Int.reduceAdd, Int.reduceSub, Nat.reduceLeDiff, Int.reduceLT, Int.reduceLE, Int.reduceEq, Int.reduceNeg, Int.reduceToNat, hy])
  all_goals (try ((first | refine finQ_same ?_ | refine finQ_app ?_ | (rw [List.append_assoc]; refine finQ_app ?_)) <;> simp (disch := first | rfl | omega | exact lt_new _ | assumption | decide | (simp [tk_here, tk_app, tk_0, tk_S, gr_here, gr_app, gr_0, gr_S] <;> omega) | fail) only [go_sem, ↓reduceIte, Nat.reduceLT, Nat.reduceEqDiff, Nat.reduceAdd, Nat.reduceMul, Nat.reduceSub, Int.reduceAdd, Int.reduceSub, Nat.reduceLeDiff, Int.reduceLT, Int.reduceLE, Int.reduceEq, Int.reduceNeg, Int.reduceToNat, List.append_assoc, List.cons_append, List.nil_append, *]))
  all_goals (try first | rfl | (simp [*]; done) | grind)
end Go.Proofs.YteeofpgnjekeaaaGreatDoor
