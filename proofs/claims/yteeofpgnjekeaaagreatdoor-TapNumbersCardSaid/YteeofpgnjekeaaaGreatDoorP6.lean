/-
  Texts of this seat, laid together. No statement of the seat stands here.
-/
import Derived.Test.YteeofpgnjekeaaaGreatDoorP5
/-
  What an interval's numbers tell: their sum, the least, the greatest, the mean; walked, for both. No statement of the seat stands here.
-/
namespace Go.Proofs.YteeofpgnjekeaaaGreatDoor
open Go Go.An
set_option maxRecDepth 4000
set_option linter.unusedSimpArgs false
set_option linter.unusedVariables false

/-- A list of whole numbers as a value that can be looked at: where each element lies. -/
def SqE (H : Hp) (s : V) (l : List Int) (A : Nat → V) : Prop := s.dem = s ∧ s.dem1 = s ∧ lenV Tryz.prog 27 H s = some (.int .i64 l.length) ∧ ∀ i : Nat, i < l.length → indexAddrV Tryz.prog 27 s (.int .i64 (i : Int)) = some (A i) ∧ loadV Tryz.prog 3 H (A i) = some (.int .i64 (inE.at l i))
theorem SqE_of {H : Hp} {s : V} {l : List Int} (h : LstE inE H s l) : ∃ A, SqE H s l A := by
  rcases h with ⟨b, rfl⟩ | ⟨id, g, rfl, hr⟩
  · refine ⟨fun i => .ipt (flatE inE l) (i * 1), slV_dem b inE l, slV_dem1 b inE l, ns27 b inE l, fun i hi => ⟨?_, ld_in hi⟩⟩
    have := is27 (E := inE) (l := l) (b := b) (k := .i64) (j := (i : Int)) rfl ⟨by omega, by omega⟩
    simpa using this
  · refine ⟨fun i => .ptr id g (0 + i * 1), rfl, rfl, n27 id g 0 l.length .full, fun i hi => ⟨?_, ?_⟩⟩
    · have := i27 (id := id) (g := g) (off := 0) (n := l.length) (cp := .full) (k := .i64) (j := (i : Int)) ⟨by omega, by omega⟩
      rw [Int.toNat_natCast] at this
      exact this
    · rw [ldR, hr]
      simp only [Option.bind_some, Nat.zero_add]
      exact lq_cell0 g3 rfl hi
/-- The quotient, rounded down. -/
def floorI (a b : Int) : Int := if a.tdiv b * b > a then a.tdiv b - 1 else a.tdiv b
theorem quo_fx {a b : Int} (hb : 0 < b) : a.tdiv b * b + a.tmod b = a ∧ -b < a.tmod b ∧ a.tmod b < b ∧ (0 ≤ a → 0 ≤ a.tdiv b ∧ a.tdiv b ≤ a ∧ 0 ≤ a.tmod b) ∧ (a ≤ 0 → a.tdiv b ≤ 0 ∧ a ≤ a.tdiv b ∧ a.tmod b ≤ 0) := by
  have h0 : a.tdiv b * b + a.tmod b = a := by rw [Int.mul_comm]; exact Int.mul_tdiv_add_tmod a b
  have pos : ∀ c : Int, 0 ≤ c → 0 ≤ c.tdiv b ∧ c.tdiv b ≤ c ∧ 0 ≤ c.tmod b ∧ c.tmod b < b := fun c hc =>
    ⟨Int.tdiv_nonneg hc (by omega), by rw [Int.tdiv_eq_ediv_of_nonneg hc]; exact Int.ediv_le_self b hc, Int.tmod_nonneg b hc, Int.tmod_lt_of_pos c hb⟩
  rcases Int.le_total 0 a with ha | ha
  · obtain ⟨p1, p2, p3, p4⟩ := pos a ha
    refine ⟨h0, by omega, p4, fun _ => ⟨p1, p2, p3⟩, fun h => ?_⟩
    obtain rfl : a = 0 := by omega
    simp
  · obtain ⟨p1, p2, p3, p4⟩ := pos (-a) (by omega)
    rw [Int.neg_tdiv] at p1 p2
    rw [Int.neg_tmod] at p3 p4
    refine ⟨h0, by omega, by omega, fun h => ?_, fun _ => ⟨by omega, by omega, by omega⟩⟩
    obtain rfl : a = 0 := by omega
    simp
theorem fn74 (a b : Int) (hb : 0 < b) (ha : -9000000000000000 ≤ a ∧ a ≤ 9000000000000000) (H : Hp) : callL Tryz.prog pr 74 [.int .i64 a, .int .i64 b] H = some (.int .i64 (floorI a b), H) := by
  obtain ⟨q0, q1, q2, q3, q4⟩ := quo_fx (a := a) hb
  have hb0 : ¬ b = 0 := by omega
  have hq : -9000000000000000 ≤ a.tdiv b ∧ a.tdiv b ≤ 9000000000000000 := by
    rcases Int.le_total 0 a with h | h
    · have := q3 h; omega
    · have := q4 h; omega
  have hm : -9000000000000000 ≤ a.tdiv b * b ∧ a.tdiv b * b ≤ 9000000000000000 := by
    rcases Int.le_total 0 a with h | h
    · have h1 := q3 h
      have := Int.mul_nonneg h1.1 (by omega : 0 ≤ b)
      omega
    · have h1 := q4 h
      have := Int.mul_nonneg (by omega : 0 ≤ -a.tdiv b) (by omega : 0 ≤ b)
      rw [Int.neg_mul] at this
      omega
  have w1 : IntKind.i64.wrap (a.tdiv b) = a.tdiv b := by simp (disch := first | rfl | omega | exact lt_new _ | assumption | decide | (simp [tk_here, tk_app, tk_0, tk_S, gr_here, gr_app, gr_0, gr_S] <;> omega) | fail) only [go_sem, ↓reduceIte, Nat.reduceLT, Nat.reduceEqDiff, Nat.reduceAdd, Nat.reduceMul, Nat.reduceSub, Int.reduceAdd, Int.reduceSub, Nat.reduceLeDiff, Int.reduceLT, Int.reduceLE, Int.reduceEq, Int.reduceNeg, Int.reduceToNat]
  have w2 : IntKind.i64.wrap (a.tdiv b * b) = a.tdiv b * b := by simp (disch := first | rfl | omega | exact lt_new _ | assumption | decide | (simp [tk_here, tk_app, tk_0, tk_S, gr_here, gr_app, gr_0, gr_S] <;> omega) | fail) only [go_sem, ↓reduceIte, Nat.reduceLT, Nat.reduceEqDiff, Nat.reduceAdd, Nat.reduceMul, Nat.reduceSub, Int.reduceAdd, Int.reduceSub, Nat.reduceLeDiff, Int.reduceLT, Int.reduceLE, Int.reduceEq, Int.reduceNeg, Int.reduceToNat]
  refine run74 (Nat.le_of_ble_eq_true rfl) ?_
  unfold floorI
  simp (disch := first | rfl | omega | exact lt_new _ | assumption | decide | (simp [tk_here, tk_app, tk_0, tk_S, gr_here, gr_app, gr_0, gr_S] <;> omega) | fail) only [r74_0, r74_1, r74_2, r74_3, r74_4, c74, rs74, gc74, hb0, w1, w2, go_sem, ↓reduceIte, Nat.reduceLT, Nat.reduceEqDiff, Nat.reduceAdd, Nat.reduceMul, Nat.reduceSub, Int.reduceAdd, Int.reduceSub, Nat.reduceLeDiff, Int.reduceLT, Int.reduceLE, Int.reduceEq, Int.reduceNeg, Int.reduceToNat]
  repeat' ((first | refine guardB_dec (fun hy => ?_) (fun hy => ?_) | refine guardB_bool (fun hy => ?_) (fun hy => ?_) | refine guardQ_ite (fun hy => ?_) (fun hy => ?_) | refine brQ_dec (fun hy => ?_) (fun hy => ?_) | refine brQ_bool (fun hy => ?_) (fun hy => ?_)) <;> (try simp only [Bool.not_eq_true', Bool.not_eq_false', Bool.and_eq_true, Bool.or_eq_false_iff, decide_eq_true_eq, decide_eq_false_iff_not] at hy) <;> simp (disch := first | rfl | omega | exact lt_new _ | assumption | decide | (simp [tk_here, tk_app, tk_0, tk_S, gr_here, gr_app, gr_0, gr_S] <;> omega) | fail) only [r74_0, r74_1, r74_2, r74_3, r74_4, c74, rs74, gc74, hb0, w1, w2, go_sem, ↓reduceIte, Nat.reduceLT, Nat.reduceEqDiff, Nat.reduceAdd, Nat.reduceMul, Nat.reduceSub, Int.reduceAdd, Int.reduceSub, Nat.reduceLeDiff, Int.reduceLT, Int.reduceLE, Int.reduceEq, Int.reduceNeg, Int.reduceToNat, hy])
  all_goals (try ((first | refine finQ_same ?_ | refine finQ_app ?_ | (rw [List.append_assoc]; refine finQ_app ?_)) <;> simp (disch := first | rfl | omega | exact lt_new _ | assumption | decide | (simp [tk_here, tk_app, tk_0, tk_S, gr_here, gr_app, gr_0, gr_S] <;> omega) | fail) only [go_sem, ↓reduceIte, Nat.reduceLT, Nat.reduceEqDiff, Nat.reduceAdd, Nat.reduceMul, Nat.reduceSub, Int.reduceAdd, Int.reduceSub, Nat.reduceLeDiff, Int.reduceLT, Int.reduceLE, Int.reduceEq, Int.reduceNeg, Int.reduceToNat, List.append_assoc, List.cons_append, List.nil_append, *]))
  all_goals (try first | rfl | (simp [*]; done) | grind)
theorem fn118 (a b : Int) (hb : 0 < b) (hb2 : b ≤ 200) (ha : -4000000000000000 ≤ a ∧ a ≤ 4000000000000000) (H : Hp) : callL Tryz.prog pr 118 [.int .i64 a, .int .i64 b] H = some (.int .i64 (floorI (2 * a + b) (2 * b)), H) := by
  obtain ⟨q0, q1, q2, q3, q4⟩ := quo_fx (a := 2 * a + b) (b := 2 * b) (by omega)
  have hb0 : ¬ 2 * b = 0 := by omega
  have hq : -9000000000000000 ≤ (2 * a + b).tdiv (2 * b) ∧ (2 * a + b).tdiv (2 * b) ≤ 9000000000000000 := by
    rcases Int.le_total 0 (2 * a + b) with h | h
    · have := q3 h; omega
    · have := q4 h; omega
  have w1 : IntKind.i64.wrap ((2 * a + b).tdiv (2 * b)) = (2 * a + b).tdiv (2 * b) := by simp (disch := first | rfl | omega | exact lt_new _ | assumption | decide | (simp [tk_here, tk_app, tk_0, tk_S, gr_here, gr_app, gr_0, gr_S] <;> omega) | fail) only [go_sem, ↓reduceIte, Nat.reduceLT, Nat.reduceEqDiff, Nat.reduceAdd, Nat.reduceMul, Nat.reduceSub, Int.reduceAdd, Int.reduceSub, Nat.reduceLeDiff, Int.reduceLT, Int.reduceLE, Int.reduceEq, Int.reduceNeg, Int.reduceToNat]
  have w2 : IntKind.i64.wrap ((2 * a + b).tmod (2 * b)) = (2 * a + b).tmod (2 * b) := by simp (disch := first | rfl | omega | exact lt_new _ | assumption | decide | (simp [tk_here, tk_app, tk_0, tk_S, gr_here, gr_app, gr_0, gr_S] <;> omega) | fail) only [go_sem, ↓reduceIte, Nat.reduceLT, Nat.reduceEqDiff, Nat.reduceAdd, Nat.reduceMul, Nat.reduceSub, Int.reduceAdd, Int.reduceSub, Nat.reduceLeDiff, Int.reduceLT, Int.reduceLE, Int.reduceEq, Int.reduceNeg, Int.reduceToNat]
  have w3 : IntKind.i64.wrap (2 * a + b) = 2 * a + b := by simp (disch := first | rfl | omega | exact lt_new _ | assumption | decide | (simp [tk_here, tk_app, tk_0, tk_S, gr_here, gr_app, gr_0, gr_S] <;> omega) | fail) only [go_sem, ↓reduceIte, Nat.reduceLT, Nat.reduceEqDiff, Nat.reduceAdd, Nat.reduceMul, Nat.reduceSub, Int.reduceAdd, Int.reduceSub, Nat.reduceLeDiff, Int.reduceLT, Int.reduceLE, Int.reduceEq, Int.reduceNeg, Int.reduceToNat]
  have w4 : IntKind.i64.wrap (2 * a) = 2 * a := by simp (disch := first | rfl | omega | exact lt_new _ | assumption | decide | (simp [tk_here, tk_app, tk_0, tk_S, gr_here, gr_app, gr_0, gr_S] <;> omega) | fail) only [go_sem, ↓reduceIte, Nat.reduceLT, Nat.reduceEqDiff, Nat.reduceAdd, Nat.reduceMul, Nat.reduceSub, Int.reduceAdd, Int.reduceSub, Nat.reduceLeDiff, Int.reduceLT, Int.reduceLE, Int.reduceEq, Int.reduceNeg, Int.reduceToNat]
  have w5 : IntKind.i64.wrap (2 * b) = 2 * b := by simp (disch := first | rfl | omega | exact lt_new _ | assumption | decide | (simp [tk_here, tk_app, tk_0, tk_S, gr_here, gr_app, gr_0, gr_S] <;> omega) | fail) only [go_sem, ↓reduceIte, Nat.reduceLT, Nat.reduceEqDiff, Nat.reduceAdd, Nat.reduceMul, Nat.reduceSub, Int.reduceAdd, Int.reduceSub, Nat.reduceLeDiff, Int.reduceLT, Int.reduceLE, Int.reduceEq, Int.reduceNeg, Int.reduceToNat]
  have hc : floorI (2 * a + b) (2 * b) = if (2 * a + b).tmod (2 * b) < 0 then (2 * a + b).tdiv (2 * b) - 1 else (2 * a + b).tdiv (2 * b) := by
    unfold floorI
    by_cases h : (2 * a + b).tmod (2 * b) < 0
    · rw [if_pos h, if_pos (by omega)]
    · rw [if_neg h, if_neg (by omega)]
  rw [hc]
  refine run118 (Nat.le_of_ble_eq_true rfl) ?_
  simp (disch := first | rfl | omega | exact lt_new _ | assumption | decide | (simp [tk_here, tk_app, tk_0, tk_S, gr_here, gr_app, gr_0, gr_S] <;> omega) | fail) only [r118_0, r118_1, r118_2, r118_3, r118_4, r118_5, c118, rs118, gc118, hb0, w1, w2, w3, w4, w5, go_sem, ↓reduceIte, Nat.reduceLT, Nat.reduceEqDiff, Nat.reduceAdd, Nat.reduceMul, Nat.reduceSub, Int.reduceAdd, Int.reduceSub, Nat.reduceLeDiff, Int.reduceLT, Int.reduceLE, Int.reduceEq, Int.reduceNeg, Int.reduceToNat]
  repeat' ((first | refine guardB_dec (fun hy => ?_) (fun hy => ?_) | refine guardB_bool (fun hy => ?_) (fun hy => ?_) | refine guardQ_ite (fun hy => ?_) (fun hy => ?_) | refine brQ_dec (fun hy => ?_) (fun hy => ?_) | refine brQ_bool (fun hy => ?_) (fun hy => ?_)) <;> (try simp only [Bool.not_eq_true', Bool.not_eq_false', Bool.and_eq_true, Bool.or_eq_false_iff, decide_eq_true_eq, decide_eq_false_iff_not] at hy) <;> simp (disch := first | rfl | omega | exact lt_new _ | assumption | decide | (simp [tk_here, tk_app, tk_0, tk_S, gr_here, gr_app, gr_0, gr_S] <;> omega) | fail) only [r118_0, r118_1, r118_2, r118_3, r118_4, r118_5, c118, rs118, gc118, hb0, w1, w2, w3, w4, w5, go_sem, ↓reduceIte, Nat.reduceLT, Nat.reduceEqDiff, Nat.reduceAdd, Nat.reduceMul, Nat.reduceSub, Int.reduceAdd, Int.reduceSub, Nat.reduceLeDiff, Int.reduceLT, Int.reduceLE, Int.reduceEq, Int.reduceNeg, Int.reduceToNat, hy])
  all_goals (try ((first | refine finQ_same ?_ | refine finQ_app ?_ | (rw [List.append_assoc]; refine finQ_app ?_)) <;> simp (disch := first | rfl | omega | exact lt_new _ | assumption | decide | (simp [tk_here, tk_app, tk_0, tk_S, gr_here, gr_app, gr_0, gr_S] <;> omega) | fail) only [go_sem, ↓reduceIte, Nat.reduceLT, Nat.reduceEqDiff, Nat.reduceAdd, Nat.reduceMul, Nat.reduceSub, Int.reduceAdd, Int.reduceSub, Nat.reduceLeDiff, Int.reduceLT, Int.reduceLE, Int.reduceEq, Int.reduceNeg, Int.reduceToNat, List.append_assoc, List.cons_append, List.nil_append, *]))
  all_goals (try first | rfl | (simp [*]; done) | grind)
def sumI (l : List Int) : Nat → Int
  | 0 => 0
  | k + 1 => sumI l k + inE.at l k
def mxI (l : List Int) : Nat → Int
  | 0 => inE.at l 0
  | k + 1 => if inE.at l k > mxI l k then inE.at l k else mxI l k
def mnI (l : List Int) : Nat → Int
  | 0 => inE.at l 0
  | k + 1 => if inE.at l k < mnI l k then inE.at l k else mnI l k
theorem mx1 (l : List Int) : mxI l 1 = inE.at l 0 := by simp [mxI]
theorem mn1 (l : List Int) : mnI l 1 = inE.at l 0 := by simp [mnI]
/-- Small numbers, and not many. -/
def Sml (l : List Int) : Prop := l.length ≤ 200 ∧ ∀ x ∈ l, -4503599627370 ≤ x ∧ x ≤ 4503599627370
theorem Sml.sum {l : List Int} (h : Sml l) : ∀ k ≤ l.length, -(k * 4503599627370) ≤ sumI l k ∧ sumI l k ≤ k * 4503599627370
  | 0, _ => by simp [sumI]
  | k + 1, hk => by
    have h1 := h.sum k (by omega)
    have h2 := h.2 _ (inE.at_mem (i := k) (by omega))
    unfold sumI
    omega
theorem fn70 {s : V} {l : List Int} {A : Nat → V} {H : Hp} (hs : SqE H s l A) (h0 : 0 < l.length) (h1 : l.length ≤ 2 ^ 60) : callL Tryz.prog pr 70 [s] H = some (.int .i64 (mxI l l.length), H) := by
  obtain ⟨d0, d1, d2, d3⟩ := hs
  obtain ⟨e1, e2⟩ := d3 0 h0
  simp only [Int.natCast_zero] at e1
  have hl1 : ¬ (l.length : Int) < 1 := by omega
  refine run70 (Nat.le_of_ble_eq_true rfl) ?_
  simp (disch := first | rfl | omega | exact lt_new _ | assumption | decide | (simp [tk_here, tk_app, tk_0, tk_S, gr_here, gr_app, gr_0, gr_S] <;> omega) | fail) only [r70_0, r70_1, r70_2, r70_3, r70_4, r70_5, r70_6, r70_7, r70_9, c70, rs70, gc70, d0, d1, d2, e1, e2, hl1, go_sem, ↓reduceIte, Nat.reduceLT, Nat.reduceEqDiff, Nat.reduceAdd, Nat.reduceMul, Nat.reduceSub, Int.reduceAdd, Int.reduceSub, Nat.reduceLeDiff, Int.reduceLT, Int.reduceLE, Int.reduceEq, Int.reduceNeg, Int.reduceToNat]
  repeat' ((first | refine guardB_dec (fun hy => ?_) (fun hy => ?_) | refine guardB_bool (fun hy => ?_) (fun hy => ?_) | refine guardQ_ite (fun hy => ?_) (fun hy => ?_) | refine brQ_dec (fun hy => ?_) (fun hy => ?_) | refine brQ_bool (fun hy => ?_) (fun hy => ?_)) <;> (try simp only [Bool.not_eq_true', Bool.not_eq_false', Bool.and_eq_true, Bool.or_eq_false_iff, decide_eq_true_eq, decide_eq_false_iff_not] at hy) <;> simp (disch := first | rfl | omega | exact lt_new _ | assumption | decide | (simp [tk_here, tk_app, tk_0, tk_S, gr_here, gr_app, gr_0, gr_S] <;> omega) | fail) only [r70_0, r70_1, r70_2, r70_3, r70_4, r70_5, r70_6, r70_7, r70_9, c70, rs70, gc70, d0, d1, d2, e1, e2, hl1, go_sem, ↓reduceIte, Nat.reduceLT, Nat.reduceEqDiff, Nat.reduceAdd, Nat.reduceMul, Nat.reduceSub, Int.reduceAdd, Int.reduceSub, Nat.reduceLeDiff, Int.reduceLT, Int.reduceLE, Int.reduceEq, Int.reduceNeg, Int.reduceToNat, hy])
  refine Wp_loop (fun m T D H' => ∃ i, m = l.length - i ∧ 1 ≤ i ∧ i ≤ l.length ∧ D = [] ∧ H' = H ∧ get T 0 = s ∧ get T 3 = .int .i64 (mxI l i) ∧ get T 4 = .int .i64 i) ?_ (l.length - 1) _ _ _ ?_
  case refine_2 => exact ⟨1, rfl, Nat.le_refl _, h0, by simp (disch := first | rfl | omega | exact lt_new _ | assumption | decide | (simp [tk_here, tk_app, tk_0, tk_S, gr_here, gr_app, gr_0, gr_S] <;> omega) | fail) only [go_sem, ↓reduceIte, Nat.reduceLT, Nat.reduceEqDiff, Nat.reduceAdd, Nat.reduceMul, Nat.reduceSub, Int.reduceAdd, Int.reduceSub, Nat.reduceLeDiff, Int.reduceLT, Int.reduceLE, Int.reduceEq, Int.reduceNeg, Int.reduceToNat, mx1]⟩
  rintro m T D H' ⟨i, rfl, hi1, hi, rfl, rfl, t0, t3, t4⟩
  by_cases hlt : i < l.length
  · have hlt' : (i : Int) < l.length := by omega
    obtain ⟨e1, e2⟩ := d3 i hlt
    have hm : mxI l (i + 1) = if inE.at l i > mxI l i then inE.at l i else mxI l i := rfl
    simp (disch := first | rfl | omega | exact lt_new _ | assumption | decide | (simp [tk_here, tk_app, tk_0, tk_S, gr_here, gr_app, gr_0, gr_S] <;> omega) | fail) only [l70_8, r70_5, r70_6, r70_7, d0, d1, d2, e1, e2, t0, t3, t4, hlt', go_sem, ↓reduceIte, Nat.reduceLT, Nat.reduceEqDiff, Nat.reduceAdd, Nat.reduceMul, Nat.reduceSub, Int.reduceAdd, Int.reduceSub, Nat.reduceLeDiff, Int.reduceLT, Int.reduceLE, Int.reduceEq, Int.reduceNeg, Int.reduceToNat]
    repeat' ((first | refine guardB_dec (fun hy => ?_) (fun hy => ?_) | refine guardB_bool (fun hy => ?_) (fun hy => ?_) | refine guardQ_ite (fun hy => ?_) (fun hy => ?_) | refine brQ_dec (fun hy => ?_) (fun hy => ?_) | refine brQ_bool (fun hy => ?_) (fun hy => ?_)) <;> (try simp only [Bool.not_eq_true', Bool.not_eq_false', Bool.and_eq_true, Bool.or_eq_false_iff, decide_eq_true_eq, decide_eq_false_iff_not] at hy) <;> simp (disch := first | rfl | omega | exact lt_new _ | assumption | decide | (simp [tk_here, tk_app, tk_0, tk_S, gr_here, gr_app, gr_0, gr_S] <;> omega) | fail) only [l70_8, r70_5, r70_6, r70_7, d0, d1, d2, e1, e2, t0, t3, t4, hlt', go_sem, ↓reduceIte, Nat.reduceLT, Nat.reduceEqDiff, Nat.reduceAdd, Nat.reduceMul, Nat.reduceSub, Int.reduceAdd, Int.reduceSub, Nat.reduceLeDiff, Int.reduceLT, Int.reduceLE, Int.reduceEq, Int.reduceNeg, Int.reduceToNat, hy])
    exact ⟨_, by omega, i + 1, rfl, by omega, hlt, by rw [hm], rfl⟩
  · obtain rfl : i = l.length := by omega
    simp (disch := first | rfl | omega | exact lt_new _ | assumption | decide | (simp [tk_here, tk_app, tk_0, tk_S, gr_here, gr_app, gr_0, gr_S] <;> omega) | fail) only [l70_8, r70_5, r70_9, rs70, gc70, d0, d1, d2, t0, t3, t4, Int.lt_irrefl, go_sem, ↓reduceIte, Nat.reduceLT, Nat.reduceEqDiff, Nat.reduceAdd, Nat.reduceMul, Nat.reduceSub, Int.reduceAdd, Int.reduceSub, Nat.reduceLeDiff, Int.reduceLT, Int.reduceLE, Int.reduceEq, Int.reduceNeg, Int.reduceToNat]
    repeat' ((first | refine guardB_dec (fun hy => ?_) (fun hy => ?_) | refine guardB_bool (fun hy => ?_) (fun hy => ?_) | refine guardQ_ite (fun hy => ?_) (fun hy => ?_) | refine brQ_dec (fun hy => ?_) (fun hy => ?_) | refine brQ_bool (fun hy => ?_) (fun hy => ?_)) <;> (try simp only [Bool.not_eq_true', Bool.not_eq_false', Bool.and_eq_true, Bool.or_eq_false_iff, decide_eq_true_eq, decide_eq_false_iff_not] at hy) <;> simp (disch := first | rfl | omega | exact lt_new _ | assumption | decide | (simp [tk_here, tk_app, tk_0, tk_S, gr_here, gr_app, gr_0, gr_S] <;> omega) | fail) only [l70_8, r70_5, r70_9, rs70, gc70, d0, d1, d2, t0, t3, t4, Int.lt_irrefl, go_sem, ↓reduceIte, Nat.reduceLT, Nat.reduceEqDiff, Nat.reduceAdd, Nat.reduceMul, Nat.reduceSub, Int.reduceAdd, Int.reduceSub, Nat.reduceLeDiff, Int.reduceLT, Int.reduceLE, Int.reduceEq, Int.reduceNeg, Int.reduceToNat, hy])
    all_goals (try ((first | refine finQ_same ?_ | refine finQ_app ?_ | (rw [List.append_assoc]; refine finQ_app ?_)) <;> simp (disch := first | rfl | omega | exact lt_new _ | assumption | decide | (simp [tk_here, tk_app, tk_0, tk_S, gr_here, gr_app, gr_0, gr_S] <;> omega) | fail) only [go_sem, ↓reduceIte, Nat.reduceLT, Nat.reduceEqDiff, Nat.reduceAdd, Nat.reduceMul, Nat.reduceSub, Int.reduceAdd, Int.reduceSub, Nat.reduceLeDiff, Int.reduceLT, Int.reduceLE, Int.reduceEq, Int.reduceNeg, Int.reduceToNat, List.append_assoc, List.cons_append, List.nil_append, *]))
    all_goals (try first | rfl | (simp [*]; done) | grind)
theorem fn117 {s : V} {l : List Int} {A : Nat → V} {H : Hp} (hs : SqE H s l A) (h0 : 0 < l.length) (h1 : l.length ≤ 2 ^ 60) : callL Tryz.prog pr 117 [s] H = some (.int .i64 (mnI l l.length), H) := by
  obtain ⟨d0, d1, d2, d3⟩ := hs
  obtain ⟨e1, e2⟩ := d3 0 h0
  simp only [Int.natCast_zero] at e1
  have hl1 : ¬ (l.length : Int) < 1 := by omega
  refine run117 (Nat.le_of_ble_eq_true rfl) ?_
  simp (disch := first | rfl | omega | exact lt_new _ | assumption | decide | (simp [tk_here, tk_app, tk_0, tk_S, gr_here, gr_app, gr_0, gr_S] <;> omega) | fail) only [r117_0, r117_1, r117_2, r117_3, r117_4, r117_5, r117_6, r117_7, r117_9, c117, rs117, gc117, d0, d1, d2, e1, e2, hl1, go_sem, ↓reduceIte, Nat.reduceLT, Nat.reduceEqDiff, Nat.reduceAdd, Nat.reduceMul, Nat.reduceSub, Int.reduceAdd, Int.reduceSub, Nat.reduceLeDiff, Int.reduceLT, Int.reduceLE, Int.reduceEq, Int.reduceNeg, Int.reduceToNat]
  repeat' ((first | refine guardB_dec (fun hy => ?_) (fun hy => ?_) | refine guardB_bool (fun hy => ?_) (fun hy => ?_) | refine guardQ_ite (fun hy => ?_) (fun hy => ?_) | refine brQ_dec (fun hy => ?_) (fun hy => ?_) | refine brQ_bool (fun hy => ?_) (fun hy => ?_)) <;> (try simp only [Bool.not_eq_true', Bool.not_eq_false', Bool.and_eq_true, Bool.or_eq_false_iff, decide_eq_true_eq, decide_eq_false_iff_not] at hy) <;> simp (disch := first | rfl | omega | exact lt_new _ | assumption | decide | (simp [tk_here, tk_app, tk_0, tk_S, gr_here, gr_app, gr_0, gr_S] <;> omega) | fail) only [r117_0, r117_1, r117_2, r117_3, r117_4, r117_5, r117_6, r117_7, r117_9, c117, rs117, gc117, d0, d1, d2, e1, e2, hl1, go_sem, ↓reduceIte, Nat.reduceLT, Nat.reduceEqDiff, Nat.reduceAdd, Nat.reduceMul, Nat.reduceSub, Int.reduceAdd, Int.reduceSub, Nat.reduceLeDiff, Int.reduceLT, Int.reduceLE, Int.reduceEq, Int.reduceNeg, Int.reduceToNat, hy])
  refine Wp_loop (fun m T D H' => ∃ i, m = l.length - i ∧ 1 ≤ i ∧ i ≤ l.length ∧ D = [] ∧ H' = H ∧ get T 0 = s ∧ get T 3 = .int .i64 (mnI l i) ∧ get T 4 = .int .i64 i) ?_ (l.length - 1) _ _ _ ?_
  case refine_2 => exact ⟨1, rfl, Nat.le_refl _, h0, by simp (disch := first | rfl | omega | exact lt_new _ | assumption | decide | (simp [tk_here, tk_app, tk_0, tk_S, gr_here, gr_app, gr_0, gr_S] <;> omega) | fail) only [go_sem, ↓reduceIte, Nat.reduceLT, Nat.reduceEqDiff, Nat.reduceAdd, Nat.reduceMul, Nat.reduceSub, Int.reduceAdd, Int.reduceSub, Nat.reduceLeDiff, Int.reduceLT, Int.reduceLE, Int.reduceEq, Int.reduceNeg, Int.reduceToNat, mn1]⟩
  rintro m T D H' ⟨i, rfl, hi1, hi, rfl, rfl, t0, t3, t4⟩
  by_cases hlt : i < l.length
  · have hlt' : (i : Int) < l.length := by omega
    obtain ⟨e1, e2⟩ := d3 i hlt
    have hm : mnI l (i + 1) = if inE.at l i < mnI l i then inE.at l i else mnI l i := rfl
    simp (disch := first | rfl | omega | exact lt_new _ | assumption | decide | (simp [tk_here, tk_app, tk_0, tk_S, gr_here, gr_app, gr_0, gr_S] <;> omega) | fail) only [l117_8, r117_5, r117_6, r117_7, d0, d1, d2, e1, e2, t0, t3, t4, hlt', go_sem, ↓reduceIte, Nat.reduceLT, Nat.reduceEqDiff, Nat.reduceAdd, Nat.reduceMul, Nat.reduceSub, Int.reduceAdd, Int.reduceSub, Nat.reduceLeDiff, Int.reduceLT, Int.reduceLE, Int.reduceEq, Int.reduceNeg, Int.reduceToNat]
    repeat' ((first | refine guardB_dec (fun hy => ?_) (fun hy => ?_) | refine guardB_bool (fun hy => ?_) (fun hy => ?_) | refine guardQ_ite (fun hy => ?_) (fun hy => ?_) | refine brQ_dec (fun hy => ?_) (fun hy => ?_) | refine brQ_bool (fun hy => ?_) (fun hy => ?_)) <;> (try simp only [Bool.not_eq_true', Bool.not_eq_false', Bool.and_eq_true, Bool.or_eq_false_iff, decide_eq_true_eq, decide_eq_false_iff_not] at hy) <;> simp (disch := first | rfl | omega | exact lt_new _ | assumption | decide | (simp [tk_here, tk_app, tk_0, tk_S, gr_here, gr_app, gr_0, gr_S] <;> omega) | fail) only [l117_8, r117_5, r117_6, r117_7, d0, d1, d2, e1, e2, t0, t3, t4, hlt', go_sem, ↓reduceIte, Nat.reduceLT, Nat.reduceEqDiff, Nat.reduceAdd, Nat.reduceMul, Nat.reduceSub, Int.reduceAdd, Int.reduceSub, Nat.reduceLeDiff, Int.reduceLT, Int.reduceLE, Int.reduceEq, Int.reduceNeg, Int.reduceToNat, hy])
    exact ⟨_, by omega, i + 1, rfl, by omega, hlt, by rw [hm], rfl⟩
  · obtain rfl : i = l.length := by omega
    simp (disch := first | rfl | omega | exact lt_new _ | assumption | decide | (simp [tk_here, tk_app, tk_0, tk_S, gr_here, gr_app, gr_0, gr_S] <;> omega) | fail) only [l117_8, r117_5, r117_9, rs117, gc117, d0, d1, d2, t0, t3, t4, Int.lt_irrefl, go_sem, ↓reduceIte, Nat.reduceLT, Nat.reduceEqDiff, Nat.reduceAdd, Nat.reduceMul, Nat.reduceSub, Int.reduceAdd, Int.reduceSub, Nat.reduceLeDiff, Int.reduceLT, Int.reduceLE, Int.reduceEq, Int.reduceNeg, Int.reduceToNat]
    repeat' ((first | refine guardB_dec (fun hy => ?_) (fun hy => ?_) | refine guardB_bool (fun hy => ?_) (fun hy => ?_) | refine guardQ_ite (fun hy => ?_) (fun hy => ?_) | refine brQ_dec (fun hy => ?_) (fun hy => ?_) | refine brQ_bool (fun hy => ?_) (fun hy => ?_)) <;> (try simp only [Bool.not_eq_true', Bool.not_eq_false', Bool.and_eq_true, Bool.or_eq_false_iff, decide_eq_true_eq, decide_eq_false_iff_not] at hy) <;> simp (disch := first | rfl | omega | exact lt_new _ | assumption | decide | (simp [tk_here, tk_app, tk_0, tk_S, gr_here, gr_app, gr_0, gr_S] <;> omega) | fail) only [l117_8, r117_5, r117_9, rs117, gc117, d0, d1, d2, t0, t3, t4, Int.lt_irrefl, go_sem, ↓reduceIte, Nat.reduceLT, Nat.reduceEqDiff, Nat.reduceAdd, Nat.reduceMul, Nat.reduceSub, Int.reduceAdd, Int.reduceSub, Nat.reduceLeDiff, Int.reduceLT, Int.reduceLE, Int.reduceEq, Int.reduceNeg, Int.reduceToNat, hy])
    all_goals (try ((first | refine finQ_same ?_ | refine finQ_app ?_ | (rw [List.append_assoc]; refine finQ_app ?_)) <;> simp (disch := first | rfl | omega | exact lt_new _ | assumption | decide | (simp [tk_here, tk_app, tk_0, tk_S, gr_here, gr_app, gr_0, gr_S] <;> omega) | fail) only [go_sem, ↓reduceIte, Nat.reduceLT, Nat.reduceEqDiff, Nat.reduceAdd, Nat.reduceMul, Nat.reduceSub, Int.reduceAdd, Int.reduceSub, Nat.reduceLeDiff, Int.reduceLT, Int.reduceLE, Int.reduceEq, Int.reduceNeg, Int.reduceToNat, List.append_assoc, List.cons_append, List.nil_append, *]))
    all_goals (try first | rfl | (simp [*]; done) | grind)
end Go.Proofs.YteeofpgnjekeaaaGreatDoor
/-
  Smoothed numbers, for both; walked. No statement of the seat stands here.
-/
namespace Go.Proofs.YteeofpgnjekeaaaGreatDoor
open Go Go.An
set_option maxRecDepth 4000
set_option linter.unusedSimpArgs false
set_option linter.unusedVariables false

def bigN (n : Int) : Bool := decide (4503599627370496 < n) || decide (n < -4503599627370496)
theorem fn73 (n : Int) (H : Hp) : callL Tryz.prog pr 73 [.int .i64 n] H = some (.bool (bigN n), H) := by
  refine run73 (Nat.le_of_ble_eq_true rfl) ?_
  unfold bigN
  simp (disch := first | rfl | omega | exact lt_new _ | assumption | decide | (simp [tk_here, tk_app, tk_0, tk_S, gr_here, gr_app, gr_0, gr_S] <;> omega) | fail) only [r73_0, r73_1, c73, rs73, gc73, go_sem, ↓reduceIte, Nat.reduceLT, Nat.reduceEqDiff, Nat.reduceAdd, Nat.reduceMul, Nat.reduceSub, Int.reduceAdd, Int.reduceSub, Nat.reduceLeDiff, Int.reduceLT, Int.reduceLE, Int.reduceEq, Int.reduceNeg, Int.reduceToNat]
  repeat' ((first | refine guardB_dec (fun hy => ?_) (fun hy => ?_) | refine guardB_bool (fun hy => ?_) (fun hy => ?_) | refine guardQ_ite (fun hy => ?_) (fun hy => ?_) | refine brQ_dec (fun hy => ?_) (fun hy => ?_) | refine brQ_bool (fun hy => ?_) (fun hy => ?_)) <;> (try simp only [Bool.not_eq_true', Bool.not_eq_false', Bool.and_eq_true, Bool.or_eq_false_iff, decide_eq_true_eq, decide_eq_false_iff_not] at hy) <;> simp (disch := first | rfl | omega | exact lt_new _ | assumption | decide | (simp [tk_here, tk_app, tk_0, tk_S, gr_here, gr_app, gr_0, gr_S] <;> omega) | fail) only [r73_0, r73_1, c73, rs73, gc73, go_sem, ↓reduceIte, Nat.reduceLT, Nat.reduceEqDiff, Nat.reduceAdd, Nat.reduceMul, Nat.reduceSub, Int.reduceAdd, Int.reduceSub, Nat.reduceLeDiff, Int.reduceLT, Int.reduceLE, Int.reduceEq, Int.reduceNeg, Int.reduceToNat, hy])
  all_goals (try ((first | refine finQ_same ?_ | refine finQ_app ?_ | (rw [List.append_assoc]; refine finQ_app ?_)) <;> simp (disch := first | rfl | omega | exact lt_new _ | assumption | decide | (simp [tk_here, tk_app, tk_0, tk_S, gr_here, gr_app, gr_0, gr_S] <;> omega) | fail) only [go_sem, ↓reduceIte, Nat.reduceLT, Nat.reduceEqDiff, Nat.reduceAdd, Nat.reduceMul, Nat.reduceSub, Int.reduceAdd, Int.reduceSub, Nat.reduceLeDiff, Int.reduceLT, Int.reduceLE, Int.reduceEq, Int.reduceNeg, Int.reduceToNat, List.append_assoc, List.cons_append, List.nil_append, *]))
  all_goals (try first | rfl | (simp [*]; done) | grind)
def Big (l : List Int) : Prop := l.length ≤ 200 ∧ ∀ x ∈ l, -4503599627370496 ≤ x ∧ x ≤ 4503599627370496
theorem Big.of {l : List Int} (h0 : l.length ≤ 200) (h : l.any bigN = false) : Big l := ⟨h0, fun x hx => by
  rw [List.any_eq_false] at h
  have := h x hx
  simp [bigN] at this
  omega⟩
theorem Big.sum {l : List Int} (h : Big l) : ∀ k ≤ l.length, -(k * 4503599627370496) ≤ sumI l k ∧ sumI l k ≤ k * 4503599627370496
  | 0, _ => by simp [sumI]
  | k + 1, hk => by
    have h1 := h.sum k (by omega)
    have h2 := h.2 _ (inE.at_mem (i := k) (by omega))
    unfold sumI
    omega
set_option maxHeartbeats 4000000 in
theorem fn71s {b : Bool} {l : List Int} (hl : Big l) (h0 : 0 < l.length) (H : Hp) : callL Tryz.prog pr 71 [slV b inE l, .int .i64 1] H = some (.int .i64 (sumI l l.length), H) := by
  have hl0 := hl.1
  have hsum := hl.sum
  refine run71 (Nat.le_of_ble_eq_true rfl) ?_
  have hz2 : ¬ (l.length : Int) = 0 := by omega
  simp (disch := first | rfl | omega | exact lt_new _ | assumption | decide | (simp [tk_here, tk_app, tk_0, tk_S, gr_here, gr_app, gr_0, gr_S] <;> omega) | fail) only [r71_0, r71_1, r71_3, r71_4, c71, hz2, go_sem, ↓reduceIte, Nat.reduceLT, Nat.reduceEqDiff, Nat.reduceAdd, Nat.reduceMul, Nat.reduceSub, Int.reduceAdd, Int.reduceSub, Nat.reduceLeDiff, Int.reduceLT, Int.reduceLE, Int.reduceEq, Int.reduceNeg, Int.reduceToNat]
  repeat' ((first | refine guardB_dec (fun hy => ?_) (fun hy => ?_) | refine guardB_bool (fun hy => ?_) (fun hy => ?_) | refine guardQ_ite (fun hy => ?_) (fun hy => ?_) | refine brQ_dec (fun hy => ?_) (fun hy => ?_) | refine brQ_bool (fun hy => ?_) (fun hy => ?_)) <;> (try simp only [Bool.not_eq_true', Bool.not_eq_false', Bool.and_eq_true, Bool.or_eq_false_iff, decide_eq_true_eq, decide_eq_false_iff_not] at hy) <;> simp (disch := first | rfl | omega | exact lt_new _ | assumption | decide | (simp [tk_here, tk_app, tk_0, tk_S, gr_here, gr_app, gr_0, gr_S] <;> omega) | fail) only [r71_0, r71_1, r71_3, r71_4, c71, hz2, go_sem, ↓reduceIte, Nat.reduceLT, Nat.reduceEqDiff, Nat.reduceAdd, Nat.reduceMul, Nat.reduceSub, Int.reduceAdd, Int.reduceSub, Nat.reduceLeDiff, Int.reduceLT, Int.reduceLE, Int.reduceEq, Int.reduceNeg, Int.reduceToNat, hy])
  refine Wp_loop (fun m T D H' => ∃ i, m = l.length - i ∧ i ≤ l.length ∧ D = [] ∧ H' = H ∧ get T 0 = slV b inE l ∧ get T 1 = .int .i64 1 ∧ get T 5 = .int .i64 (sumI l i) ∧ get T 11 = slV b inE l ∧ get T 12 = .int .i64 l.length ∧ get T 13 = .int .i64 i) ?_ l.length _ _ _ ?_
  case refine_2 => exact ⟨0, by simp (disch := first | rfl | omega | exact lt_new _ | assumption | decide | (simp [tk_here, tk_app, tk_0, tk_S, gr_here, gr_app, gr_0, gr_S] <;> omega) | fail) only [go_sem, ↓reduceIte, Nat.reduceLT, Nat.reduceEqDiff, Nat.reduceAdd, Nat.reduceMul, Nat.reduceSub, Int.reduceAdd, Int.reduceSub, Nat.reduceLeDiff, Int.reduceLT, Int.reduceLE, Int.reduceEq, Int.reduceNeg, Int.reduceToNat]; simp [sumI]⟩
  rintro m T D H' ⟨i, rfl, hi, rfl, rfl, t0, t1, t5, t11, t12, t13⟩
  by_cases hlt : i < l.length
  · have hlt' : (i : Int) < l.length := by omega
    have b1 := hsum i hi
    have b2 := hl.2 _ (inE.at_mem hlt)
    simp (disch := first | rfl | omega | exact lt_new _ | assumption | decide | (simp [tk_here, tk_app, tk_0, tk_S, gr_here, gr_app, gr_0, gr_S] <;> omega) | fail) only [l71_9, r71_5, r71_6, r71_7, r71_8, t0, t1, t5, t11, t12, t13, hlt', go_sem, ↓reduceIte, Nat.reduceLT, Nat.reduceEqDiff, Nat.reduceAdd, Nat.reduceMul, Nat.reduceSub, Int.reduceAdd, Int.reduceSub, Nat.reduceLeDiff, Int.reduceLT, Int.reduceLE, Int.reduceEq, Int.reduceNeg, Int.reduceToNat]
    repeat' ((first | refine guardB_dec (fun hy => ?_) (fun hy => ?_) | refine guardB_bool (fun hy => ?_) (fun hy => ?_) | refine guardQ_ite (fun hy => ?_) (fun hy => ?_) | refine brQ_dec (fun hy => ?_) (fun hy => ?_) | refine brQ_bool (fun hy => ?_) (fun hy => ?_)) <;> (try simp only [Bool.not_eq_true', Bool.not_eq_false', Bool.and_eq_true, Bool.or_eq_false_iff, decide_eq_true_eq, decide_eq_false_iff_not] at hy) <;> simp (disch := first | rfl | omega | exact lt_new _ | assumption | decide | (simp [tk_here, tk_app, tk_0, tk_S, gr_here, gr_app, gr_0, gr_S] <;> omega) | fail) only [l71_9, r71_5, r71_6, r71_7, r71_8, t0, t1, t5, t11, t12, t13, hlt', go_sem, ↓reduceIte, Nat.reduceLT, Nat.reduceEqDiff, Nat.reduceAdd, Nat.reduceMul, Nat.reduceSub, Int.reduceAdd, Int.reduceSub, Nat.reduceLeDiff, Int.reduceLT, Int.reduceLE, Int.reduceEq, Int.reduceNeg, Int.reduceToNat, hy])
    exact ⟨_, by omega, i + 1, rfl, hlt, rfl, rfl⟩
  · obtain rfl : i = l.length := by omega
    simp (disch := first | rfl | omega | exact lt_new _ | assumption | decide | (simp [tk_here, tk_app, tk_0, tk_S, gr_here, gr_app, gr_0, gr_S] <;> omega) | fail) only [r71_0, r71_1, r71_2, r71_3, r71_4, r71_5, r71_6, r71_7, r71_8, r71_10, r71_11, r71_12, r71_13, r71_14, r71_15, r71_16, r71_17, r71_18, r71_19, c71, rs71, gc71, l71_9, t0, t1, t5, t11, t12, t13, Int.lt_irrefl, go_sem, ↓reduceIte, Nat.reduceLT, Nat.reduceEqDiff, Nat.reduceAdd, Nat.reduceMul, Nat.reduceSub, Int.reduceAdd, Int.reduceSub, Nat.reduceLeDiff, Int.reduceLT, Int.reduceLE, Int.reduceEq, Int.reduceNeg, Int.reduceToNat]
    repeat' ((first | refine guardB_dec (fun hy => ?_) (fun hy => ?_) | refine guardB_bool (fun hy => ?_) (fun hy => ?_) | refine guardQ_ite (fun hy => ?_) (fun hy => ?_) | refine brQ_dec (fun hy => ?_) (fun hy => ?_) | refine brQ_bool (fun hy => ?_) (fun hy => ?_)) <;> (try simp only [Bool.not_eq_true', Bool.not_eq_false', Bool.and_eq_true, Bool.or_eq_false_iff, decide_eq_true_eq, decide_eq_false_iff_not] at hy) <;> simp (disch := first | rfl | omega | exact lt_new _ | assumption | decide | (simp [tk_here, tk_app, tk_0, tk_S, gr_here, gr_app, gr_0, gr_S] <;> omega) | fail) only [r71_0, r71_1, r71_2, r71_3, r71_4, r71_5, r71_6, r71_7, r71_8, r71_10, r71_11, r71_12, r71_13, r71_14, r71_15, r71_16, r71_17, r71_18, r71_19, c71, rs71, gc71, l71_9, t0, t1, t5, t11, t12, t13, Int.lt_irrefl, go_sem, ↓reduceIte, Nat.reduceLT, Nat.reduceEqDiff, Nat.reduceAdd, Nat.reduceMul, Nat.reduceSub, Int.reduceAdd, Int.reduceSub, Nat.reduceLeDiff, Int.reduceLT, Int.reduceLE, Int.reduceEq, Int.reduceNeg, Int.reduceToNat, hy])
    all_goals (try ((first | refine finQ_same ?_ | refine finQ_app ?_ | (rw [List.append_assoc]; refine finQ_app ?_)) <;> simp (disch := first | rfl | omega | exact lt_new _ | assumption | decide | (simp [tk_here, tk_app, tk_0, tk_S, gr_here, gr_app, gr_0, gr_S] <;> omega) | fail) only [go_sem, ↓reduceIte, Nat.reduceLT, Nat.reduceEqDiff, Nat.reduceAdd, Nat.reduceMul, Nat.reduceSub, Int.reduceAdd, Int.reduceSub, Nat.reduceLeDiff, Int.reduceLT, Int.reduceLE, Int.reduceEq, Int.reduceNeg, Int.reduceToNat, List.append_assoc, List.cons_append, List.nil_append, *]))
    all_goals (try first | rfl | (simp [*]; done) | grind)
theorem fn74s (a b : Int) (hb : 0 < b) (ha : -2000000000000000000 ≤ a ∧ a ≤ 2000000000000000000) (H : Hp) : callL Tryz.prog pr 74 [.int .i64 a, .int .i64 b] H = some (.int .i64 (floorI a b), H) := by
  obtain ⟨q0, q1, q2, q3, q4⟩ := quo_fx (a := a) hb
  have hb0 : ¬ b = 0 := by omega
  have hq : -2000000000000000000 ≤ a.tdiv b ∧ a.tdiv b ≤ 2000000000000000000 := by
    rcases Int.le_total 0 a with h | h
    · have := q3 h; omega
    · have := q4 h; omega
  have hm : -2000000000000000000 ≤ a.tdiv b * b ∧ a.tdiv b * b ≤ 2000000000000000000 := by
    rcases Int.le_total 0 a with h | h
    · have h1 := q3 h
      have := Int.mul_nonneg h1.1 (by omega : 0 ≤ b)
      omega
    · have h1 := q4 h
      have := Int.mul_nonneg (by omega : 0 ≤ -a.tdiv b) (by omega : 0 ≤ b)
      rw [Int.neg_mul] at this
      omega
  have w1 : IntKind.i64.wrap (a.tdiv b) = a.tdiv b := by simp (disch := first | rfl | omega | exact lt_new _ | assumption | decide | (simp [tk_here, tk_app, tk_0, tk_S, gr_here, gr_app, gr_0, gr_S] <;> omega) | fail) only [go_sem, ↓reduceIte, Nat.reduceLT, Nat.reduceEqDiff, Nat.reduceAdd, Nat.reduceMul, Nat.reduceSub, Int.reduceAdd, Int.reduceSub, Nat.reduceLeDiff, Int.reduceLT, Int.reduceLE, Int.reduceEq, Int.reduceNeg, Int.reduceToNat]
  have w2 : IntKind.i64.wrap (a.tdiv b * b) = a.tdiv b * b := by simp (disch := first | rfl | omega | exact lt_new _ | assumption | decide | (simp [tk_here, tk_app, tk_0, tk_S, gr_here, gr_app, gr_0, gr_S] <;> omega) | fail) only [go_sem, ↓reduceIte, Nat.reduceLT, Nat.reduceEqDiff, Nat.reduceAdd, Nat.reduceMul, Nat.reduceSub, Int.reduceAdd, Int.reduceSub, Nat.reduceLeDiff, Int.reduceLT, Int.reduceLE, Int.reduceEq, Int.reduceNeg, Int.reduceToNat]
  refine run74 (Nat.le_of_ble_eq_true rfl) ?_
  unfold floorI
  simp (disch := first | rfl | omega | exact lt_new _ | assumption | decide | (simp [tk_here, tk_app, tk_0, tk_S, gr_here, gr_app, gr_0, gr_S] <;> omega) | fail) only [r74_0, r74_1, r74_2, r74_3, r74_4, c74, rs74, gc74, hb0, w1, w2, go_sem, ↓reduceIte, Nat.reduceLT, Nat.reduceEqDiff, Nat.reduceAdd, Nat.reduceMul, Nat.reduceSub, Int.reduceAdd, Int.reduceSub, Nat.reduceLeDiff, Int.reduceLT, Int.reduceLE, Int.reduceEq, Int.reduceNeg, Int.reduceToNat]
  repeat' ((first | refine guardB_dec (fun hy => ?_) (fun hy => ?_) | refine guardB_bool (fun hy => ?_) (fun hy => ?_) | refine guardQ_ite (fun hy => ?_) (fun hy => ?_) | refine brQ_dec (fun hy => ?_) (fun hy => ?_) | refine brQ_bool (fun hy => ?_) (fun hy => ?_)) <;> (try simp only [Bool.not_eq_true', Bool.not_eq_false', Bool.and_eq_true, Bool.or_eq_false_iff, decide_eq_true_eq, decide_eq_false_iff_not] at hy) <;> simp (disch := first | rfl | omega | exact lt_new _ | assumption | decide | (simp [tk_here, tk_app, tk_0, tk_S, gr_here, gr_app, gr_0, gr_S] <;> omega) | fail) only [r74_0, r74_1, r74_2, r74_3, r74_4, c74, rs74, gc74, hb0, w1, w2, go_sem, ↓reduceIte, Nat.reduceLT, Nat.reduceEqDiff, Nat.reduceAdd, Nat.reduceMul, Nat.reduceSub, Int.reduceAdd, Int.reduceSub, Nat.reduceLeDiff, Int.reduceLT, Int.reduceLE, Int.reduceEq, Int.reduceNeg, Int.reduceToNat, hy])
  all_goals (try ((first | refine finQ_same ?_ | refine finQ_app ?_ | (rw [List.append_assoc]; refine finQ_app ?_)) <;> simp (disch := first | rfl | omega | exact lt_new _ | assumption | decide | (simp [tk_here, tk_app, tk_0, tk_S, gr_here, gr_app, gr_0, gr_S] <;> omega) | fail) only [go_sem, ↓reduceIte, Nat.reduceLT, Nat.reduceEqDiff, Nat.reduceAdd, Nat.reduceMul, Nat.reduceSub, Int.reduceAdd, Int.reduceSub, Nat.reduceLeDiff, Int.reduceLT, Int.reduceLE, Int.reduceEq, Int.reduceNeg, Int.reduceToNat, List.append_assoc, List.cons_append, List.nil_append, *]))
  all_goals (try first | rfl | (simp [*]; done) | grind)
/-- How many are smoothed at a place. -/
def smC (n : Int) (i : Nat) : Nat := if n ≤ i then n.toNat else i + 1
def rsum (l : List Int) (i : Nat) : Nat → Int
  | 0 => 0
  | c + 1 => rsum l i c + inE.at l (i - c)
def smF (l : List Int) (n : Int) : Nat → List Int
  | 0 => []
  | i + 1 => smF l n i ++ [floorI (rsum l i (smC n i)) (smC n i)]
theorem smF_len (l : List Int) (n : Int) : ∀ i, (smF l n i).length = i
  | 0 => rfl
  | i + 1 => by simp [smF, smF_len l n i]
theorem rsum_b {l : List Int} (h : Big l) {i : Nat} (hi : i < l.length) : ∀ c ≤ i + 1, -(c * 4503599627370496) ≤ rsum l i c ∧ rsum l i c ≤ c * 4503599627370496
  | 0, _ => by simp [rsum]
  | c + 1, hc => by
    have h1 := rsum_b h hi c (by omega)
    have h2 := h.2 _ (inE.at_mem (i := i - c) (by omega))
    unfold rsum
    omega
def seg (l : List Int) (lo : Nat) : Nat → Int
  | 0 => 0
  | c + 1 => seg l lo c + inE.at l (lo + c)
theorem seg_front (l : List Int) (lo : Nat) : ∀ c, seg l lo (c + 1) = inE.at l lo + seg l (lo + 1) c
  | 0 => by simp [seg]
  | c + 1 => by
    have := seg_front l lo c
    unfold seg
    rw [this]
    show _ = inE.at l lo + (seg l (lo + 1) c + inE.at l (lo + 1 + c))
    rw [show lo + 1 + c = lo + (c + 1) by omega]
    omega
theorem seg_rsum (l : List Int) (i : Nat) : ∀ c ≤ i + 1, seg l (i + 1 - c) c = rsum l i c
  | 0, _ => rfl
  | c + 1, hc => by
    rw [seg_front]
    have := seg_rsum l i c (by omega)
    rw [show i + 1 - (c + 1) + 1 = i + 1 - c by omega, this]
    show _ = rsum l i c + inE.at l (i - c)
    rw [show i + 1 - (c + 1) = i - c by omega]
    omega
theorem at_cut {l : List Int} {lo c j : Nat} (h : j < c) : inE.at ((l.drop lo).take c) j = inE.at l (lo + j) := by
  simp [Enc.at, List.getD, List.getElem?_take, h]
theorem sum_cut {l : List Int} {lo c : Nat} : ∀ k ≤ c, sumI ((l.drop lo).take c) k = seg l lo k
  | 0, _ => rfl
  | k + 1, hk => by
    unfold sumI seg
    rw [sum_cut k (by omega), at_cut (by omega)]
def smR (l : List Int) (n : Int) : List Int × Int := if 200 < l.length then ([], 3) else if n < 1 ∨ l.any bigN = true then ([], 1) else (smF l n l.length, 0)
set_option maxHeartbeats 8000000 in
theorem fn27 (b : Bool) (l : List Int) (n : Int) (h1 : l.length ≤ 2 ^ 48) (H : Hp) : callL Tryz.prog pr 27 [slV b inE l, .int .i64 n] H = some (.tup [slV true inE (smR l n).1, .int .i64 (smR l n).2], H) := by
  refine run27 (Nat.le_of_ble_eq_true rfl) ?_
  unfold smR
  by_cases hb : 200 < l.length
  case pos =>
    rw [if_pos hb]
    have hb2 : (200 : Int) < l.length := by omega
    simp (disch := first | rfl | omega | exact lt_new _ | assumption | decide | (simp [tk_here, tk_app, tk_0, tk_S, gr_here, gr_app, gr_0, gr_S] <;> omega) | fail) only [r27_0, r27_1, r27_2, r27_3, r27_4, r27_5, r27_6, r27_7, r27_8, r27_9, r27_11, r27_12, r27_13, r27_14, r27_15, r27_16, r27_17, r27_19, r27_20, r27_22, c27, rs27, gc27, hb2, slV_nil, go_sem, ↓reduceIte, Nat.reduceLT, Nat.reduceEqDiff, Nat.reduceAdd, Nat.reduceMul, Nat.reduceSub, Int.reduceAdd, Int.reduceSub, Nat.reduceLeDiff, Int.reduceLT, Int.reduceLE, Int.reduceEq, Int.reduceNeg, Int.reduceToNat]
    repeat' ((first | refine guardB_dec (fun hy => ?_) (fun hy => ?_) | refine guardB_bool (fun hy => ?_) (fun hy => ?_) | refine guardQ_ite (fun hy => ?_) (fun hy => ?_) | refine brQ_dec (fun hy => ?_) (fun hy => ?_) | refine brQ_bool (fun hy => ?_) (fun hy => ?_)) <;> (try simp only [Bool.not_eq_true', Bool.not_eq_false', Bool.and_eq_true, Bool.or_eq_false_iff, decide_eq_true_eq, decide_eq_false_iff_not] at hy) <;> simp (disch := first | rfl | omega | exact lt_new _ | assumption | decide | (simp [tk_here, tk_app, tk_0, tk_S, gr_here, gr_app, gr_0, gr_S] <;> omega) | fail) only [r27_0, r27_1, r27_2, r27_3, r27_4, r27_5, r27_6, r27_7, r27_8, r27_9, r27_11, r27_12, r27_13, r27_14, r27_15, r27_16, r27_17, r27_19, r27_20, r27_22, c27, rs27, gc27, hb2, slV_nil, go_sem, ↓reduceIte, Nat.reduceLT, Nat.reduceEqDiff, Nat.reduceAdd, Nat.reduceMul, Nat.reduceSub, Int.reduceAdd, Int.reduceSub, Nat.reduceLeDiff, Int.reduceLT, Int.reduceLE, Int.reduceEq, Int.reduceNeg, Int.reduceToNat, hy])
    all_goals (try ((first | refine finQ_same ?_ | refine finQ_app ?_ | (rw [List.append_assoc]; refine finQ_app ?_)) <;> simp (disch := first | rfl | omega | exact lt_new _ | assumption | decide | (simp [tk_here, tk_app, tk_0, tk_S, gr_here, gr_app, gr_0, gr_S] <;> omega) | fail) only [go_sem, ↓reduceIte, Nat.reduceLT, Nat.reduceEqDiff, Nat.reduceAdd, Nat.reduceMul, Nat.reduceSub, Int.reduceAdd, Int.reduceSub, Nat.reduceLeDiff, Int.reduceLT, Int.reduceLE, Int.reduceEq, Int.reduceNeg, Int.reduceToNat, List.append_assoc, List.cons_append, List.nil_append, *]))
    all_goals (try first | rfl | (simp [*]; done) | grind)
  rw [if_neg hb]
  have hb2 : ¬ (200 : Int) < l.length := by omega
  by_cases hd : n < 1
  case pos =>
    rw [if_pos (.inl hd)]
    simp (disch := first | rfl | omega | exact lt_new _ | assumption | decide | (simp [tk_here, tk_app, tk_0, tk_S, gr_here, gr_app, gr_0, gr_S] <;> omega) | fail) only [r27_0, r27_1, r27_2, r27_3, r27_4, r27_5, r27_6, r27_7, r27_8, r27_9, r27_11, r27_12, r27_13, r27_14, r27_15, r27_16, r27_17, r27_19, r27_20, r27_22, c27, rs27, gc27, hb2, hd, slV_nil, go_sem, ↓reduceIte, Nat.reduceLT, Nat.reduceEqDiff, Nat.reduceAdd, Nat.reduceMul, Nat.reduceSub, Int.reduceAdd, Int.reduceSub, Nat.reduceLeDiff, Int.reduceLT, Int.reduceLE, Int.reduceEq, Int.reduceNeg, Int.reduceToNat]
    repeat' ((first | refine guardB_dec (fun hy => ?_) (fun hy => ?_) | refine guardB_bool (fun hy => ?_) (fun hy => ?_) | refine guardQ_ite (fun hy => ?_) (fun hy => ?_) | refine brQ_dec (fun hy => ?_) (fun hy => ?_) | refine brQ_bool (fun hy => ?_) (fun hy => ?_)) <;> (try simp only [Bool.not_eq_true', Bool.not_eq_false', Bool.and_eq_true, Bool.or_eq_false_iff, decide_eq_true_eq, decide_eq_false_iff_not] at hy) <;> simp (disch := first | rfl | omega | exact lt_new _ | assumption | decide | (simp [tk_here, tk_app, tk_0, tk_S, gr_here, gr_app, gr_0, gr_S] <;> omega) | fail) only [r27_0, r27_1, r27_2, r27_3, r27_4, r27_5, r27_6, r27_7, r27_8, r27_9, r27_11, r27_12, r27_13, r27_14, r27_15, r27_16, r27_17, r27_19, r27_20, r27_22, c27, rs27, gc27, hb2, hd, slV_nil, go_sem, ↓reduceIte, Nat.reduceLT, Nat.reduceEqDiff, Nat.reduceAdd, Nat.reduceMul, Nat.reduceSub, Int.reduceAdd, Int.reduceSub, Nat.reduceLeDiff, Int.reduceLT, Int.reduceLE, Int.reduceEq, Int.reduceNeg, Int.reduceToNat, hy])
    all_goals (try ((first | refine finQ_same ?_ | refine finQ_app ?_ | (rw [List.append_assoc]; refine finQ_app ?_)) <;> simp (disch := first | rfl | omega | exact lt_new _ | assumption | decide | (simp [tk_here, tk_app, tk_0, tk_S, gr_here, gr_app, gr_0, gr_S] <;> omega) | fail) only [go_sem, ↓reduceIte, Nat.reduceLT, Nat.reduceEqDiff, Nat.reduceAdd, Nat.reduceMul, Nat.reduceSub, Int.reduceAdd, Int.reduceSub, Nat.reduceLeDiff, Int.reduceLT, Int.reduceLE, Int.reduceEq, Int.reduceNeg, Int.reduceToNat, List.append_assoc, List.cons_append, List.nil_append, *]))
    all_goals (try first | rfl | (simp [*]; done) | grind)
  simp (disch := first | rfl | omega | exact lt_new _ | assumption | decide | (simp [tk_here, tk_app, tk_0, tk_S, gr_here, gr_app, gr_0, gr_S] <;> omega) | fail) only [r27_0, r27_1, r27_2, r27_3, r27_4, r27_5, r27_6, r27_7, r27_8, r27_9, r27_11, r27_12, r27_13, r27_14, r27_15, r27_16, r27_17, r27_19, r27_20, r27_22, c27, rs27, gc27, hb2, hd, go_sem, ↓reduceIte, Nat.reduceLT, Nat.reduceEqDiff, Nat.reduceAdd, Nat.reduceMul, Nat.reduceSub, Int.reduceAdd, Int.reduceSub, Nat.reduceLeDiff, Int.reduceLT, Int.reduceLE, Int.reduceEq, Int.reduceNeg, Int.reduceToNat]
  repeat' ((first | refine guardB_dec (fun hy => ?_) (fun hy => ?_) | refine guardB_bool (fun hy => ?_) (fun hy => ?_) | refine guardQ_ite (fun hy => ?_) (fun hy => ?_) | refine brQ_dec (fun hy => ?_) (fun hy => ?_) | refine brQ_bool (fun hy => ?_) (fun hy => ?_)) <;> (try simp only [Bool.not_eq_true', Bool.not_eq_false', Bool.and_eq_true, Bool.or_eq_false_iff, decide_eq_true_eq, decide_eq_false_iff_not] at hy) <;> simp (disch := first | rfl | omega | exact lt_new _ | assumption | decide | (simp [tk_here, tk_app, tk_0, tk_S, gr_here, gr_app, gr_0, gr_S] <;> omega) | fail) only [r27_0, r27_1, r27_2, r27_3, r27_4, r27_5, r27_6, r27_7, r27_8, r27_9, r27_11, r27_12, r27_13, r27_14, r27_15, r27_16, r27_17, r27_19, r27_20, r27_22, c27, rs27, gc27, hb2, hd, go_sem, ↓reduceIte, Nat.reduceLT, Nat.reduceEqDiff, Nat.reduceAdd, Nat.reduceMul, Nat.reduceSub, Int.reduceAdd, Int.reduceSub, Nat.reduceLeDiff, Int.reduceLT, Int.reduceLE, Int.reduceEq, Int.reduceNeg, Int.reduceToNat, hy])
  refine Wp_loop (fun m T D H' => ∃ i, m = l.length - i ∧ i ≤ l.length ∧ D = [] ∧ H' = H ∧ get T 0 = slV b inE l ∧ get T 1 = .int .i64 n ∧ get T 6 = .int .i64 i ∧ (∀ j < i, bigN (inE.at l j) = false)) ?_ l.length _ _ _ ?_
  case refine_2 => exact ⟨0, by simp (disch := first | rfl | omega | exact lt_new _ | assumption | decide | (simp [tk_here, tk_app, tk_0, tk_S, gr_here, gr_app, gr_0, gr_S] <;> omega) | fail) only [go_sem, ↓reduceIte, Nat.reduceLT, Nat.reduceEqDiff, Nat.reduceAdd, Nat.reduceMul, Nat.reduceSub, Int.reduceAdd, Int.reduceSub, Nat.reduceLeDiff, Int.reduceLT, Int.reduceLE, Int.reduceEq, Int.reduceNeg, Int.reduceToNat]; simp⟩
  rintro m T D H' ⟨i, rfl, hi, rfl, rfl, t0, t1, t6, hall⟩
  by_cases hlt : i < l.length
  · have hlt' : (i : Int) < l.length := by omega
    by_cases hr : bigN (inE.at l i) = true
    · rw [if_pos (.inr (iany_at hlt hr))]
      by_cases hr0 : 4503599627370496 < inE.at l i
      · skip
        simp (disch := first | rfl | omega | exact lt_new _ | assumption | decide | (simp [tk_here, tk_app, tk_0, tk_S, gr_here, gr_app, gr_0, gr_S] <;> omega) | fail) only [l27_10, r27_6, r27_7, r27_8, rs27, gc27, t0, t1, t6, hlt', hr0, slV_nil, go_sem, ↓reduceIte, Nat.reduceLT, Nat.reduceEqDiff, Nat.reduceAdd, Nat.reduceMul, Nat.reduceSub, Int.reduceAdd, Int.reduceSub, Nat.reduceLeDiff, Int.reduceLT, Int.reduceLE, Int.reduceEq, Int.reduceNeg, Int.reduceToNat]
        repeat' ((first | refine guardB_dec (fun hy => ?_) (fun hy => ?_) | refine guardB_bool (fun hy => ?_) (fun hy => ?_) | refine guardQ_ite (fun hy => ?_) (fun hy => ?_) | refine brQ_dec (fun hy => ?_) (fun hy => ?_) | refine brQ_bool (fun hy => ?_) (fun hy => ?_)) <;> (try simp only [Bool.not_eq_true', Bool.not_eq_false', Bool.and_eq_true, Bool.or_eq_false_iff, decide_eq_true_eq, decide_eq_false_iff_not] at hy) <;> simp (disch := first | rfl | omega | exact lt_new _ | assumption | decide | (simp [tk_here, tk_app, tk_0, tk_S, gr_here, gr_app, gr_0, gr_S] <;> omega) | fail) only [l27_10, r27_6, r27_7, r27_8, rs27, gc27, t0, t1, t6, hlt', hr0, slV_nil, go_sem, ↓reduceIte, Nat.reduceLT, Nat.reduceEqDiff, Nat.reduceAdd, Nat.reduceMul, Nat.reduceSub, Int.reduceAdd, Int.reduceSub, Nat.reduceLeDiff, Int.reduceLT, Int.reduceLE, Int.reduceEq, Int.reduceNeg, Int.reduceToNat, hy])
        all_goals (try ((first | refine finQ_same ?_ | refine finQ_app ?_ | (rw [List.append_assoc]; refine finQ_app ?_)) <;> simp (disch := first | rfl | omega | exact lt_new _ | assumption | decide | (simp [tk_here, tk_app, tk_0, tk_S, gr_here, gr_app, gr_0, gr_S] <;> omega) | fail) only [go_sem, ↓reduceIte, Nat.reduceLT, Nat.reduceEqDiff, Nat.reduceAdd, Nat.reduceMul, Nat.reduceSub, Int.reduceAdd, Int.reduceSub, Nat.reduceLeDiff, Int.reduceLT, Int.reduceLE, Int.reduceEq, Int.reduceNeg, Int.reduceToNat, List.append_assoc, List.cons_append, List.nil_append, *]))
        all_goals (try first | rfl | (simp [*]; done) | grind)
      · have hr1 : inE.at l i < -4503599627370496 := by simp [bigN] at hr; omega
        simp (disch := first | rfl | omega | exact lt_new _ | assumption | decide | (simp [tk_here, tk_app, tk_0, tk_S, gr_here, gr_app, gr_0, gr_S] <;> omega) | fail) only [l27_10, r27_6, r27_7, r27_8, rs27, gc27, t0, t1, t6, hlt', hr0, hr1, slV_nil, go_sem, ↓reduceIte, Nat.reduceLT, Nat.reduceEqDiff, Nat.reduceAdd, Nat.reduceMul, Nat.reduceSub, Int.reduceAdd, Int.reduceSub, Nat.reduceLeDiff, Int.reduceLT, Int.reduceLE, Int.reduceEq, Int.reduceNeg, Int.reduceToNat]
        repeat' ((first | refine guardB_dec (fun hy => ?_) (fun hy => ?_) | refine guardB_bool (fun hy => ?_) (fun hy => ?_) | refine guardQ_ite (fun hy => ?_) (fun hy => ?_) | refine brQ_dec (fun hy => ?_) (fun hy => ?_) | refine brQ_bool (fun hy => ?_) (fun hy => ?_)) <;> (try simp only [Bool.not_eq_true', Bool.not_eq_false', Bool.and_eq_true, Bool.or_eq_false_iff, decide_eq_true_eq, decide_eq_false_iff_not] at hy) <;> simp (disch := first | rfl | omega | exact lt_new _ | assumption | decide | (simp [tk_here, tk_app, tk_0, tk_S, gr_here, gr_app, gr_0, gr_S] <;> omega) | fail) only [l27_10, r27_6, r27_7, r27_8, rs27, gc27, t0, t1, t6, hlt', hr0, hr1, slV_nil, go_sem, ↓reduceIte, Nat.reduceLT, Nat.reduceEqDiff, Nat.reduceAdd, Nat.reduceMul, Nat.reduceSub, Int.reduceAdd, Int.reduceSub, Nat.reduceLeDiff, Int.reduceLT, Int.reduceLE, Int.reduceEq, Int.reduceNeg, Int.reduceToNat, hy])
        all_goals (try ((first | refine finQ_same ?_ | refine finQ_app ?_ | (rw [List.append_assoc]; refine finQ_app ?_)) <;> simp (disch := first | rfl | omega | exact lt_new _ | assumption | decide | (simp [tk_here, tk_app, tk_0, tk_S, gr_here, gr_app, gr_0, gr_S] <;> omega) | fail) only [go_sem, ↓reduceIte, Nat.reduceLT, Nat.reduceEqDiff, Nat.reduceAdd, Nat.reduceMul, Nat.reduceSub, Int.reduceAdd, Int.reduceSub, Nat.reduceLeDiff, Int.reduceLT, Int.reduceLE, Int.reduceEq, Int.reduceNeg, Int.reduceToNat, List.append_assoc, List.cons_append, List.nil_append, *]))
        all_goals (try first | rfl | (simp [*]; done) | grind)
    · rw [Bool.not_eq_true] at hr
      have hr0 : ¬ 4503599627370496 < inE.at l i := by simp [bigN] at hr; omega
      have hr1 : ¬ inE.at l i < -4503599627370496 := by simp [bigN] at hr; omega
      simp (disch := first | rfl | omega | exact lt_new _ | assumption | decide | (simp [tk_here, tk_app, tk_0, tk_S, gr_here, gr_app, gr_0, gr_S] <;> omega) | fail) only [l27_10, r27_6, r27_7, r27_9, t0, t1, t6, hlt', hr0, hr1, go_sem, ↓reduceIte, Nat.reduceLT, Nat.reduceEqDiff, Nat.reduceAdd, Nat.reduceMul, Nat.reduceSub, Int.reduceAdd, Int.reduceSub, Nat.reduceLeDiff, Int.reduceLT, Int.reduceLE, Int.reduceEq, Int.reduceNeg, Int.reduceToNat]
      repeat' ((first | refine guardB_dec (fun hy => ?_) (fun hy => ?_) | refine guardB_bool (fun hy => ?_) (fun hy => ?_) | refine guardQ_ite (fun hy => ?_) (fun hy => ?_) | refine brQ_dec (fun hy => ?_) (fun hy => ?_) | refine brQ_bool (fun hy => ?_) (fun hy => ?_)) <;> (try simp only [Bool.not_eq_true', Bool.not_eq_false', Bool.and_eq_true, Bool.or_eq_false_iff, decide_eq_true_eq, decide_eq_false_iff_not] at hy) <;> simp (disch := first | rfl | omega | exact lt_new _ | assumption | decide | (simp [tk_here, tk_app, tk_0, tk_S, gr_here, gr_app, gr_0, gr_S] <;> omega) | fail) only [l27_10, r27_6, r27_7, r27_9, t0, t1, t6, hlt', hr0, hr1, go_sem, ↓reduceIte, Nat.reduceLT, Nat.reduceEqDiff, Nat.reduceAdd, Nat.reduceMul, Nat.reduceSub, Int.reduceAdd, Int.reduceSub, Nat.reduceLeDiff, Int.reduceLT, Int.reduceLE, Int.reduceEq, Int.reduceNeg, Int.reduceToNat, hy])
      refine ⟨_, by omega, i + 1, rfl, hlt, rfl, fun j hj => ?_⟩
      by_cases e : j = i
      · subst e; exact hr
      · exact hall j (by omega)
  obtain rfl : i = l.length := by omega
  have c5 : l.any bigN = false := iany_no hall
  clear hall
  rw [if_neg (by simp [c5, hd])]
  have hB := Big.of (by omega) c5
  simp (disch := first | rfl | omega | exact lt_new _ | assumption | decide | (simp [tk_here, tk_app, tk_0, tk_S, gr_here, gr_app, gr_0, gr_S] <;> omega) | fail) only [l27_10, r27_6, r27_11, r27_12, loadV_ptr, storeV_ptr, List.append_assoc, List.length_append, List.length_cons, List.length_nil, List.set_cons_zero, List.set_cons_succ, tk_here, tk_app, gr_here, gr_app, st_here, st_app, t0, t1, t6, Int.lt_irrefl, go_sem, ↓reduceIte, Nat.reduceLT, Nat.reduceEqDiff, Nat.reduceAdd, Nat.reduceMul, Nat.reduceSub, Int.reduceAdd, Int.reduceSub, Nat.reduceLeDiff, Int.reduceLT, Int.reduceLE, Int.reduceEq, Int.reduceNeg, Int.reduceToNat]
  repeat' ((first | refine guardB_dec (fun hy => ?_) (fun hy => ?_) | refine guardB_bool (fun hy => ?_) (fun hy => ?_) | refine guardQ_ite (fun hy => ?_) (fun hy => ?_) | refine brQ_dec (fun hy => ?_) (fun hy => ?_) | refine brQ_bool (fun hy => ?_) (fun hy => ?_)) <;> (try simp only [Bool.not_eq_true', Bool.not_eq_false', Bool.and_eq_true, Bool.or_eq_false_iff, decide_eq_true_eq, decide_eq_false_iff_not] at hy) <;> simp (disch := first | rfl | omega | exact lt_new _ | assumption | decide | (simp [tk_here, tk_app, tk_0, tk_S, gr_here, gr_app, gr_0, gr_S] <;> omega) | fail) only [l27_10, r27_6, r27_11, r27_12, loadV_ptr, storeV_ptr, List.append_assoc, List.length_append, List.length_cons, List.length_nil, List.set_cons_zero, List.set_cons_succ, tk_here, tk_app, gr_here, gr_app, st_here, st_app, t0, t1, t6, Int.lt_irrefl, go_sem, ↓reduceIte, Nat.reduceLT, Nat.reduceEqDiff, Nat.reduceAdd, Nat.reduceMul, Nat.reduceSub, Int.reduceAdd, Int.reduceSub, Nat.reduceLeDiff, Int.reduceLT, Int.reduceLE, Int.reduceEq, Int.reduceNeg, Int.reduceToNat, hy])
  refine Wp_loop (fun m T D H1 => ∃ k G, m = l.length - k ∧ k ≤ l.length ∧ D = [] ∧ H1 = H' ++ .tok ((smF l n k).length * 1) :: G ∧ get T 0 = slV b inE l ∧ get T 1 = .int .i64 n ∧ get T 7 = osV H'.length inE (smF l n k) ∧ get T 8 = .int .i64 k) ?_ l.length _ _ _ ?_
  case refine_2 => exact ⟨0, [], by simp (disch := first | rfl | omega | exact lt_new _ | assumption | decide | (simp [tk_here, tk_app, tk_0, tk_S, gr_here, gr_app, gr_0, gr_S] <;> omega) | fail) only [go_sem, ↓reduceIte, Nat.reduceLT, Nat.reduceEqDiff, Nat.reduceAdd, Nat.reduceMul, Nat.reduceSub, Int.reduceAdd, Int.reduceSub, Nat.reduceLeDiff, Int.reduceLT, Int.reduceLE, Int.reduceEq, Int.reduceNeg, Int.reduceToNat, t0, t1]; simp [smF, osV_nil]⟩
  clear t0 t1 t6
  rintro m T D _ ⟨k, G, rfl, hk, rfl, rfl, t0, t1, t7, t8⟩
  have htl := smF_len l n k
  by_cases hlt : k < l.length
  · have hlt' : (k : Int) < l.length := by omega
    have hsb := rsum_b hB hlt
    simp (disch := first | rfl | omega | exact lt_new _ | assumption | decide | (simp [tk_here, tk_app, tk_0, tk_S, gr_here, gr_app, gr_0, gr_S] <;> omega) | fail) only [l27_21, r27_13, r27_14, loadV_ptr, storeV_ptr, List.append_assoc, List.length_append, List.length_cons, List.length_nil, List.set_cons_zero, List.set_cons_succ, tk_here, tk_app, gr_here, gr_app, st_here, st_app, t0, t1, t7, t8, hlt', go_sem, ↓reduceIte, Nat.reduceLT, Nat.reduceEqDiff, Nat.reduceAdd, Nat.reduceMul, Nat.reduceSub, Int.reduceAdd, Int.reduceSub, Nat.reduceLeDiff, Int.reduceLT, Int.reduceLE, Int.reduceEq, Int.reduceNeg, Int.reduceToNat]
    repeat' ((first | refine guardB_dec (fun hy => ?_) (fun hy => ?_) | refine guardB_bool (fun hy => ?_) (fun hy => ?_) | refine guardQ_ite (fun hy => ?_) (fun hy => ?_) | refine brQ_dec (fun hy => ?_) (fun hy => ?_) | refine brQ_bool (fun hy => ?_) (fun hy => ?_)) <;> (try simp only [Bool.not_eq_true', Bool.not_eq_false', Bool.and_eq_true, Bool.or_eq_false_iff, decide_eq_true_eq, decide_eq_false_iff_not] at hy) <;> simp (disch := first | rfl | omega | exact lt_new _ | assumption | decide | (simp [tk_here, tk_app, tk_0, tk_S, gr_here, gr_app, gr_0, gr_S] <;> omega) | fail) only [l27_21, r27_13, r27_14, loadV_ptr, storeV_ptr, List.append_assoc, List.length_append, List.length_cons, List.length_nil, List.set_cons_zero, List.set_cons_succ, tk_here, tk_app, gr_here, gr_app, st_here, st_app, t0, t1, t7, t8, hlt', go_sem, ↓reduceIte, Nat.reduceLT, Nat.reduceEqDiff, Nat.reduceAdd, Nat.reduceMul, Nat.reduceSub, Int.reduceAdd, Int.reduceSub, Nat.reduceLeDiff, Int.reduceLT, Int.reduceLE, Int.reduceEq, Int.reduceNeg, Int.reduceToNat, hy])
    refine Wp_loop (fun m T D H1 => ∃ c : Nat, m = smC n k - c ∧ c ≤ smC n k ∧ D = [] ∧ H1 = H' ++ .tok ((smF l n k).length * 1) :: G ∧ get T 0 = slV b inE l ∧ get T 1 = .int .i64 n ∧ get T 7 = osV H'.length inE (smF l n k) ∧ get T 8 = .int .i64 k ∧ get T 9 = .int .i64 (rsum l k c) ∧ get T 10 = .int .i64 c) ?_ (smC n k) _ _ _ ?_
    case refine_2 => exact ⟨0, rfl, Nat.zero_le _, by simp (disch := first | rfl | omega | exact lt_new _ | assumption | decide | (simp [tk_here, tk_app, tk_0, tk_S, gr_here, gr_app, gr_0, gr_S] <;> omega) | fail) only [go_sem, ↓reduceIte, Nat.reduceLT, Nat.reduceEqDiff, Nat.reduceAdd, Nat.reduceMul, Nat.reduceSub, Int.reduceAdd, Int.reduceSub, Nat.reduceLeDiff, Int.reduceLT, Int.reduceLE, Int.reduceEq, Int.reduceNeg, Int.reduceToNat, t0, t1, t7, t8]; simp [rsum]⟩
    clear t0 t1 t7 t8
    rintro m T D _ ⟨c, rfl, hc, rfl, rfl, t0, t1, t7, t8, t9, t10⟩
    have hcs : smC n k = if n ≤ k then n.toNat else k + 1 := rfl
    have hcm : smC n k ≤ k + 1 := by rw [hcs]; split <;> omega
    have hc1 : 1 ≤ smC n k := by rw [hcs]; split <;> omega
    by_cases hcl : c < smC n k
    · have q1 : (c : Int) < n := by rw [hcs] at hcl; split at hcl <;> omega
      have q2 : (c : Int) ≤ k := by omega
      have hsc := hsb c (by omega)
      have hx := hB.2 _ (inE.at_mem (i := k - c) (by omega))
      have hix : ((k : Int) - c).toNat = k - c := by omega
      have hlx : (k : Int) - c < l.length := by omega
      have hl0 : (0 : Int) ≤ (k : Int) - c := by omega
      have e : ((k : Int) - c) = ((k - c : Nat) : Int) := by omega
      simp (disch := first | rfl | omega | exact lt_new _ | assumption | decide | (simp [tk_here, tk_app, tk_0, tk_S, gr_here, gr_app, gr_0, gr_S] <;> omega) | fail) only [l27_18, r27_15, r27_16, r27_17, loadV_ptr, storeV_ptr, List.append_assoc, List.length_append, List.length_cons, List.length_nil, List.set_cons_zero, List.set_cons_succ, tk_here, tk_app, gr_here, gr_app, st_here, st_app, t0, t1, t7, t8, t9, t10, hlt', q1, q2, e, go_sem, ↓reduceIte, Nat.reduceLT, Nat.reduceEqDiff, Nat.reduceAdd, Nat.reduceMul, Nat.reduceSub, Int.reduceAdd, Int.reduceSub, Nat.reduceLeDiff, Int.reduceLT, Int.reduceLE, Int.reduceEq, Int.reduceNeg, Int.reduceToNat]
      repeat' ((first | refine guardB_dec (fun hy => ?_) (fun hy => ?_) | refine guardB_bool (fun hy => ?_) (fun hy => ?_) | refine guardQ_ite (fun hy => ?_) (fun hy => ?_) | refine brQ_dec (fun hy => ?_) (fun hy => ?_) | refine brQ_bool (fun hy => ?_) (fun hy => ?_)) <;> (try simp only [Bool.not_eq_true', Bool.not_eq_false', Bool.and_eq_true, Bool.or_eq_false_iff, decide_eq_true_eq, decide_eq_false_iff_not] at hy) <;> simp (disch := first | rfl | omega | exact lt_new _ | assumption | decide | (simp [tk_here, tk_app, tk_0, tk_S, gr_here, gr_app, gr_0, gr_S] <;> omega) | fail) only [l27_18, r27_15, r27_16, r27_17, loadV_ptr, storeV_ptr, List.append_assoc, List.length_append, List.length_cons, List.length_nil, List.set_cons_zero, List.set_cons_succ, tk_here, tk_app, gr_here, gr_app, st_here, st_app, t0, t1, t7, t8, t9, t10, hlt', q1, q2, e, go_sem, ↓reduceIte, Nat.reduceLT, Nat.reduceEqDiff, Nat.reduceAdd, Nat.reduceMul, Nat.reduceSub, Int.reduceAdd, Int.reduceSub, Nat.reduceLeDiff, Int.reduceLT, Int.reduceLE, Int.reduceEq, Int.reduceNeg, Int.reduceToNat, hy])
      exact ⟨_, by omega, c + 1, rfl, hcl, rfl, rfl⟩
    · obtain rfl : c = smC n k := by omega
      have q : ¬ (((smC n k : Nat) : Int) < n ∧ ((smC n k : Nat) : Int) ≤ k) := by rw [hcs]; split <;> omega
      have h74 := fn74s (rsum l k (smC n k)) (smC n k) (by omega) (by have := hsb (smC n k) hcm; omega)
      by_cases q1 : ((smC n k : Nat) : Int) < n
      · have q2 : ¬ ((smC n k : Nat) : Int) ≤ k := fun z => q ⟨q1, z⟩
        simp (disch := first | rfl | omega | exact lt_new _ | assumption | decide | (simp [tk_here, tk_app, tk_0, tk_S, gr_here, gr_app, gr_0, gr_S] <;> omega) | fail) only [l27_18, r27_15, r27_19, r27_20, loadV_ptr, storeV_ptr, List.append_assoc, List.length_append, List.length_cons, List.length_nil, List.set_cons_zero, List.set_cons_succ, tk_here, tk_app, gr_here, gr_app, st_here, st_app, t0, t1, t7, t8, t9, t10, hlt', q1, q2, h74, go_sem, ↓reduceIte, Nat.reduceLT, Nat.reduceEqDiff, Nat.reduceAdd, Nat.reduceMul, Nat.reduceSub, Int.reduceAdd, Int.reduceSub, Nat.reduceLeDiff, Int.reduceLT, Int.reduceLE, Int.reduceEq, Int.reduceNeg, Int.reduceToNat]
        repeat' ((first | refine guardB_dec (fun hy => ?_) (fun hy => ?_) | refine guardB_bool (fun hy => ?_) (fun hy => ?_) | refine guardQ_ite (fun hy => ?_) (fun hy => ?_) | refine brQ_dec (fun hy => ?_) (fun hy => ?_) | refine brQ_bool (fun hy => ?_) (fun hy => ?_)) <;> (try simp only [Bool.not_eq_true', Bool.not_eq_false', Bool.and_eq_true, Bool.or_eq_false_iff, decide_eq_true_eq, decide_eq_false_iff_not] at hy) <;> simp (disch := first | rfl | omega | exact lt_new _ | assumption | decide | (simp [tk_here, tk_app, tk_0, tk_S, gr_here, gr_app, gr_0, gr_S] <;> omega) | fail) only [l27_18, r27_15, r27_19, r27_20, loadV_ptr, storeV_ptr, List.append_assoc, List.length_append, List.length_cons, List.length_nil, List.set_cons_zero, List.set_cons_succ, tk_here, tk_app, gr_here, gr_app, st_here, st_app, t0, t1, t7, t8, t9, t10, hlt', q1, q2, h74, go_sem, ↓reduceIte, Nat.reduceLT, Nat.reduceEqDiff, Nat.reduceAdd, Nat.reduceMul, Nat.reduceSub, Int.reduceAdd, Int.reduceSub, Nat.reduceLeDiff, Int.reduceLT, Int.reduceLE, Int.reduceEq, Int.reduceNeg, Int.reduceToNat, hy])
        exact ⟨_, by omega, k + 1, G, rfl, hlt, by simp [smF_len], rfl, rfl⟩
      · skip
        simp (disch := first | rfl | omega | exact lt_new _ | assumption | decide | (simp [tk_here, tk_app, tk_0, tk_S, gr_here, gr_app, gr_0, gr_S] <;> omega) | fail) only [l27_18, r27_15, r27_19, r27_20, loadV_ptr, storeV_ptr, List.append_assoc, List.length_append, List.length_cons, List.length_nil, List.set_cons_zero, List.set_cons_succ, tk_here, tk_app, gr_here, gr_app, st_here, st_app, t0, t1, t7, t8, t9, t10, hlt', q1, h74, go_sem, ↓reduceIte, Nat.reduceLT, Nat.reduceEqDiff, Nat.reduceAdd, Nat.reduceMul, Nat.reduceSub, Int.reduceAdd, Int.reduceSub, Nat.reduceLeDiff, Int.reduceLT, Int.reduceLE, Int.reduceEq, Int.reduceNeg, Int.reduceToNat]
        repeat' ((first | refine guardB_dec (fun hy => ?_) (fun hy => ?_) | refine guardB_bool (fun hy => ?_) (fun hy => ?_) | refine guardQ_ite (fun hy => ?_) (fun hy => ?_) | refine brQ_dec (fun hy => ?_) (fun hy => ?_) | refine brQ_bool (fun hy => ?_) (fun hy => ?_)) <;> (try simp only [Bool.not_eq_true', Bool.not_eq_false', Bool.and_eq_true, Bool.or_eq_false_iff, decide_eq_true_eq, decide_eq_false_iff_not] at hy) <;> simp (disch := first | rfl | omega | exact lt_new _ | assumption | decide | (simp [tk_here, tk_app, tk_0, tk_S, gr_here, gr_app, gr_0, gr_S] <;> omega) | fail) only [l27_18, r27_15, r27_19, r27_20, loadV_ptr, storeV_ptr, List.append_assoc, List.length_append, List.length_cons, List.length_nil, List.set_cons_zero, List.set_cons_succ, tk_here, tk_app, gr_here, gr_app, st_here, st_app, t0, t1, t7, t8, t9, t10, hlt', q1, h74, go_sem, ↓reduceIte, Nat.reduceLT, Nat.reduceEqDiff, Nat.reduceAdd, Nat.reduceMul, Nat.reduceSub, Int.reduceAdd, Int.reduceSub, Nat.reduceLeDiff, Int.reduceLT, Int.reduceLE, Int.reduceEq, Int.reduceNeg, Int.reduceToNat, hy])
        exact ⟨_, by omega, k + 1, G, rfl, hlt, by simp [smF_len], rfl, rfl⟩
  · obtain rfl : k = l.length := by omega
    simp (disch := first | rfl | omega | exact lt_new _ | assumption | decide | (simp [tk_here, tk_app, tk_0, tk_S, gr_here, gr_app, gr_0, gr_S] <;> omega) | fail) only [l27_21, r27_13, r27_22, rs27, gc27, loadV_ptr, storeV_ptr, List.append_assoc, List.length_append, List.length_cons, List.length_nil, List.set_cons_zero, List.set_cons_succ, tk_here, tk_app, gr_here, gr_app, st_here, st_app, t0, t1, t7, t8, Int.lt_irrefl, go_sem, ↓reduceIte, Nat.reduceLT, Nat.reduceEqDiff, Nat.reduceAdd, Nat.reduceMul, Nat.reduceSub, Int.reduceAdd, Int.reduceSub, Nat.reduceLeDiff, Int.reduceLT, Int.reduceLE, Int.reduceEq, Int.reduceNeg, Int.reduceToNat]
    repeat' ((first | refine guardB_dec (fun hy => ?_) (fun hy => ?_) | refine guardB_bool (fun hy => ?_) (fun hy => ?_) | refine guardQ_ite (fun hy => ?_) (fun hy => ?_) | refine brQ_dec (fun hy => ?_) (fun hy => ?_) | refine brQ_bool (fun hy => ?_) (fun hy => ?_)) <;> (try simp only [Bool.not_eq_true', Bool.not_eq_false', Bool.and_eq_true, Bool.or_eq_false_iff, decide_eq_true_eq, decide_eq_false_iff_not] at hy) <;> simp (disch := first | rfl | omega | exact lt_new _ | assumption | decide | (simp [tk_here, tk_app, tk_0, tk_S, gr_here, gr_app, gr_0, gr_S] <;> omega) | fail) only [l27_21, r27_13, r27_22, rs27, gc27, loadV_ptr, storeV_ptr, List.append_assoc, List.length_append, List.length_cons, List.length_nil, List.set_cons_zero, List.set_cons_succ, tk_here, tk_app, gr_here, gr_app, st_here, st_app, t0, t1, t7, t8, Int.lt_irrefl, go_sem, ↓reduceIte, Nat.reduceLT, Nat.reduceEqDiff, Nat.reduceAdd, Nat.reduceMul, Nat.reduceSub, Int.reduceAdd, Int.reduceSub, Nat.reduceLeDiff, Int.reduceLT, Int.reduceLE, Int.reduceEq, Int.reduceNeg, Int.reduceToNat, hy])
    refine finQ_app ?_
    simp (disch := first | rfl | omega | exact lt_new _ | assumption | decide | (simp [tk_here, tk_app, tk_0, tk_S, gr_here, gr_app, gr_0, gr_S] <;> omega) | fail) only [go_sem, ↓reduceIte, Nat.reduceLT, Nat.reduceEqDiff, Nat.reduceAdd, Nat.reduceMul, Nat.reduceSub, Int.reduceAdd, Int.reduceSub, Nat.reduceLeDiff, Int.reduceLT, Int.reduceLE, Int.reduceEq, Int.reduceNeg, Int.reduceToNat]
end Go.Proofs.YteeofpgnjekeaaaGreatDoor
/-
  Smoothed numbers, as the program has them; walked. No statement of the seat stands here.
-/
namespace Go.Proofs.YteeofpgnjekeaaaGreatDoor
open Go Go.An
set_option maxRecDepth 4000
set_option linter.unusedSimpArgs false
set_option linter.unusedVariables false

theorem quo_rem {a b : Int} (hb : 0 < b) : floorI a b = if a.tmod b < 0 then a.tdiv b - 1 else a.tdiv b := by
  obtain ⟨q0, q1, q2, q3, q4⟩ := quo_fx (a := a) hb
  unfold floorI
  by_cases h : a.tmod b < 0
  · rw [if_pos h, if_pos (by omega)]
  · rw [if_neg h, if_neg (by omega)]
set_option maxHeartbeats 8000000 in
theorem fn26 (b : Bool) (l : List Int) (n : Int) (h1 : l.length ≤ 2 ^ 48) (H : Hp) : callL Tryz.prog pr 26 [slV b inE l, .int .i64 n] H = some (.tup [slV true inE (smR l n).1, .int .i64 (smR l n).2], H) := by
  have h54 := fun b l H => fn54 (b := b) (l := l) H
  refine run26 (Nat.le_of_ble_eq_true rfl) ?_
  unfold smR
  by_cases hb : 200 < l.length
  case pos =>
    rw [if_pos hb]
    have hb2 : (200 : Int) < l.length := by omega
    simp (disch := first | rfl | omega | exact lt_new _ | assumption | decide | (simp [tk_here, tk_app, tk_0, tk_S, gr_here, gr_app, gr_0, gr_S] <;> omega) | fail) only [r26_0, r26_1, r26_2, r26_3, r26_4, r26_5, r26_6, r26_7, r26_8, r26_9, r26_10, r26_11, r26_12, r26_13, r26_14, r26_15, r26_17, c26, rs26, gc26, h54, hb2, slV_nil, go_sem, ↓reduceIte, Nat.reduceLT, Nat.reduceEqDiff, Nat.reduceAdd, Nat.reduceMul, Nat.reduceSub, Int.reduceAdd, Int.reduceSub, Nat.reduceLeDiff, Int.reduceLT, Int.reduceLE, Int.reduceEq, Int.reduceNeg, Int.reduceToNat]
    repeat' ((first | refine guardB_dec (fun hy => ?_) (fun hy => ?_) | refine guardB_bool (fun hy => ?_) (fun hy => ?_) | refine guardQ_ite (fun hy => ?_) (fun hy => ?_) | refine brQ_dec (fun hy => ?_) (fun hy => ?_) | refine brQ_bool (fun hy => ?_) (fun hy => ?_)) <;> (try simp only [Bool.not_eq_true', Bool.not_eq_false', Bool.and_eq_true, Bool.or_eq_false_iff, decide_eq_true_eq, decide_eq_false_iff_not] at hy) <;> simp (disch := first | rfl | omega | exact lt_new _ | assumption | decide | (simp [tk_here, tk_app, tk_0, tk_S, gr_here, gr_app, gr_0, gr_S] <;> omega) | fail) only [r26_0, r26_1, r26_2, r26_3, r26_4, r26_5, r26_6, r26_7, r26_8, r26_9, r26_10, r26_11, r26_12, r26_13, r26_14, r26_15, r26_17, c26, rs26, gc26, h54, hb2, slV_nil, go_sem, ↓reduceIte, Nat.reduceLT, Nat.reduceEqDiff, Nat.reduceAdd, Nat.reduceMul, Nat.reduceSub, Int.reduceAdd, Int.reduceSub, Nat.reduceLeDiff, Int.reduceLT, Int.reduceLE, Int.reduceEq, Int.reduceNeg, Int.reduceToNat, hy])
    all_goals (try ((first | refine finQ_same ?_ | refine finQ_app ?_ | (rw [List.append_assoc]; refine finQ_app ?_)) <;> simp (disch := first | rfl | omega | exact lt_new _ | assumption | decide | (simp [tk_here, tk_app, tk_0, tk_S, gr_here, gr_app, gr_0, gr_S] <;> omega) | fail) only [go_sem, ↓reduceIte, Nat.reduceLT, Nat.reduceEqDiff, Nat.reduceAdd, Nat.reduceMul, Nat.reduceSub, Int.reduceAdd, Int.reduceSub, Nat.reduceLeDiff, Int.reduceLT, Int.reduceLE, Int.reduceEq, Int.reduceNeg, Int.reduceToNat, List.append_assoc, List.cons_append, List.nil_append, *]))
    all_goals (try first | rfl | (simp [*]; done) | grind)
  rw [if_neg hb]
  have hb2 : ¬ (200 : Int) < l.length := by omega
  by_cases hd : n < 1
  case pos =>
    rw [if_pos (.inl hd)]
    simp (disch := first | rfl | omega | exact lt_new _ | assumption | decide | (simp [tk_here, tk_app, tk_0, tk_S, gr_here, gr_app, gr_0, gr_S] <;> omega) | fail) only [r26_0, r26_1, r26_2, r26_3, r26_4, r26_5, r26_6, r26_7, r26_8, r26_9, r26_10, r26_11, r26_12, r26_13, r26_14, r26_15, r26_17, c26, rs26, gc26, h54, hb2, hd, slV_nil, go_sem, ↓reduceIte, Nat.reduceLT, Nat.reduceEqDiff, Nat.reduceAdd, Nat.reduceMul, Nat.reduceSub, Int.reduceAdd, Int.reduceSub, Nat.reduceLeDiff, Int.reduceLT, Int.reduceLE, Int.reduceEq, Int.reduceNeg, Int.reduceToNat]
    repeat' ((first | refine guardB_dec (fun hy => ?_) (fun hy => ?_) | refine guardB_bool (fun hy => ?_) (fun hy => ?_) | refine guardQ_ite (fun hy => ?_) (fun hy => ?_) | refine brQ_dec (fun hy => ?_) (fun hy => ?_) | refine brQ_bool (fun hy => ?_) (fun hy => ?_)) <;> (try simp only [Bool.not_eq_true', Bool.not_eq_false', Bool.and_eq_true, Bool.or_eq_false_iff, decide_eq_true_eq, decide_eq_false_iff_not] at hy) <;> simp (disch := first | rfl | omega | exact lt_new _ | assumption | decide | (simp [tk_here, tk_app, tk_0, tk_S, gr_here, gr_app, gr_0, gr_S] <;> omega) | fail) only [r26_0, r26_1, r26_2, r26_3, r26_4, r26_5, r26_6, r26_7, r26_8, r26_9, r26_10, r26_11, r26_12, r26_13, r26_14, r26_15, r26_17, c26, rs26, gc26, h54, hb2, hd, slV_nil, go_sem, ↓reduceIte, Nat.reduceLT, Nat.reduceEqDiff, Nat.reduceAdd, Nat.reduceMul, Nat.reduceSub, Int.reduceAdd, Int.reduceSub, Nat.reduceLeDiff, Int.reduceLT, Int.reduceLE, Int.reduceEq, Int.reduceNeg, Int.reduceToNat, hy])
    all_goals (try ((first | refine finQ_same ?_ | refine finQ_app ?_ | (rw [List.append_assoc]; refine finQ_app ?_)) <;> simp (disch := first | rfl | omega | exact lt_new _ | assumption | decide | (simp [tk_here, tk_app, tk_0, tk_S, gr_here, gr_app, gr_0, gr_S] <;> omega) | fail) only [go_sem, ↓reduceIte, Nat.reduceLT, Nat.reduceEqDiff, Nat.reduceAdd, Nat.reduceMul, Nat.reduceSub, Int.reduceAdd, Int.reduceSub, Nat.reduceLeDiff, Int.reduceLT, Int.reduceLE, Int.reduceEq, Int.reduceNeg, Int.reduceToNat, List.append_assoc, List.cons_append, List.nil_append, *]))
    all_goals (try first | rfl | (simp [*]; done) | grind)
  have h55 := fun H => fn55L (b := b) (l := l) (H := H) (by omega) bigN 73 [] [] (fun _ => rfl) fun x _ => fn73 x H
  by_cases c5 : l.any bigN = true
  · rw [if_pos (.inr c5)]
    rw [c5] at h55
    simp (disch := first | rfl | omega | exact lt_new _ | assumption | decide | (simp [tk_here, tk_app, tk_0, tk_S, gr_here, gr_app, gr_0, gr_S] <;> omega) | fail) only [r26_0, r26_1, r26_2, r26_3, r26_4, r26_5, r26_6, r26_7, r26_8, r26_9, r26_10, r26_11, r26_12, r26_13, r26_14, r26_15, r26_17, c26, rs26, gc26, h54, h55, hb2, hd, slV_nil, go_sem, ↓reduceIte, Nat.reduceLT, Nat.reduceEqDiff, Nat.reduceAdd, Nat.reduceMul, Nat.reduceSub, Int.reduceAdd, Int.reduceSub, Nat.reduceLeDiff, Int.reduceLT, Int.reduceLE, Int.reduceEq, Int.reduceNeg, Int.reduceToNat]
    repeat' ((first | refine guardB_dec (fun hy => ?_) (fun hy => ?_) | refine guardB_bool (fun hy => ?_) (fun hy => ?_) | refine guardQ_ite (fun hy => ?_) (fun hy => ?_) | refine brQ_dec (fun hy => ?_) (fun hy => ?_) | refine brQ_bool (fun hy => ?_) (fun hy => ?_)) <;> (try simp only [Bool.not_eq_true', Bool.not_eq_false', Bool.and_eq_true, Bool.or_eq_false_iff, decide_eq_true_eq, decide_eq_false_iff_not] at hy) <;> simp (disch := first | rfl | omega | exact lt_new _ | assumption | decide | (simp [tk_here, tk_app, tk_0, tk_S, gr_here, gr_app, gr_0, gr_S] <;> omega) | fail) only [r26_0, r26_1, r26_2, r26_3, r26_4, r26_5, r26_6, r26_7, r26_8, r26_9, r26_10, r26_11, r26_12, r26_13, r26_14, r26_15, r26_17, c26, rs26, gc26, h54, h55, hb2, hd, slV_nil, go_sem, ↓reduceIte, Nat.reduceLT, Nat.reduceEqDiff, Nat.reduceAdd, Nat.reduceMul, Nat.reduceSub, Int.reduceAdd, Int.reduceSub, Nat.reduceLeDiff, Int.reduceLT, Int.reduceLE, Int.reduceEq, Int.reduceNeg, Int.reduceToNat, hy])
    all_goals (try ((first | refine finQ_same ?_ | refine finQ_app ?_ | (rw [List.append_assoc]; refine finQ_app ?_)) <;> simp (disch := first | rfl | omega | exact lt_new _ | assumption | decide | (simp [tk_here, tk_app, tk_0, tk_S, gr_here, gr_app, gr_0, gr_S] <;> omega) | fail) only [go_sem, ↓reduceIte, Nat.reduceLT, Nat.reduceEqDiff, Nat.reduceAdd, Nat.reduceMul, Nat.reduceSub, Int.reduceAdd, Int.reduceSub, Nat.reduceLeDiff, Int.reduceLT, Int.reduceLE, Int.reduceEq, Int.reduceNeg, Int.reduceToNat, List.append_assoc, List.cons_append, List.nil_append, *]))
    all_goals (try first | rfl | (simp [*]; done) | grind)
  rw [Bool.not_eq_true] at c5
  rw [c5] at h55
  rw [if_neg (by simp [c5, hd])]
  have hB := Big.of (by omega) c5
  simp (disch := first | rfl | omega | exact lt_new _ | assumption | decide | (simp [tk_here, tk_app, tk_0, tk_S, gr_here, gr_app, gr_0, gr_S] <;> omega) | fail) only [r26_0, r26_1, r26_2, r26_3, r26_4, r26_5, r26_6, r26_7, r26_8, r26_9, r26_10, r26_11, r26_12, r26_13, r26_14, r26_15, r26_17, c26, rs26, gc26, h54, h55, hb2, hd, loadV_ptr, storeV_ptr, List.append_assoc, List.length_append, List.length_cons, List.length_nil, List.set_cons_zero, List.set_cons_succ, tk_here, tk_app, gr_here, gr_app, st_here, st_app, go_sem, ↓reduceIte, Nat.reduceLT, Nat.reduceEqDiff, Nat.reduceAdd, Nat.reduceMul, Nat.reduceSub, Int.reduceAdd, Int.reduceSub, Nat.reduceLeDiff, Int.reduceLT, Int.reduceLE, Int.reduceEq, Int.reduceNeg, Int.reduceToNat]
  repeat' ((first | refine guardB_dec (fun hy => ?_) (fun hy => ?_) | refine guardB_bool (fun hy => ?_) (fun hy => ?_) | refine guardQ_ite (fun hy => ?_) (fun hy => ?_) | refine brQ_dec (fun hy => ?_) (fun hy => ?_) | refine brQ_bool (fun hy => ?_) (fun hy => ?_)) <;> (try simp only [Bool.not_eq_true', Bool.not_eq_false', Bool.and_eq_true, Bool.or_eq_false_iff, decide_eq_true_eq, decide_eq_false_iff_not] at hy) <;> simp (disch := first | rfl | omega | exact lt_new _ | assumption | decide | (simp [tk_here, tk_app, tk_0, tk_S, gr_here, gr_app, gr_0, gr_S] <;> omega) | fail) only [r26_0, r26_1, r26_2, r26_3, r26_4, r26_5, r26_6, r26_7, r26_8, r26_9, r26_10, r26_11, r26_12, r26_13, r26_14, r26_15, r26_17, c26, rs26, gc26, h54, h55, hb2, hd, loadV_ptr, storeV_ptr, List.append_assoc, List.length_append, List.length_cons, List.length_nil, List.set_cons_zero, List.set_cons_succ, tk_here, tk_app, gr_here, gr_app, st_here, st_app, go_sem, ↓reduceIte, Nat.reduceLT, Nat.reduceEqDiff, Nat.reduceAdd, Nat.reduceMul, Nat.reduceSub, Int.reduceAdd, Int.reduceSub, Nat.reduceLeDiff, Int.reduceLT, Int.reduceLE, Int.reduceEq, Int.reduceNeg, Int.reduceToNat, hy])
  refine Wp_loop (fun m T D H1 => ∃ k G, m = l.length - k ∧ k ≤ l.length ∧ D = [] ∧ H1 = H ++ .tok ((smF l n k).length * 1) :: G ∧ get T 0 = slV b inE l ∧ get T 1 = .int .i64 n ∧ get T 6 = osV H.length inE (smF l n k) ∧ get T 20 = .int .i64 l.length ∧ get T 21 = .int .i64 k) ?_ l.length _ _ _ ?_
  case refine_2 => exact ⟨0, [], by simp (disch := first | rfl | omega | exact lt_new _ | assumption | decide | (simp [tk_here, tk_app, tk_0, tk_S, gr_here, gr_app, gr_0, gr_S] <;> omega) | fail) only [go_sem, ↓reduceIte, Nat.reduceLT, Nat.reduceEqDiff, Nat.reduceAdd, Nat.reduceMul, Nat.reduceSub, Int.reduceAdd, Int.reduceSub, Nat.reduceLeDiff, Int.reduceLT, Int.reduceLE, Int.reduceEq, Int.reduceNeg, Int.reduceToNat]; simp [smF, osV_nil]⟩
  rintro m T D _ ⟨k, G, rfl, hk, rfl, rfl, t0, t1, t6, t20, t21⟩
  have htl := smF_len l n k
  by_cases hlt : k < l.length
  · have hlt' : (k : Int) < l.length := by omega
    have hsb := rsum_b hB hlt
    have hcs : smC n k = if n ≤ k then n.toNat else k + 1 := rfl
    have hcm : smC n k ≤ k + 1 := by rw [hcs]; split <;> omega
    have hc1 : 1 ≤ smC n k := by rw [hcs]; split <;> omega
    have he : (if ((k : Int) + 1 - if (l.length : Int) < n then (l.length : Int) else n) > 0 then (k : Int) + 1 - if (l.length : Int) < n then (l.length : Int) else n else 0) = ((k + 1 - smC n k : Nat) : Int) := by
      rw [hcs]
      split <;> split <;> split <;> omega
    have hk1 : ((k : Int) + 1).toNat = k + 1 := by omega
    obtain ⟨row, hrow⟩ : ∃ row, List.take (k + 1 - (k + 1 - smC n k)) (List.drop (k + 1 - smC n k) l) = row := ⟨_, rfl⟩
    have hrl : row.length = smC n k := by rw [← hrow, List.length_take, List.length_drop]; omega
    have hrl2 : (row.length : Int) = smC n k := by omega
    have hrs : sumI row row.length = rsum l k (smC n k) := by
      rw [hrl, ← hrow, sum_cut _ (by omega), seg_rsum l k _ hcm]
    have hBr : Big row := ⟨by omega, fun x hx => hB.2 x (by rw [← hrow] at hx; exact List.mem_of_mem_drop (List.mem_of_mem_take hx))⟩
    have h71 := fun b H => fn71s (b := b) hBr (by omega) H
    rw [hrs] at h71
    have hs1 := hsb (smC n k) hcm
    obtain ⟨q0, q1, q2, q3, q4⟩ := quo_fx (a := rsum l k (smC n k)) (b := smC n k) (by omega)
    have hb0 : ¬ ((smC n k : Nat) : Int) = 0 := by omega
    have hq : -2000000000000000000 ≤ (rsum l k (smC n k)).tdiv (smC n k) ∧ (rsum l k (smC n k)).tdiv (smC n k) ≤ 2000000000000000000 := by
      rcases Int.le_total 0 (rsum l k (smC n k)) with h | h
      · have := q3 h; omega
      · have := q4 h; omega
    have w1 : IntKind.i64.wrap ((rsum l k (smC n k)).tdiv (smC n k)) = (rsum l k (smC n k)).tdiv (smC n k) := by simp (disch := first | rfl | omega | exact lt_new _ | assumption | decide | (simp [tk_here, tk_app, tk_0, tk_S, gr_here, gr_app, gr_0, gr_S] <;> omega) | fail) only [go_sem, ↓reduceIte, Nat.reduceLT, Nat.reduceEqDiff, Nat.reduceAdd, Nat.reduceMul, Nat.reduceSub, Int.reduceAdd, Int.reduceSub, Nat.reduceLeDiff, Int.reduceLT, Int.reduceLE, Int.reduceEq, Int.reduceNeg, Int.reduceToNat]
    have w2 : IntKind.i64.wrap ((rsum l k (smC n k)).tmod (smC n k)) = (rsum l k (smC n k)).tmod (smC n k) := by simp (disch := first | rfl | omega | exact lt_new _ | assumption | decide | (simp [tk_here, tk_app, tk_0, tk_S, gr_here, gr_app, gr_0, gr_S] <;> omega) | fail) only [go_sem, ↓reduceIte, Nat.reduceLT, Nat.reduceEqDiff, Nat.reduceAdd, Nat.reduceMul, Nat.reduceSub, Int.reduceAdd, Int.reduceSub, Nat.reduceLeDiff, Int.reduceLT, Int.reduceLE, Int.reduceEq, Int.reduceNeg, Int.reduceToNat]
    have hfl := quo_rem (a := rsum l k (smC n k)) (b := smC n k) (by omega)
    have hS : smF l n (k + 1) = smF l n k ++ [floorI (rsum l k (smC n k)) (smC n k)] := rfl
    by_cases hneg : (rsum l k (smC n k)).tmod (smC n k) < 0
    · rw [if_pos hneg] at hfl
      rw [hfl] at hS
      simp (disch := first | rfl | omega | exact lt_new _ | assumption | decide | (simp [tk_here, tk_app, tk_0, tk_S, gr_here, gr_app, gr_0, gr_S] <;> omega) | fail) only [l26_16, r26_7, r26_8, r26_9, r26_10, r26_11, r26_12, r26_13, r26_14, r26_15, loadV_ptr, storeV_ptr, List.append_assoc, List.length_append, List.length_cons, List.length_nil, List.set_cons_zero, List.set_cons_succ, tk_here, tk_app, gr_here, gr_app, st_here, st_app, t0, t1, t6, t20, t21, hlt', he, hk1, Int.toNat_natCast, hrow, hrl2, h71, hb0, w1, w2, hneg, go_sem, ↓reduceIte, Nat.reduceLT, Nat.reduceEqDiff, Nat.reduceAdd, Nat.reduceMul, Nat.reduceSub, Int.reduceAdd, Int.reduceSub, Nat.reduceLeDiff, Int.reduceLT, Int.reduceLE, Int.reduceEq, Int.reduceNeg, Int.reduceToNat]
      repeat' ((first | refine guardB_dec (fun hy => ?_) (fun hy => ?_) | refine guardB_bool (fun hy => ?_) (fun hy => ?_) | refine guardQ_ite (fun hy => ?_) (fun hy => ?_) | refine brQ_dec (fun hy => ?_) (fun hy => ?_) | refine brQ_bool (fun hy => ?_) (fun hy => ?_)) <;> (try simp only [Bool.not_eq_true', Bool.not_eq_false', Bool.and_eq_true, Bool.or_eq_false_iff, decide_eq_true_eq, decide_eq_false_iff_not] at hy) <;> simp (disch := first | rfl | omega | exact lt_new _ | assumption | decide | (simp [tk_here, tk_app, tk_0, tk_S, gr_here, gr_app, gr_0, gr_S] <;> omega) | fail) only [l26_16, r26_7, r26_8, r26_9, r26_10, r26_11, r26_12, r26_13, r26_14, r26_15, loadV_ptr, storeV_ptr, List.append_assoc, List.length_append, List.length_cons, List.length_nil, List.set_cons_zero, List.set_cons_succ, tk_here, tk_app, gr_here, gr_app, st_here, st_app, t0, t1, t6, t20, t21, hlt', he, hk1, Int.toNat_natCast, hrow, hrl2, h71, hb0, w1, w2, hneg, go_sem, ↓reduceIte, Nat.reduceLT, Nat.reduceEqDiff, Nat.reduceAdd, Nat.reduceMul, Nat.reduceSub, Int.reduceAdd, Int.reduceSub, Nat.reduceLeDiff, Int.reduceLT, Int.reduceLE, Int.reduceEq, Int.reduceNeg, Int.reduceToNat, hy])
      exact ⟨_, by omega, k + 1, G, rfl, hlt, by simp [smF_len], by rw [hS], rfl⟩
    · rw [if_neg hneg] at hfl
      rw [hfl] at hS
      simp (disch := first | rfl | omega | exact lt_new _ | assumption | decide | (simp [tk_here, tk_app, tk_0, tk_S, gr_here, gr_app, gr_0, gr_S] <;> omega) | fail) only [l26_16, r26_7, r26_8, r26_9, r26_10, r26_11, r26_12, r26_14, r26_15, loadV_ptr, storeV_ptr, List.append_assoc, List.length_append, List.length_cons, List.length_nil, List.set_cons_zero, List.set_cons_succ, tk_here, tk_app, gr_here, gr_app, st_here, st_app, t0, t1, t6, t20, t21, hlt', he, hk1, Int.toNat_natCast, hrow, hrl2, h71, hb0, w1, w2, hneg, go_sem, ↓reduceIte, Nat.reduceLT, Nat.reduceEqDiff, Nat.reduceAdd, Nat.reduceMul, Nat.reduceSub, Int.reduceAdd, Int.reduceSub, Nat.reduceLeDiff, Int.reduceLT, Int.reduceLE, Int.reduceEq, Int.reduceNeg, Int.reduceToNat]
      repeat' ((first | refine guardB_dec (fun hy => ?_) (fun hy => ?_) | refine guardB_bool (fun hy => ?_) (fun hy => ?_) | refine guardQ_ite (fun hy => ?_) (fun hy => ?_) | refine brQ_dec (fun hy => ?_) (fun hy => ?_) | refine brQ_bool (fun hy => ?_) (fun hy => ?_)) <;> (try simp only [Bool.not_eq_true', Bool.not_eq_false', Bool.and_eq_true, Bool.or_eq_false_iff, decide_eq_true_eq, decide_eq_false_iff_not] at hy) <;> simp (disch := first | rfl | omega | exact lt_new _ | assumption | decide | (simp [tk_here, tk_app, tk_0, tk_S, gr_here, gr_app, gr_0, gr_S] <;> omega) | fail) only [l26_16, r26_7, r26_8, r26_9, r26_10, r26_11, r26_12, r26_14, r26_15, loadV_ptr, storeV_ptr, List.append_assoc, List.length_append, List.length_cons, List.length_nil, List.set_cons_zero, List.set_cons_succ, tk_here, tk_app, gr_here, gr_app, st_here, st_app, t0, t1, t6, t20, t21, hlt', he, hk1, Int.toNat_natCast, hrow, hrl2, h71, hb0, w1, w2, hneg, go_sem, ↓reduceIte, Nat.reduceLT, Nat.reduceEqDiff, Nat.reduceAdd, Nat.reduceMul, Nat.reduceSub, Int.reduceAdd, Int.reduceSub, Nat.reduceLeDiff, Int.reduceLT, Int.reduceLE, Int.reduceEq, Int.reduceNeg, Int.reduceToNat, hy])
      exact ⟨_, by omega, k + 1, G, rfl, hlt, by simp [smF_len], by rw [hS], rfl⟩
  · obtain rfl : k = l.length := by omega
    simp (disch := first | rfl | omega | exact lt_new _ | assumption | decide | (simp [tk_here, tk_app, tk_0, tk_S, gr_here, gr_app, gr_0, gr_S] <;> omega) | fail) only [l26_16, r26_7, r26_17, rs26, gc26, loadV_ptr, storeV_ptr, List.append_assoc, List.length_append, List.length_cons, List.length_nil, List.set_cons_zero, List.set_cons_succ, tk_here, tk_app, gr_here, gr_app, st_here, st_app, t0, t1, t6, t20, t21, Int.lt_irrefl, go_sem, ↓reduceIte, Nat.reduceLT, Nat.reduceEqDiff, Nat.reduceAdd, Nat.reduceMul, Nat.reduceSub, Int.reduceAdd, Int.reduceSub, Nat.reduceLeDiff, Int.reduceLT, Int.reduceLE, Int.reduceEq, Int.reduceNeg, Int.reduceToNat]
    repeat' ((first | refine guardB_dec (fun hy => ?_) (fun hy => ?_) | refine guardB_bool (fun hy => ?_) (fun hy => ?_) | refine guardQ_ite (fun hy => ?_) (fun hy => ?_) | refine brQ_dec (fun hy => ?_) (fun hy => ?_) | refine brQ_bool (fun hy => ?_) (fun hy => ?_)) <;> (try simp only [Bool.not_eq_true', Bool.not_eq_false', Bool.and_eq_true, Bool.or_eq_false_iff, decide_eq_true_eq, decide_eq_false_iff_not] at hy) <;> simp (disch := first | rfl | omega | exact lt_new _ | assumption | decide | (simp [tk_here, tk_app, tk_0, tk_S, gr_here, gr_app, gr_0, gr_S] <;> omega) | fail) only [l26_16, r26_7, r26_17, rs26, gc26, loadV_ptr, storeV_ptr, List.append_assoc, List.length_append, List.length_cons, List.length_nil, List.set_cons_zero, List.set_cons_succ, tk_here, tk_app, gr_here, gr_app, st_here, st_app, t0, t1, t6, t20, t21, Int.lt_irrefl, go_sem, ↓reduceIte, Nat.reduceLT, Nat.reduceEqDiff, Nat.reduceAdd, Nat.reduceMul, Nat.reduceSub, Int.reduceAdd, Int.reduceSub, Nat.reduceLeDiff, Int.reduceLT, Int.reduceLE, Int.reduceEq, Int.reduceNeg, Int.reduceToNat, hy])
    refine finQ_app ?_
    simp (disch := first | rfl | omega | exact lt_new _ | assumption | decide | (simp [tk_here, tk_app, tk_0, tk_S, gr_here, gr_app, gr_0, gr_S] <;> omega) | fail) only [go_sem, ↓reduceIte, Nat.reduceLT, Nat.reduceEqDiff, Nat.reduceAdd, Nat.reduceMul, Nat.reduceSub, Int.reduceAdd, Int.reduceSub, Nat.reduceLeDiff, Int.reduceLT, Int.reduceLE, Int.reduceEq, Int.reduceNeg, Int.reduceToNat]
end Go.Proofs.YteeofpgnjekeaaaGreatDoor
/-
  How many are between bounds: the library's search, and the plain law. No statement of the seat stands here.
-/
namespace Go.Proofs.YteeofpgnjekeaaaGreatDoor
open Go Go.An
set_option maxRecDepth 4000
set_option linter.unusedSimpArgs false
set_option linter.unusedVariables false

theorem fn105 (n : Int) (H : Hp) : callL Tryz.prog pr 105 [.int .i64 n] H = some (.bool false, H) := by
  refine run105 (Nat.le_of_ble_eq_true rfl) ?_
  simp (disch := first | rfl | omega | exact lt_new _ | assumption | decide | (simp [tk_here, tk_app, tk_0, tk_S, gr_here, gr_app, gr_0, gr_S] <;> omega) | fail) only [r105_0, r105_1, c105, rs105, gc105, go_sem, ↓reduceIte, Nat.reduceLT, Nat.reduceEqDiff, Nat.reduceAdd, Nat.reduceMul, Nat.reduceSub, Int.reduceAdd, Int.reduceSub, Nat.reduceLeDiff, Int.reduceLT, Int.reduceLE, Int.reduceEq, Int.reduceNeg, Int.reduceToNat]
  repeat' ((first | refine guardB_dec (fun hy => ?_) (fun hy => ?_) | refine guardB_bool (fun hy => ?_) (fun hy => ?_) | refine guardQ_ite (fun hy => ?_) (fun hy => ?_) | refine brQ_dec (fun hy => ?_) (fun hy => ?_) | refine brQ_bool (fun hy => ?_) (fun hy => ?_)) <;> (try simp only [Bool.not_eq_true', Bool.not_eq_false', Bool.and_eq_true, Bool.or_eq_false_iff, decide_eq_true_eq, decide_eq_false_iff_not] at hy) <;> simp (disch := first | rfl | omega | exact lt_new _ | assumption | decide | (simp [tk_here, tk_app, tk_0, tk_S, gr_here, gr_app, gr_0, gr_S] <;> omega) | fail) only [r105_0, r105_1, c105, rs105, gc105, go_sem, ↓reduceIte, Nat.reduceLT, Nat.reduceEqDiff, Nat.reduceAdd, Nat.reduceMul, Nat.reduceSub, Int.reduceAdd, Int.reduceSub, Nat.reduceLeDiff, Int.reduceLT, Int.reduceLE, Int.reduceEq, Int.reduceNeg, Int.reduceToNat, hy])
  all_goals (try ((first | refine finQ_same ?_ | refine finQ_app ?_ | (rw [List.append_assoc]; refine finQ_app ?_)) <;> simp (disch := first | rfl | omega | exact lt_new _ | assumption | decide | (simp [tk_here, tk_app, tk_0, tk_S, gr_here, gr_app, gr_0, gr_S] <;> omega) | fail) only [go_sem, ↓reduceIte, Nat.reduceLT, Nat.reduceEqDiff, Nat.reduceAdd, Nat.reduceMul, Nat.reduceSub, Int.reduceAdd, Int.reduceSub, Nat.reduceLeDiff, Int.reduceLT, Int.reduceLE, Int.reduceEq, Int.reduceNeg, Int.reduceToNat, List.append_assoc, List.cons_append, List.nil_append, *]))
  all_goals (try first | rfl | (simp [*]; done) | grind)
theorem fn120 (n : Int) (H : Hp) : callL Tryz.prog pr 120 [.int .i64 n] H = some (.bool false, H) := by
  refine run120 (Nat.le_of_ble_eq_true rfl) ?_
  simp (disch := first | rfl | omega | exact lt_new _ | assumption | decide | (simp [tk_here, tk_app, tk_0, tk_S, gr_here, gr_app, gr_0, gr_S] <;> omega) | fail) only [r120_0, r120_1, c120, rs120, gc120, go_sem, ↓reduceIte, Nat.reduceLT, Nat.reduceEqDiff, Nat.reduceAdd, Nat.reduceMul, Nat.reduceSub, Int.reduceAdd, Int.reduceSub, Nat.reduceLeDiff, Int.reduceLT, Int.reduceLE, Int.reduceEq, Int.reduceNeg, Int.reduceToNat]
  repeat' ((first | refine guardB_dec (fun hy => ?_) (fun hy => ?_) | refine guardB_bool (fun hy => ?_) (fun hy => ?_) | refine guardQ_ite (fun hy => ?_) (fun hy => ?_) | refine brQ_dec (fun hy => ?_) (fun hy => ?_) | refine brQ_bool (fun hy => ?_) (fun hy => ?_)) <;> (try simp only [Bool.not_eq_true', Bool.not_eq_false', Bool.and_eq_true, Bool.or_eq_false_iff, decide_eq_true_eq, decide_eq_false_iff_not] at hy) <;> simp (disch := first | rfl | omega | exact lt_new _ | assumption | decide | (simp [tk_here, tk_app, tk_0, tk_S, gr_here, gr_app, gr_0, gr_S] <;> omega) | fail) only [r120_0, r120_1, c120, rs120, gc120, go_sem, ↓reduceIte, Nat.reduceLT, Nat.reduceEqDiff, Nat.reduceAdd, Nat.reduceMul, Nat.reduceSub, Int.reduceAdd, Int.reduceSub, Nat.reduceLeDiff, Int.reduceLT, Int.reduceLE, Int.reduceEq, Int.reduceNeg, Int.reduceToNat, hy])
  all_goals (try ((first | refine finQ_same ?_ | refine finQ_app ?_ | (rw [List.append_assoc]; refine finQ_app ?_)) <;> simp (disch := first | rfl | omega | exact lt_new _ | assumption | decide | (simp [tk_here, tk_app, tk_0, tk_S, gr_here, gr_app, gr_0, gr_S] <;> omega) | fail) only [go_sem, ↓reduceIte, Nat.reduceLT, Nat.reduceEqDiff, Nat.reduceAdd, Nat.reduceMul, Nat.reduceSub, Int.reduceAdd, Int.reduceSub, Nat.reduceLeDiff, Int.reduceLT, Int.reduceLE, Int.reduceEq, Int.reduceNeg, Int.reduceToNat, List.append_assoc, List.cons_append, List.nil_append, *]))
  all_goals (try first | rfl | (simp [*]; done) | grind)
theorem fn119 (m n : Int) (H : Hp) : callL Tryz.prog pr 119 [.int .i64 m, .int .i64 n] H = some (.bool (decide (m < n)), H) := by
  have h105 := fn105
  refine run119 (Nat.le_of_ble_eq_true rfl) ?_
  simp (disch := first | rfl | omega | exact lt_new _ | assumption | decide | (simp [tk_here, tk_app, tk_0, tk_S, gr_here, gr_app, gr_0, gr_S] <;> omega) | fail) only [r119_0, r119_1, c119, rs119, gc119, h105, go_sem, ↓reduceIte, Nat.reduceLT, Nat.reduceEqDiff, Nat.reduceAdd, Nat.reduceMul, Nat.reduceSub, Int.reduceAdd, Int.reduceSub, Nat.reduceLeDiff, Int.reduceLT, Int.reduceLE, Int.reduceEq, Int.reduceNeg, Int.reduceToNat]
  repeat' ((first | refine guardB_dec (fun hy => ?_) (fun hy => ?_) | refine guardB_bool (fun hy => ?_) (fun hy => ?_) | refine guardQ_ite (fun hy => ?_) (fun hy => ?_) | refine brQ_dec (fun hy => ?_) (fun hy => ?_) | refine brQ_bool (fun hy => ?_) (fun hy => ?_)) <;> (try simp only [Bool.not_eq_true', Bool.not_eq_false', Bool.and_eq_true, Bool.or_eq_false_iff, decide_eq_true_eq, decide_eq_false_iff_not] at hy) <;> simp (disch := first | rfl | omega | exact lt_new _ | assumption | decide | (simp [tk_here, tk_app, tk_0, tk_S, gr_here, gr_app, gr_0, gr_S] <;> omega) | fail) only [r119_0, r119_1, c119, rs119, gc119, h105, go_sem, ↓reduceIte, Nat.reduceLT, Nat.reduceEqDiff, Nat.reduceAdd, Nat.reduceMul, Nat.reduceSub, Int.reduceAdd, Int.reduceSub, Nat.reduceLeDiff, Int.reduceLT, Int.reduceLE, Int.reduceEq, Int.reduceNeg, Int.reduceToNat, hy])
  all_goals (try ((first | refine finQ_same ?_ | refine finQ_app ?_ | (rw [List.append_assoc]; refine finQ_app ?_)) <;> simp (disch := first | rfl | omega | exact lt_new _ | assumption | decide | (simp [tk_here, tk_app, tk_0, tk_S, gr_here, gr_app, gr_0, gr_S] <;> omega) | fail) only [go_sem, ↓reduceIte, Nat.reduceLT, Nat.reduceEqDiff, Nat.reduceAdd, Nat.reduceMul, Nat.reduceSub, Int.reduceAdd, Int.reduceSub, Nat.reduceLeDiff, Int.reduceLT, Int.reduceLE, Int.reduceEq, Int.reduceNeg, Int.reduceToNat, List.append_assoc, List.cons_append, List.nil_append, *]))
  all_goals (try first | rfl | (simp [*]; done) | grind)
/-- The first place whose number is not less. -/
def IsLow (B : List Int) (x : Int) (i : Nat) : Prop := i ≤ B.length ∧ (∀ j < i, inE.at B j < x) ∧ ∀ j, i ≤ j → j < B.length → x ≤ inE.at B j
def Asc (B : List Int) : Prop := ∀ i j, i < j → j < B.length → inE.at B i < inE.at B j
theorem Asc.of {B : List Int} (h : ∀ i, i + 1 < B.length → inE.at B i < inE.at B (i + 1)) : Asc B := by
  intro i j hij
  induction j with
  | zero => omega
  | succ j ih =>
    intro hj
    by_cases e : i = j
    · subst e; exact h i hj
    · have := ih (by omega) (by omega)
      have := h j hj
      omega
set_option maxHeartbeats 4000000 in
theorem fn75 (b : Bool) (B : List Int) (hA : Asc B) (hl : B.length ≤ 200) (x : Int) (H : Hp) : ∃ i, IsLow B x i ∧ callL Tryz.prog pr 75 [slV b inE B, .int .i64 x] H = some (.tup [.int .i64 (i : Int), .bool (decide (i < B.length ∧ inE.at B i = x))], H) := by
  suffices h : ∃ r, callL Tryz.prog pr 75 [slV b inE B, .int .i64 x] H = some r ∧ ∃ i, IsLow B x i ∧ r = (.tup [.int .i64 (i : Int), .bool (decide (i < B.length ∧ inE.at B i = x))], H) by
    obtain ⟨_, e, i, h1, rfl⟩ := h
    exact ⟨i, h1, e⟩
  have h119 := fn119
  have h120 := fn120
  refine ex75 (Nat.le_of_ble_eq_true rfl) ?_
  simp (disch := first | rfl | omega | exact lt_new _ | assumption | decide | (simp [tk_here, tk_app, tk_0, tk_S, gr_here, gr_app, gr_0, gr_S] <;> omega) | fail) only [r75_0, r75_1, r75_2, r75_3, r75_4, r75_5, r75_6, r75_7, r75_9, c75, rs75, gc75, go_sem, ↓reduceIte, Nat.reduceLT, Nat.reduceEqDiff, Nat.reduceAdd, Nat.reduceMul, Nat.reduceSub, Int.reduceAdd, Int.reduceSub, Nat.reduceLeDiff, Int.reduceLT, Int.reduceLE, Int.reduceEq, Int.reduceNeg, Int.reduceToNat]
  repeat' ((first | refine guardB_dec (fun hy => ?_) (fun hy => ?_) | refine guardB_bool (fun hy => ?_) (fun hy => ?_) | refine guardQ_ite (fun hy => ?_) (fun hy => ?_) | refine brQ_dec (fun hy => ?_) (fun hy => ?_) | refine brQ_bool (fun hy => ?_) (fun hy => ?_)) <;> (try simp only [Bool.not_eq_true', Bool.not_eq_false', Bool.and_eq_true, Bool.or_eq_false_iff, decide_eq_true_eq, decide_eq_false_iff_not] at hy) <;> simp (disch := first | rfl | omega | exact lt_new _ | assumption | decide | (simp [tk_here, tk_app, tk_0, tk_S, gr_here, gr_app, gr_0, gr_S] <;> omega) | fail) only [r75_0, r75_1, r75_2, r75_3, r75_4, r75_5, r75_6, r75_7, r75_9, c75, rs75, gc75, go_sem, ↓reduceIte, Nat.reduceLT, Nat.reduceEqDiff, Nat.reduceAdd, Nat.reduceMul, Nat.reduceSub, Int.reduceAdd, Int.reduceSub, Nat.reduceLeDiff, Int.reduceLT, Int.reduceLE, Int.reduceEq, Int.reduceNeg, Int.reduceToNat, hy])
  refine Wp_loop (fun m T D H' => ∃ i j : Nat, m = j - i ∧ i ≤ j ∧ j ≤ B.length ∧ D = [] ∧ H' = H ∧ get T 0 = slV b inE B ∧ get T 1 = .int .i64 x ∧ get T 6 = .int .i64 B.length ∧ get T 7 = .int .i64 i ∧ get T 8 = .int .i64 j ∧ (∀ k < i, inE.at B k < x) ∧ (∀ k, j ≤ k → k < B.length → x ≤ inE.at B k)) ?_ B.length _ _ _ ?_
  case refine_2 => exact ⟨0, B.length, by omega, by omega, by omega, by simp (disch := first | rfl | omega | exact lt_new _ | assumption | decide | (simp [tk_here, tk_app, tk_0, tk_S, gr_here, gr_app, gr_0, gr_S] <;> omega) | fail) only [go_sem, ↓reduceIte, Nat.reduceLT, Nat.reduceEqDiff, Nat.reduceAdd, Nat.reduceMul, Nat.reduceSub, Int.reduceAdd, Int.reduceSub, Nat.reduceLeDiff, Int.reduceLT, Int.reduceLE, Int.reduceEq, Int.reduceNeg, Int.reduceToNat]; simp; omega⟩
  rintro m T D H' ⟨i, j, rfl, hij, hj, rfl, rfl, t0, t1, t6, t7, t8, hlo, hhi⟩
  by_cases hlt : i < j
  · have hlt' : (i : Int) < j := by omega
    obtain ⟨h, hh⟩ : ∃ h, h = (i + j) / 2 := ⟨_, rfl⟩
    have hih : i ≤ h := by omega
    have hhj : h < j := by omega
    have hw : IntKind.u64.wrap ((i : Int) + j) = ((i + j : Nat) : Int) := by
      have e : (i : Int) + j = ((i + j : Nat) : Int) := by omega
      rw [e]
      exact IntWalk.u64_in _ (by omega)
    have hsr : binV Tryz.prog .shr 160 (.int .u64 ((i + j : Nat) : Int)) (.int .u64 1) = some (.int .u64 (h : Int)) := by
      have e : ((i + j : Nat) : Int).fdiv (2 ^ 1) = ((h : Nat) : Int) := by
        rw [Int.fdiv_eq_ediv_of_nonneg _ (by omega)]
        omega
      show some (V.int .u64 (((i + j : Nat) : Int).fdiv (2 ^ min (1 : Int).toNat IntKind.u64.bits))) = _
      rw [show min (1 : Int).toNat IntKind.u64.bits = 1 by decide, e]
    have hhl : (h : Int) < B.length := by omega
    by_cases q : inE.at B h < x
    · skip
      simp (disch := first | rfl | omega | exact lt_new _ | assumption | decide | (simp [tk_here, tk_app, tk_0, tk_S, gr_here, gr_app, gr_0, gr_S] <;> omega) | fail) only [l75_8, r75_3, r75_4, r75_5, r75_6, t0, t1, t6, t7, t8, hlt', hw, hsr, hhl, h119, q, go_sem, ↓reduceIte, Nat.reduceLT, Nat.reduceEqDiff, Nat.reduceAdd, Nat.reduceMul, Nat.reduceSub, Int.reduceAdd, Int.reduceSub, Nat.reduceLeDiff, Int.reduceLT, Int.reduceLE, Int.reduceEq, Int.reduceNeg, Int.reduceToNat]
      repeat' ((first | refine guardB_dec (fun hy => ?_) (fun hy => ?_) | refine guardB_bool (fun hy => ?_) (fun hy => ?_) | refine guardQ_ite (fun hy => ?_) (fun hy => ?_) | refine brQ_dec (fun hy => ?_) (fun hy => ?_) | refine brQ_bool (fun hy => ?_) (fun hy => ?_)) <;> (try simp only [Bool.not_eq_true', Bool.not_eq_false', Bool.and_eq_true, Bool.or_eq_false_iff, decide_eq_true_eq, decide_eq_false_iff_not] at hy) <;> simp (disch := first | rfl | omega | exact lt_new _ | assumption | decide | (simp [tk_here, tk_app, tk_0, tk_S, gr_here, gr_app, gr_0, gr_S] <;> omega) | fail) only [l75_8, r75_3, r75_4, r75_5, r75_6, t0, t1, t6, t7, t8, hlt', hw, hsr, hhl, h119, q, go_sem, ↓reduceIte, Nat.reduceLT, Nat.reduceEqDiff, Nat.reduceAdd, Nat.reduceMul, Nat.reduceSub, Int.reduceAdd, Int.reduceSub, Nat.reduceLeDiff, Int.reduceLT, Int.reduceLE, Int.reduceEq, Int.reduceNeg, Int.reduceToNat, hy])
      refine ⟨_, by omega, h + 1, j, rfl, by omega, hj, rfl, rfl, fun k hk => ?_, hhi⟩
      by_cases e : k = h
      · subst e; exact q
      · have := hA k h (by omega) (by omega)
        omega
    · skip
      simp (disch := first | rfl | omega | exact lt_new _ | assumption | decide | (simp [tk_here, tk_app, tk_0, tk_S, gr_here, gr_app, gr_0, gr_S] <;> omega) | fail) only [l75_8, r75_3, r75_4, r75_5, r75_7, t0, t1, t6, t7, t8, hlt', hw, hsr, hhl, h119, q, go_sem, ↓reduceIte, Nat.reduceLT, Nat.reduceEqDiff, Nat.reduceAdd, Nat.reduceMul, Nat.reduceSub, Int.reduceAdd, Int.reduceSub, Nat.reduceLeDiff, Int.reduceLT, Int.reduceLE, Int.reduceEq, Int.reduceNeg, Int.reduceToNat]
      repeat' ((first | refine guardB_dec (fun hy => ?_) (fun hy => ?_) | refine guardB_bool (fun hy => ?_) (fun hy => ?_) | refine guardQ_ite (fun hy => ?_) (fun hy => ?_) | refine brQ_dec (fun hy => ?_) (fun hy => ?_) | refine brQ_bool (fun hy => ?_) (fun hy => ?_)) <;> (try simp only [Bool.not_eq_true', Bool.not_eq_false', Bool.and_eq_true, Bool.or_eq_false_iff, decide_eq_true_eq, decide_eq_false_iff_not] at hy) <;> simp (disch := first | rfl | omega | exact lt_new _ | assumption | decide | (simp [tk_here, tk_app, tk_0, tk_S, gr_here, gr_app, gr_0, gr_S] <;> omega) | fail) only [l75_8, r75_3, r75_4, r75_5, r75_7, t0, t1, t6, t7, t8, hlt', hw, hsr, hhl, h119, q, go_sem, ↓reduceIte, Nat.reduceLT, Nat.reduceEqDiff, Nat.reduceAdd, Nat.reduceMul, Nat.reduceSub, Int.reduceAdd, Int.reduceSub, Nat.reduceLeDiff, Int.reduceLT, Int.reduceLE, Int.reduceEq, Int.reduceNeg, Int.reduceToNat, hy])
      refine ⟨_, by omega, i, h, rfl, by omega, by omega, rfl, rfl, hlo, fun k hk hk2 => ?_⟩
      by_cases e : k = h
      · subst e; omega
      · have := hA h k (by omega) (by omega)
        omega
  · obtain rfl : i = j := by omega
    have hlow : IsLow B x i := ⟨hj, hlo, hhi⟩
    by_cases q1 : i < B.length
    · have q1' : (i : Int) < B.length := by omega
      by_cases q2 : inE.at B i = x
      · skip
        simp (disch := first | rfl | omega | exact lt_new _ | assumption | decide | (simp [tk_here, tk_app, tk_0, tk_S, gr_here, gr_app, gr_0, gr_S] <;> omega) | fail) only [r75_0, r75_1, r75_2, r75_3, r75_4, r75_5, r75_6, r75_7, r75_9, c75, rs75, gc75, l75_8, t0, t1, t6, t7, t8, Int.lt_irrefl, q1', q2, h120, go_sem, ↓reduceIte, Nat.reduceLT, Nat.reduceEqDiff, Nat.reduceAdd, Nat.reduceMul, Nat.reduceSub, Int.reduceAdd, Int.reduceSub, Nat.reduceLeDiff, Int.reduceLT, Int.reduceLE, Int.reduceEq, Int.reduceNeg, Int.reduceToNat]
        repeat' ((first | refine guardB_dec (fun hy => ?_) (fun hy => ?_) | refine guardB_bool (fun hy => ?_) (fun hy => ?_) | refine guardQ_ite (fun hy => ?_) (fun hy => ?_) | refine brQ_dec (fun hy => ?_) (fun hy => ?_) | refine brQ_bool (fun hy => ?_) (fun hy => ?_)) <;> (try simp only [Bool.not_eq_true', Bool.not_eq_false', Bool.and_eq_true, Bool.or_eq_false_iff, decide_eq_true_eq, decide_eq_false_iff_not] at hy) <;> simp (disch := first | rfl | omega | exact lt_new _ | assumption | decide | (simp [tk_here, tk_app, tk_0, tk_S, gr_here, gr_app, gr_0, gr_S] <;> omega) | fail) only [r75_0, r75_1, r75_2, r75_3, r75_4, r75_5, r75_6, r75_7, r75_9, c75, rs75, gc75, l75_8, t0, t1, t6, t7, t8, Int.lt_irrefl, q1', q2, h120, go_sem, ↓reduceIte, Nat.reduceLT, Nat.reduceEqDiff, Nat.reduceAdd, Nat.reduceMul, Nat.reduceSub, Int.reduceAdd, Int.reduceSub, Nat.reduceLeDiff, Int.reduceLT, Int.reduceLE, Int.reduceEq, Int.reduceNeg, Int.reduceToNat, hy])
        refine ⟨i, hlow, finQ_same ?_⟩
        simp (disch := first | rfl | omega | exact lt_new _ | assumption | decide | (simp [tk_here, tk_app, tk_0, tk_S, gr_here, gr_app, gr_0, gr_S] <;> omega) | fail) only [go_sem, ↓reduceIte, Nat.reduceLT, Nat.reduceEqDiff, Nat.reduceAdd, Nat.reduceMul, Nat.reduceSub, Int.reduceAdd, Int.reduceSub, Nat.reduceLeDiff, Int.reduceLT, Int.reduceLE, Int.reduceEq, Int.reduceNeg, Int.reduceToNat, q1, q2]
      · skip
        simp (disch := first | rfl | omega | exact lt_new _ | assumption | decide | (simp [tk_here, tk_app, tk_0, tk_S, gr_here, gr_app, gr_0, gr_S] <;> omega) | fail) only [r75_0, r75_1, r75_2, r75_3, r75_4, r75_5, r75_6, r75_7, r75_9, c75, rs75, gc75, l75_8, t0, t1, t6, t7, t8, Int.lt_irrefl, q1', q2, h120, go_sem, ↓reduceIte, Nat.reduceLT, Nat.reduceEqDiff, Nat.reduceAdd, Nat.reduceMul, Nat.reduceSub, Int.reduceAdd, Int.reduceSub, Nat.reduceLeDiff, Int.reduceLT, Int.reduceLE, Int.reduceEq, Int.reduceNeg, Int.reduceToNat]
        repeat' ((first | refine guardB_dec (fun hy => ?_) (fun hy => ?_) | refine guardB_bool (fun hy => ?_) (fun hy => ?_) | refine guardQ_ite (fun hy => ?_) (fun hy => ?_) | refine brQ_dec (fun hy => ?_) (fun hy => ?_) | refine brQ_bool (fun hy => ?_) (fun hy => ?_)) <;> (try simp only [Bool.not_eq_true', Bool.not_eq_false', Bool.and_eq_true, Bool.or_eq_false_iff, decide_eq_true_eq, decide_eq_false_iff_not] at hy) <;> simp (disch := first | rfl | omega | exact lt_new _ | assumption | decide | (simp [tk_here, tk_app, tk_0, tk_S, gr_here, gr_app, gr_0, gr_S] <;> omega) | fail) only [r75_0, r75_1, r75_2, r75_3, r75_4, r75_5, r75_6, r75_7, r75_9, c75, rs75, gc75, l75_8, t0, t1, t6, t7, t8, Int.lt_irrefl, q1', q2, h120, go_sem, ↓reduceIte, Nat.reduceLT, Nat.reduceEqDiff, Nat.reduceAdd, Nat.reduceMul, Nat.reduceSub, Int.reduceAdd, Int.reduceSub, Nat.reduceLeDiff, Int.reduceLT, Int.reduceLE, Int.reduceEq, Int.reduceNeg, Int.reduceToNat, hy])
        refine ⟨i, hlow, finQ_same ?_⟩
        simp (disch := first | rfl | omega | exact lt_new _ | assumption | decide | (simp [tk_here, tk_app, tk_0, tk_S, gr_here, gr_app, gr_0, gr_S] <;> omega) | fail) only [go_sem, ↓reduceIte, Nat.reduceLT, Nat.reduceEqDiff, Nat.reduceAdd, Nat.reduceMul, Nat.reduceSub, Int.reduceAdd, Int.reduceSub, Nat.reduceLeDiff, Int.reduceLT, Int.reduceLE, Int.reduceEq, Int.reduceNeg, Int.reduceToNat, q1, q2]
    · have q1' : ¬ (i : Int) < B.length := by omega
      simp (disch := first | rfl | omega | exact lt_new _ | assumption | decide | (simp [tk_here, tk_app, tk_0, tk_S, gr_here, gr_app, gr_0, gr_S] <;> omega) | fail) only [r75_0, r75_1, r75_2, r75_3, r75_4, r75_5, r75_6, r75_7, r75_9, c75, rs75, gc75, l75_8, t0, t1, t6, t7, t8, Int.lt_irrefl, q1', h120, go_sem, ↓reduceIte, Nat.reduceLT, Nat.reduceEqDiff, Nat.reduceAdd, Nat.reduceMul, Nat.reduceSub, Int.reduceAdd, Int.reduceSub, Nat.reduceLeDiff, Int.reduceLT, Int.reduceLE, Int.reduceEq, Int.reduceNeg, Int.reduceToNat]
      repeat' ((first | refine guardB_dec (fun hy => ?_) (fun hy => ?_) | refine guardB_bool (fun hy => ?_) (fun hy => ?_) | refine guardQ_ite (fun hy => ?_) (fun hy => ?_) | refine brQ_dec (fun hy => ?_) (fun hy => ?_) | refine brQ_bool (fun hy => ?_) (fun hy => ?_)) <;> (try simp only [Bool.not_eq_true', Bool.not_eq_false', Bool.and_eq_true, Bool.or_eq_false_iff, decide_eq_true_eq, decide_eq_false_iff_not] at hy) <;> simp (disch := first | rfl | omega | exact lt_new _ | assumption | decide | (simp [tk_here, tk_app, tk_0, tk_S, gr_here, gr_app, gr_0, gr_S] <;> omega) | fail) only [r75_0, r75_1, r75_2, r75_3, r75_4, r75_5, r75_6, r75_7, r75_9, c75, rs75, gc75, l75_8, t0, t1, t6, t7, t8, Int.lt_irrefl, q1', h120, go_sem, ↓reduceIte, Nat.reduceLT, Nat.reduceEqDiff, Nat.reduceAdd, Nat.reduceMul, Nat.reduceSub, Int.reduceAdd, Int.reduceSub, Nat.reduceLeDiff, Int.reduceLT, Int.reduceLE, Int.reduceEq, Int.reduceNeg, Int.reduceToNat, hy])
      refine ⟨i, hlow, finQ_same ?_⟩
      simp (disch := first | rfl | omega | exact lt_new _ | assumption | decide | (simp [tk_here, tk_app, tk_0, tk_S, gr_here, gr_app, gr_0, gr_S] <;> omega) | fail) only [go_sem, ↓reduceIte, Nat.reduceLT, Nat.reduceEqDiff, Nat.reduceAdd, Nat.reduceMul, Nat.reduceSub, Int.reduceAdd, Int.reduceSub, Nat.reduceLeDiff, Int.reduceLT, Int.reduceLE, Int.reduceEq, Int.reduceNeg, Int.reduceToNat, q1]
      simp
end Go.Proofs.YteeofpgnjekeaaaGreatDoor
/-
  How many are between bounds, for both; walked. No statement of the seat stands here.
-/
namespace Go.Proofs.YteeofpgnjekeaaaGreatDoor
open Go Go.An
set_option maxRecDepth 4000
set_option linter.unusedSimpArgs false
set_option linter.unusedVariables false

def cutL (x : Int) : List Int → Nat
  | [] => 0
  | y :: l => if y ≤ x then cutL x l + 1 else 0
def IsCut (B : List Int) (x : Int) (k : Nat) : Prop := k ≤ B.length ∧ (∀ j < k, inE.at B j ≤ x) ∧ (k < B.length → x < inE.at B k)
theorem IsCut.uniq {B : List Int} {x : Int} {k k' : Nat} (h : IsCut B x k) (h' : IsCut B x k') : k = k' := by
  rcases Nat.lt_trichotomy k k' with c | c | c
  · have := h.2.2 (by have := h'.1; omega)
    have := h'.2.1 k c
    omega
  · exact c
  · have := h'.2.2 (by have := h.1; omega)
    have := h.2.1 k' c
    omega
theorem at_cons0 (y : Int) (l : List Int) : inE.at (y :: l) 0 = y := rfl
theorem at_consS (y : Int) (l : List Int) (j : Nat) : inE.at (y :: l) (j + 1) = inE.at l j := rfl
theorem cut_is (x : Int) : ∀ B : List Int, IsCut B x (cutL x B)
  | [] => ⟨Nat.le_refl _, fun _ h => (by cases h), fun h => (by cases h)⟩
  | y :: l => by
    obtain ⟨a, b, c⟩ := cut_is x l
    unfold cutL
    split
    · refine ⟨by simp; omega, fun j hj => ?_, fun h => ?_⟩
      · cases j with
        | zero => rw [at_cons0]; assumption
        | succ j => rw [at_consS]; exact b j (by omega)
      · rw [at_consS]
        exact c (by simpa using h)
    · refine ⟨by simp, fun j hj => by omega, fun _ => ?_⟩
      rw [at_cons0]
      omega
theorem low_cut {B : List Int} {x : Int} {i : Nat} (hA : Asc B) (h : IsLow B x i) : cutL x B = if i < B.length ∧ inE.at B i = x then i + 1 else i := by
  obtain ⟨a, b, c⟩ := h
  refine (cut_is x B).uniq ?_
  split
  · rename_i hc
    refine ⟨hc.1, fun j hj => ?_, fun hl => ?_⟩
    · by_cases e : j = i
      · subst e; omega
      · have := b j (by omega); omega
    · have := hA i (i + 1) (by omega) hl
      omega
  · rename_i hc
    refine ⟨a, fun j hj => by have := b j hj; omega, fun hl => ?_⟩
    have := c i (Nat.le_refl _) hl
    have : ¬ inE.at B i = x := fun e => hc ⟨hl, e⟩
    omega
def hst (B l : List Int) : Nat → List Int
  | 0 => List.replicate (B.length + 1) 0
  | m + 1 => (hst B l m).set (cutL (inE.at l m) B) (inE.at (hst B l m) (cutL (inE.at l m) B) + 1)
theorem hst_len (B l : List Int) : ∀ m, (hst B l m).length = B.length + 1
  | 0 => by simp [hst]
  | m + 1 => by simp [hst, hst_len B l m]
theorem at_set {l : List Int} {i j : Nat} {x : Int} (hi : i < l.length) : inE.at (l.set i x) j = if i = j then x else inE.at l j := by
  unfold Enc.at List.getD
  rw [List.getElem?_set]
  by_cases e : i = j
  · subst e; simp [hi]
  · simp [e]
theorem hst_b (B l : List Int) : ∀ m k, 0 ≤ inE.at (hst B l m) k ∧ inE.at (hst B l m) k ≤ m
  | 0, k => by
    have : inE.at (hst B l 0) k = 0 := by
      unfold hst Enc.at List.getD
      rw [List.getElem?_replicate]
      split <;> rfl
    omega
  | m + 1, k => by
    have h1 := hst_b B l m k
    have h2 := hst_b B l m (cutL (inE.at l m) B)
    have hc := (cut_is (inE.at l m) B).1
    unfold hst
    rw [at_set (by rw [hst_len]; omega)]
    split <;> omega
def badO (B : List Int) (i : Nat) : Bool := decide (0 < i) && decide (inE.at B i ≤ inE.at B (i - 1))
def nAsc (B : List Int) : Bool := (List.range B.length).any (badO B)
theorem nAsc_t {B : List Int} {i : Nat} (hi : i < B.length) (h : badO B i = true) : nAsc B = true := List.any_eq_true.2 ⟨i, List.mem_range.2 hi, h⟩
theorem nAsc_f {B : List Int} (h : ∀ i < B.length, badO B i = false) : nAsc B = false ∧ Asc B := by
  refine ⟨?_, Asc.of fun i hi => ?_⟩
  · unfold nAsc
    rw [List.any_eq_false]
    intro i hi
    rw [h i (List.mem_range.1 hi)]
    decide
  · have := h (i + 1) hi
    simp [badO] at this
    omega
def hisR (l B : List Int) : List Int × Int := if 200 < l.length ∨ 200 < B.length then ([], 3) else if nAsc B = true then ([], 1) else (hst B l l.length, 0)
theorem row_st {H : Hp} {l : List Int} {k : Nat} {x : Int} (hk : k < l.length) : storeV Tryz.prog 3 (H ++ [.row 0 (flatE inE l) true]) (.ptr H.length 0 (k * 1)) (.int .i64 x) = some (H ++ [.row 0 (flatE inE (l.set k x)) true]) := by
  rw [Nat.mul_one]
  unfold storeV
  simp only [getRow_last, Option.bind_some]
  have hfl : (flatE inE l).length = l.length := by rw [flatE_len]; exact Nat.mul_one _
  rw [if_pos ⟨trivial, by kernel_rfl, by simp [V.cells, hfl]; omega, by simp [V.cells, V.isCell]⟩]
  have := flatE_set (E := inE) (l := l) (i := k) (j := 0) (v := .int .i64 x) (a := x) hk (by decide) rfl
  simp only [inE_w, Nat.mul_one, Nat.add_zero] at this
  simp only [V.cells, this, set_last]
theorem row_ld {l : List Int} {k : Nat} (hk : k < l.length) : partV Tryz.prog 3 (flatE inE l) (k * 1) = some (.int .i64 (inE.at l k)) := lq_cell0 (E := inE) (l := l) (t := 3) (w := 1) (i := k) g3 rfl hk
theorem rep_zero (n : Nat) : repeatV [V.int .i64 0] n = flatE inE (List.replicate n 0) := by
  induction n with
  | zero => rfl
  | succ n ih => rw [List.replicate_succ]; simp only [repeatV, ih, flatE, List.map_cons, List.flatten_cons]; rfl
theorem mk27 {B l : List Int} {H : Hp} (h : B.length ≤ 200) : makeSliceV Tryz.prog 27 H (.int .i64 ((B.length : Int) + 1)) (.int .i64 ((B.length : Int) + 1)) = some (.slice H.length 0 0 (B.length + 1) 1 .full, H ++ [.row 0 (flatE inE (hst B l 0)) true]) := by
  have e : ((B.length : Int) + 1) = ((B.length + 1 : Nat) : Int) := by omega
  rw [e]
  unfold makeSliceV
  rw [u27]
  simp only [z3, y3, o3, Option.bind_some]
  rw [if_pos ⟨by decide, rfl, rfl, by omega, by omega, by omega, by omega⟩, Int.toNat_natCast]
  show some (_, H ++ [AB.row 0 (repeatV [V.int .i64 0] (B.length + 1)) true]) = _
  rw [rep_zero]
  rfl
theorem gc_hst {B l : List Int} {H : Hp} {m : Nat} : gcF H (.tup [.slice H.length 0 0 (B.length + 1) 1 .full, .int .i64 0], H ++ [.row 0 (flatE inE (hst B l m)) true]) = (.tup [slV true inE (hst B l m), .int .i64 0], H) := by
  refine gcF_app ?_
  have hl := hst_len B l m
  have hi : inlA H.length (H ++ [.row 0 (flatE inE (hst B l m)) true]) 8 (.slice H.length 0 0 (B.length + 1) 1 .full) = some (.isl (flatE inE (hst B l m)) (B.length + 1) 1) := inlB_row (f := 6) (Nat.le_refl _) (by simp) (by rw [flatE_len, hl]; rfl) flatE_imm
  simp only [inlR_tup, mapO, hi, Option.bind_some, Option.map_some]
  rw [slV_some (by omega), hl]
  rfl
set_option maxHeartbeats 8000000 in
theorem fn29 (b b' : Bool) (l B : List Int) (h1 : l.length ≤ 2 ^ 48) (h2 : B.length ≤ 2 ^ 48) (H : Hp) : callL Tryz.prog pr 29 [slV b inE l, slV b' inE B] H = some (.tup [slV true inE (hisR l B).1, .int .i64 (hisR l B).2], H) := by
  refine run29 (Nat.le_of_ble_eq_true rfl) ?_
  unfold hisR
  by_cases ha : 200 < l.length
  case pos =>
    rw [if_pos (.inl ha)]
    have ha2 : (200 : Int) < l.length := by omega
    simp (disch := first | rfl | omega | exact lt_new _ | assumption | decide | (simp [tk_here, tk_app, tk_0, tk_S, gr_here, gr_app, gr_0, gr_S] <;> omega) | fail) only [r29_0, r29_1, r29_2, r29_3, r29_4, r29_5, r29_6, r29_7, r29_9, r29_10, r29_11, r29_12, r29_13, r29_14, r29_16, r29_17, r29_19, c29, rs29, gc29, ha2, slV_nil, go_sem, ↓reduceIte, Nat.reduceLT, Nat.reduceEqDiff, Nat.reduceAdd, Nat.reduceMul, Nat.reduceSub, Int.reduceAdd, Int.reduceSub, Nat.reduceLeDiff, Int.reduceLT, Int.reduceLE, Int.reduceEq, Int.reduceNeg, Int.reduceToNat]
    repeat' ((first | refine guardB_dec (fun hy => ?_) (fun hy => ?_) | refine guardB_bool (fun hy => ?_) (fun hy => ?_) | refine guardQ_ite (fun hy => ?_) (fun hy => ?_) | refine brQ_dec (fun hy => ?_) (fun hy => ?_) | refine brQ_bool (fun hy => ?_) (fun hy => ?_)) <;> (try simp only [Bool.not_eq_true', Bool.not_eq_false', Bool.and_eq_true, Bool.or_eq_false_iff, decide_eq_true_eq, decide_eq_false_iff_not] at hy) <;> simp (disch := first | rfl | omega | exact lt_new _ | assumption | decide | (simp [tk_here, tk_app, tk_0, tk_S, gr_here, gr_app, gr_0, gr_S] <;> omega) | fail) only [r29_0, r29_1, r29_2, r29_3, r29_4, r29_5, r29_6, r29_7, r29_9, r29_10, r29_11, r29_12, r29_13, r29_14, r29_16, r29_17, r29_19, c29, rs29, gc29, ha2, slV_nil, go_sem, ↓reduceIte, Nat.reduceLT, Nat.reduceEqDiff, Nat.reduceAdd, Nat.reduceMul, Nat.reduceSub, Int.reduceAdd, Int.reduceSub, Nat.reduceLeDiff, Int.reduceLT, Int.reduceLE, Int.reduceEq, Int.reduceNeg, Int.reduceToNat, hy])
    all_goals (try ((first | refine finQ_same ?_ | refine finQ_app ?_ | (rw [List.append_assoc]; refine finQ_app ?_)) <;> simp (disch := first | rfl | omega | exact lt_new _ | assumption | decide | (simp [tk_here, tk_app, tk_0, tk_S, gr_here, gr_app, gr_0, gr_S] <;> omega) | fail) only [go_sem, ↓reduceIte, Nat.reduceLT, Nat.reduceEqDiff, Nat.reduceAdd, Nat.reduceMul, Nat.reduceSub, Int.reduceAdd, Int.reduceSub, Nat.reduceLeDiff, Int.reduceLT, Int.reduceLE, Int.reduceEq, Int.reduceNeg, Int.reduceToNat, List.append_assoc, List.cons_append, List.nil_append, *]))
    all_goals (try first | rfl | (simp [*]; done) | grind)
  have ha2 : ¬ (200 : Int) < l.length := by omega
  by_cases hb : 200 < B.length
  case pos =>
    rw [if_pos (.inr hb)]
    have hb2 : (200 : Int) < B.length := by omega
    simp (disch := first | rfl | omega | exact lt_new _ | assumption | decide | (simp [tk_here, tk_app, tk_0, tk_S, gr_here, gr_app, gr_0, gr_S] <;> omega) | fail) only [r29_0, r29_1, r29_2, r29_3, r29_4, r29_5, r29_6, r29_7, r29_9, r29_10, r29_11, r29_12, r29_13, r29_14, r29_16, r29_17, r29_19, c29, rs29, gc29, ha2, hb2, slV_nil, go_sem, ↓reduceIte, Nat.reduceLT, Nat.reduceEqDiff, Nat.reduceAdd, Nat.reduceMul, Nat.reduceSub, Int.reduceAdd, Int.reduceSub, Nat.reduceLeDiff, Int.reduceLT, Int.reduceLE, Int.reduceEq, Int.reduceNeg, Int.reduceToNat]
    repeat' ((first | refine guardB_dec (fun hy => ?_) (fun hy => ?_) | refine guardB_bool (fun hy => ?_) (fun hy => ?_) | refine guardQ_ite (fun hy => ?_) (fun hy => ?_) | refine brQ_dec (fun hy => ?_) (fun hy => ?_) | refine brQ_bool (fun hy => ?_) (fun hy => ?_)) <;> (try simp only [Bool.not_eq_true', Bool.not_eq_false', Bool.and_eq_true, Bool.or_eq_false_iff, decide_eq_true_eq, decide_eq_false_iff_not] at hy) <;> simp (disch := first | rfl | omega | exact lt_new _ | assumption | decide | (simp [tk_here, tk_app, tk_0, tk_S, gr_here, gr_app, gr_0, gr_S] <;> omega) | fail) only [r29_0, r29_1, r29_2, r29_3, r29_4, r29_5, r29_6, r29_7, r29_9, r29_10, r29_11, r29_12, r29_13, r29_14, r29_16, r29_17, r29_19, c29, rs29, gc29, ha2, hb2, slV_nil, go_sem, ↓reduceIte, Nat.reduceLT, Nat.reduceEqDiff, Nat.reduceAdd, Nat.reduceMul, Nat.reduceSub, Int.reduceAdd, Int.reduceSub, Nat.reduceLeDiff, Int.reduceLT, Int.reduceLE, Int.reduceEq, Int.reduceNeg, Int.reduceToNat, hy])
    all_goals (try ((first | refine finQ_same ?_ | refine finQ_app ?_ | (rw [List.append_assoc]; refine finQ_app ?_)) <;> simp (disch := first | rfl | omega | exact lt_new _ | assumption | decide | (simp [tk_here, tk_app, tk_0, tk_S, gr_here, gr_app, gr_0, gr_S] <;> omega) | fail) only [go_sem, ↓reduceIte, Nat.reduceLT, Nat.reduceEqDiff, Nat.reduceAdd, Nat.reduceMul, Nat.reduceSub, Int.reduceAdd, Int.reduceSub, Nat.reduceLeDiff, Int.reduceLT, Int.reduceLE, Int.reduceEq, Int.reduceNeg, Int.reduceToNat, List.append_assoc, List.cons_append, List.nil_append, *]))
    all_goals (try first | rfl | (simp [*]; done) | grind)
  have hb2 : ¬ (200 : Int) < B.length := by omega
  rw [if_neg (by omega)]
  simp (disch := first | rfl | omega | exact lt_new _ | assumption | decide | (simp [tk_here, tk_app, tk_0, tk_S, gr_here, gr_app, gr_0, gr_S] <;> omega) | fail) only [r29_0, r29_1, r29_2, r29_3, r29_4, r29_5, r29_6, r29_7, r29_9, r29_10, r29_11, r29_12, r29_13, r29_14, r29_16, r29_17, r29_19, c29, rs29, gc29, ha2, hb2, go_sem, ↓reduceIte, Nat.reduceLT, Nat.reduceEqDiff, Nat.reduceAdd, Nat.reduceMul, Nat.reduceSub, Int.reduceAdd, Int.reduceSub, Nat.reduceLeDiff, Int.reduceLT, Int.reduceLE, Int.reduceEq, Int.reduceNeg, Int.reduceToNat]
  repeat' ((first | refine guardB_dec (fun hy => ?_) (fun hy => ?_) | refine guardB_bool (fun hy => ?_) (fun hy => ?_) | refine guardQ_ite (fun hy => ?_) (fun hy => ?_) | refine brQ_dec (fun hy => ?_) (fun hy => ?_) | refine brQ_bool (fun hy => ?_) (fun hy => ?_)) <;> (try simp only [Bool.not_eq_true', Bool.not_eq_false', Bool.and_eq_true, Bool.or_eq_false_iff, decide_eq_true_eq, decide_eq_false_iff_not] at hy) <;> simp (disch := first | rfl | omega | exact lt_new _ | assumption | decide | (simp [tk_here, tk_app, tk_0, tk_S, gr_here, gr_app, gr_0, gr_S] <;> omega) | fail) only [r29_0, r29_1, r29_2, r29_3, r29_4, r29_5, r29_6, r29_7, r29_9, r29_10, r29_11, r29_12, r29_13, r29_14, r29_16, r29_17, r29_19, c29, rs29, gc29, ha2, hb2, go_sem, ↓reduceIte, Nat.reduceLT, Nat.reduceEqDiff, Nat.reduceAdd, Nat.reduceMul, Nat.reduceSub, Int.reduceAdd, Int.reduceSub, Nat.reduceLeDiff, Int.reduceLT, Int.reduceLE, Int.reduceEq, Int.reduceNeg, Int.reduceToNat, hy])
  refine Wp_loop (fun m T D H' => ∃ i, m = B.length - i ∧ 1 ≤ i ∧ (i ≤ B.length ∨ i = 1) ∧ D = [] ∧ H' = H ∧ get T 0 = slV b inE l ∧ get T 1 = slV b' inE B ∧ get T 6 = .int .i64 i ∧ (∀ j < i, badO B j = false)) ?_ (B.length - 1) _ _ _ ?_
  case refine_2 =>
    refine ⟨1, rfl, Nat.le_refl _, .inr rfl, rfl, rfl, ?_⟩
    simp (disch := first | rfl | omega | exact lt_new _ | assumption | decide | (simp [tk_here, tk_app, tk_0, tk_S, gr_here, gr_app, gr_0, gr_S] <;> omega) | fail) only [go_sem, ↓reduceIte, Nat.reduceLT, Nat.reduceEqDiff, Nat.reduceAdd, Nat.reduceMul, Nat.reduceSub, Int.reduceAdd, Int.reduceSub, Nat.reduceLeDiff, Int.reduceLT, Int.reduceLE, Int.reduceEq, Int.reduceNeg, Int.reduceToNat]
    simp [badO]
  rintro m T D H' ⟨i, rfl, hi1, hi, rfl, rfl, t0, t1, t6, hall⟩
  by_cases hlt : i < B.length
  · have hlt' : (i : Int) < B.length := by omega
    have e : (i : Int) - 1 = ((i - 1 : Nat) : Int) := by omega
    have hl1 : ((i - 1 : Nat) : Int) < B.length := by omega
    by_cases hq : inE.at B i ≤ inE.at B (i - 1)
    · rw [if_pos (nAsc_t hlt (by simp [badO, hq]; omega))]
      simp (disch := first | rfl | omega | exact lt_new _ | assumption | decide | (simp [tk_here, tk_app, tk_0, tk_S, gr_here, gr_app, gr_0, gr_S] <;> omega) | fail) only [l29_8, r29_4, r29_5, r29_6, rs29, gc29, t0, t1, t6, hlt', e, hl1, hq, slV_nil, go_sem, ↓reduceIte, Nat.reduceLT, Nat.reduceEqDiff, Nat.reduceAdd, Nat.reduceMul, Nat.reduceSub, Int.reduceAdd, Int.reduceSub, Nat.reduceLeDiff, Int.reduceLT, Int.reduceLE, Int.reduceEq, Int.reduceNeg, Int.reduceToNat]
      repeat' ((first | refine guardB_dec (fun hy => ?_) (fun hy => ?_) | refine guardB_bool (fun hy => ?_) (fun hy => ?_) | refine guardQ_ite (fun hy => ?_) (fun hy => ?_) | refine brQ_dec (fun hy => ?_) (fun hy => ?_) | refine brQ_bool (fun hy => ?_) (fun hy => ?_)) <;> (try simp only [Bool.not_eq_true', Bool.not_eq_false', Bool.and_eq_true, Bool.or_eq_false_iff, decide_eq_true_eq, decide_eq_false_iff_not] at hy) <;> simp (disch := first | rfl | omega | exact lt_new _ | assumption | decide | (simp [tk_here, tk_app, tk_0, tk_S, gr_here, gr_app, gr_0, gr_S] <;> omega) | fail) only [l29_8, r29_4, r29_5, r29_6, rs29, gc29, t0, t1, t6, hlt', e, hl1, hq, slV_nil, go_sem, ↓reduceIte, Nat.reduceLT, Nat.reduceEqDiff, Nat.reduceAdd, Nat.reduceMul, Nat.reduceSub, Int.reduceAdd, Int.reduceSub, Nat.reduceLeDiff, Int.reduceLT, Int.reduceLE, Int.reduceEq, Int.reduceNeg, Int.reduceToNat, hy])
      all_goals (try ((first | refine finQ_same ?_ | refine finQ_app ?_ | (rw [List.append_assoc]; refine finQ_app ?_)) <;> simp (disch := first | rfl | omega | exact lt_new _ | assumption | decide | (simp [tk_here, tk_app, tk_0, tk_S, gr_here, gr_app, gr_0, gr_S] <;> omega) | fail) only [go_sem, ↓reduceIte, Nat.reduceLT, Nat.reduceEqDiff, Nat.reduceAdd, Nat.reduceMul, Nat.reduceSub, Int.reduceAdd, Int.reduceSub, Nat.reduceLeDiff, Int.reduceLT, Int.reduceLE, Int.reduceEq, Int.reduceNeg, Int.reduceToNat, List.append_assoc, List.cons_append, List.nil_append, *]))
      all_goals (try first | rfl | (simp [*]; done) | grind)
    · skip
      simp (disch := first | rfl | omega | exact lt_new _ | assumption | decide | (simp [tk_here, tk_app, tk_0, tk_S, gr_here, gr_app, gr_0, gr_S] <;> omega) | fail) only [l29_8, r29_4, r29_5, r29_7, t0, t1, t6, hlt', e, hl1, hq, go_sem, ↓reduceIte, Nat.reduceLT, Nat.reduceEqDiff, Nat.reduceAdd, Nat.reduceMul, Nat.reduceSub, Int.reduceAdd, Int.reduceSub, Nat.reduceLeDiff, Int.reduceLT, Int.reduceLE, Int.reduceEq, Int.reduceNeg, Int.reduceToNat]
      repeat' ((first | refine guardB_dec (fun hy => ?_) (fun hy => ?_) | refine guardB_bool (fun hy => ?_) (fun hy => ?_) | refine guardQ_ite (fun hy => ?_) (fun hy => ?_) | refine brQ_dec (fun hy => ?_) (fun hy => ?_) | refine brQ_bool (fun hy => ?_) (fun hy => ?_)) <;> (try simp only [Bool.not_eq_true', Bool.not_eq_false', Bool.and_eq_true, Bool.or_eq_false_iff, decide_eq_true_eq, decide_eq_false_iff_not] at hy) <;> simp (disch := first | rfl | omega | exact lt_new _ | assumption | decide | (simp [tk_here, tk_app, tk_0, tk_S, gr_here, gr_app, gr_0, gr_S] <;> omega) | fail) only [l29_8, r29_4, r29_5, r29_7, t0, t1, t6, hlt', e, hl1, hq, go_sem, ↓reduceIte, Nat.reduceLT, Nat.reduceEqDiff, Nat.reduceAdd, Nat.reduceMul, Nat.reduceSub, Int.reduceAdd, Int.reduceSub, Nat.reduceLeDiff, Int.reduceLT, Int.reduceLE, Int.reduceEq, Int.reduceNeg, Int.reduceToNat, hy])
      refine ⟨_, by omega, i + 1, rfl, by omega, .inl hlt, rfl, fun j hj => ?_⟩
      by_cases e : j = i
      · subst e; simp [badO]; omega
      · exact hall j (by omega)
  obtain ⟨c5, hA⟩ := nAsc_f fun j hj => hall j (by omega)
  have hnl : ¬ (i : Int) < B.length := by omega
  rw [if_neg (by simp [c5])]
  have hmk := fun H => mk27 (B := B) (l := l) (H := H) (by omega)
  simp (disch := first | rfl | omega | exact lt_new _ | assumption | decide | (simp [tk_here, tk_app, tk_0, tk_S, gr_here, gr_app, gr_0, gr_S] <;> omega) | fail) only [l29_8, r29_4, r29_9, r29_10, t0, t1, t6, hnl, hmk, go_sem, ↓reduceIte, Nat.reduceLT, Nat.reduceEqDiff, Nat.reduceAdd, Nat.reduceMul, Nat.reduceSub, Int.reduceAdd, Int.reduceSub, Nat.reduceLeDiff, Int.reduceLT, Int.reduceLE, Int.reduceEq, Int.reduceNeg, Int.reduceToNat]
  repeat' ((first | refine guardB_dec (fun hy => ?_) (fun hy => ?_) | refine guardB_bool (fun hy => ?_) (fun hy => ?_) | refine guardQ_ite (fun hy => ?_) (fun hy => ?_) | refine brQ_dec (fun hy => ?_) (fun hy => ?_) | refine brQ_bool (fun hy => ?_) (fun hy => ?_)) <;> (try simp only [Bool.not_eq_true', Bool.not_eq_false', Bool.and_eq_true, Bool.or_eq_false_iff, decide_eq_true_eq, decide_eq_false_iff_not] at hy) <;> simp (disch := first | rfl | omega | exact lt_new _ | assumption | decide | (simp [tk_here, tk_app, tk_0, tk_S, gr_here, gr_app, gr_0, gr_S] <;> omega) | fail) only [l29_8, r29_4, r29_9, r29_10, t0, t1, t6, hnl, hmk, go_sem, ↓reduceIte, Nat.reduceLT, Nat.reduceEqDiff, Nat.reduceAdd, Nat.reduceMul, Nat.reduceSub, Int.reduceAdd, Int.reduceSub, Nat.reduceLeDiff, Int.reduceLT, Int.reduceLE, Int.reduceEq, Int.reduceNeg, Int.reduceToNat, hy])
  refine Wp_loop (fun m T D H1 => ∃ k, m = l.length - k ∧ k ≤ l.length ∧ D = [] ∧ H1 = H' ++ [.row 0 (flatE inE (hst B l k)) true] ∧ get T 0 = slV b inE l ∧ get T 1 = slV b' inE B ∧ get T 7 = .slice H'.length 0 0 (B.length + 1) 1 .full ∧ get T 8 = .int .i64 k) ?_ l.length _ _ _ ?_
  case refine_2 => exact ⟨0, rfl, Nat.zero_le _, by simp (disch := first | rfl | omega | exact lt_new _ | assumption | decide | (simp [tk_here, tk_app, tk_0, tk_S, gr_here, gr_app, gr_0, gr_S] <;> omega) | fail) only [go_sem, ↓reduceIte, Nat.reduceLT, Nat.reduceEqDiff, Nat.reduceAdd, Nat.reduceMul, Nat.reduceSub, Int.reduceAdd, Int.reduceSub, Nat.reduceLeDiff, Int.reduceLT, Int.reduceLE, Int.reduceEq, Int.reduceNeg, Int.reduceToNat, t0, t1]⟩
  clear t0 t1 t6
  rintro m T D _ ⟨k, rfl, hk, rfl, rfl, t0, t1, t7, t8⟩
  by_cases hlt : k < l.length
  · have hlt' : (k : Int) < l.length := by omega
    simp (disch := first | rfl | omega | exact lt_new _ | assumption | decide | (simp [tk_here, tk_app, tk_0, tk_S, gr_here, gr_app, gr_0, gr_S] <;> omega) | fail) only [l29_18, r29_11, r29_12, t0, t1, t7, t8, hlt', go_sem, ↓reduceIte, Nat.reduceLT, Nat.reduceEqDiff, Nat.reduceAdd, Nat.reduceMul, Nat.reduceSub, Int.reduceAdd, Int.reduceSub, Nat.reduceLeDiff, Int.reduceLT, Int.reduceLE, Int.reduceEq, Int.reduceNeg, Int.reduceToNat]
    repeat' ((first | refine guardB_dec (fun hy => ?_) (fun hy => ?_) | refine guardB_bool (fun hy => ?_) (fun hy => ?_) | refine guardQ_ite (fun hy => ?_) (fun hy => ?_) | refine brQ_dec (fun hy => ?_) (fun hy => ?_) | refine brQ_bool (fun hy => ?_) (fun hy => ?_)) <;> (try simp only [Bool.not_eq_true', Bool.not_eq_false', Bool.and_eq_true, Bool.or_eq_false_iff, decide_eq_true_eq, decide_eq_false_iff_not] at hy) <;> simp (disch := first | rfl | omega | exact lt_new _ | assumption | decide | (simp [tk_here, tk_app, tk_0, tk_S, gr_here, gr_app, gr_0, gr_S] <;> omega) | fail) only [l29_18, r29_11, r29_12, t0, t1, t7, t8, hlt', go_sem, ↓reduceIte, Nat.reduceLT, Nat.reduceEqDiff, Nat.reduceAdd, Nat.reduceMul, Nat.reduceSub, Int.reduceAdd, Int.reduceSub, Nat.reduceLeDiff, Int.reduceLT, Int.reduceLE, Int.reduceEq, Int.reduceNeg, Int.reduceToNat, hy])
    obtain ⟨x, hx⟩ : ∃ x, inE.at l k = x := ⟨_, rfl⟩
    obtain ⟨cu1, cu2, cu3⟩ := cut_is x B
    refine Wp_loop (fun m T D H1 => ∃ c : Nat, m = cutL x B - c ∧ c ≤ cutL x B ∧ D = [] ∧ H1 = H' ++ [.row 0 (flatE inE (hst B l k)) true] ∧ get T 0 = slV b inE l ∧ get T 1 = slV b' inE B ∧ get T 7 = .slice H'.length 0 0 (B.length + 1) 1 .full ∧ get T 8 = .int .i64 k ∧ get T 9 = .int .i64 c) ?_ (cutL x B) _ _ _ ?_
    case refine_2 => exact ⟨0, rfl, Nat.zero_le _, by simp (disch := first | rfl | omega | exact lt_new _ | assumption | decide | (simp [tk_here, tk_app, tk_0, tk_S, gr_here, gr_app, gr_0, gr_S] <;> omega) | fail) only [go_sem, ↓reduceIte, Nat.reduceLT, Nat.reduceEqDiff, Nat.reduceAdd, Nat.reduceMul, Nat.reduceSub, Int.reduceAdd, Int.reduceSub, Nat.reduceLeDiff, Int.reduceLT, Int.reduceLE, Int.reduceEq, Int.reduceNeg, Int.reduceToNat, t0, t1, t7, t8]⟩
    clear t0 t1 t7 t8
    rintro m T D _ ⟨c, rfl, hc, rfl, rfl, t0, t1, t7, t8, t9⟩
    by_cases hcl : c < cutL x B
    · have q1 : (c : Int) < B.length := by omega
      have q2 := cu2 c hcl
      simp (disch := first | rfl | omega | exact lt_new _ | assumption | decide | (simp [tk_here, tk_app, tk_0, tk_S, gr_here, gr_app, gr_0, gr_S] <;> omega) | fail) only [l29_15, r29_13, r29_14, t0, t1, t7, t8, t9, hlt', q1, hx, q2, go_sem, ↓reduceIte, Nat.reduceLT, Nat.reduceEqDiff, Nat.reduceAdd, Nat.reduceMul, Nat.reduceSub, Int.reduceAdd, Int.reduceSub, Nat.reduceLeDiff, Int.reduceLT, Int.reduceLE, Int.reduceEq, Int.reduceNeg, Int.reduceToNat]
      repeat' ((first | refine guardB_dec (fun hy => ?_) (fun hy => ?_) | refine guardB_bool (fun hy => ?_) (fun hy => ?_) | refine guardQ_ite (fun hy => ?_) (fun hy => ?_) | refine brQ_dec (fun hy => ?_) (fun hy => ?_) | refine brQ_bool (fun hy => ?_) (fun hy => ?_)) <;> (try simp only [Bool.not_eq_true', Bool.not_eq_false', Bool.and_eq_true, Bool.or_eq_false_iff, decide_eq_true_eq, decide_eq_false_iff_not] at hy) <;> simp (disch := first | rfl | omega | exact lt_new _ | assumption | decide | (simp [tk_here, tk_app, tk_0, tk_S, gr_here, gr_app, gr_0, gr_S] <;> omega) | fail) only [l29_15, r29_13, r29_14, t0, t1, t7, t8, t9, hlt', q1, hx, q2, go_sem, ↓reduceIte, Nat.reduceLT, Nat.reduceEqDiff, Nat.reduceAdd, Nat.reduceMul, Nat.reduceSub, Int.reduceAdd, Int.reduceSub, Nat.reduceLeDiff, Int.reduceLT, Int.reduceLE, Int.reduceEq, Int.reduceNeg, Int.reduceToNat, hy])
      exact ⟨_, by omega, c + 1, rfl, hcl, rfl⟩
    · obtain rfl : c = cutL x B := by omega
      have hS : hst B l (k + 1) = (hst B l k).set (cutL x B) (inE.at (hst B l k) (cutL x B) + 1) := by rw [← hx]; rfl
      have hll := hst_len B l k
      have hbb := hst_b B l k (cutL x B)
      have hld := row_ld (l := hst B l k) (k := cutL x B) (by omega)
      have hst_ := row_st (H := H') (l := hst B l k) (k := cutL x B) (x := inE.at (hst B l k) (cutL x B) + 1) (by omega)
      have hix : ((cutL x B : Nat) : Int) < ((B.length + 1 : Nat) : Int) := by omega
      rw [← hS] at hst_
      by_cases q1 : ((cutL x B : Nat) : Int) < B.length
      · have q2 : ¬ inE.at B (cutL x B) ≤ x := by have := cu3 (by omega); omega
        simp (disch := first | rfl | omega | exact lt_new _ | assumption | decide | (simp [tk_here, tk_app, tk_0, tk_S, gr_here, gr_app, gr_0, gr_S] <;> omega) | fail) only [l29_15, r29_13, r29_16, r29_17, t0, t1, t7, t8, t9, hlt', q1, hx, q2, hld, hst_, hix, go_sem, ↓reduceIte, Nat.reduceLT, Nat.reduceEqDiff, Nat.reduceAdd, Nat.reduceMul, Nat.reduceSub, Int.reduceAdd, Int.reduceSub, Nat.reduceLeDiff, Int.reduceLT, Int.reduceLE, Int.reduceEq, Int.reduceNeg, Int.reduceToNat]
        repeat' ((first | refine guardB_dec (fun hy => ?_) (fun hy => ?_) | refine guardB_bool (fun hy => ?_) (fun hy => ?_) | refine guardQ_ite (fun hy => ?_) (fun hy => ?_) | refine brQ_dec (fun hy => ?_) (fun hy => ?_) | refine brQ_bool (fun hy => ?_) (fun hy => ?_)) <;> (try simp only [Bool.not_eq_true', Bool.not_eq_false', Bool.and_eq_true, Bool.or_eq_false_iff, decide_eq_true_eq, decide_eq_false_iff_not] at hy) <;> simp (disch := first | rfl | omega | exact lt_new _ | assumption | decide | (simp [tk_here, tk_app, tk_0, tk_S, gr_here, gr_app, gr_0, gr_S] <;> omega) | fail) only [l29_15, r29_13, r29_16, r29_17, t0, t1, t7, t8, t9, hlt', q1, hx, q2, hld, hst_, hix, go_sem, ↓reduceIte, Nat.reduceLT, Nat.reduceEqDiff, Nat.reduceAdd, Nat.reduceMul, Nat.reduceSub, Int.reduceAdd, Int.reduceSub, Nat.reduceLeDiff, Int.reduceLT, Int.reduceLE, Int.reduceEq, Int.reduceNeg, Int.reduceToNat, hy])
        exact ⟨_, by omega, k + 1, rfl, hlt, rfl, rfl⟩
      · skip
        simp (disch := first | rfl | omega | exact lt_new _ | assumption | decide | (simp [tk_here, tk_app, tk_0, tk_S, gr_here, gr_app, gr_0, gr_S] <;> omega) | fail) only [l29_15, r29_13, r29_16, r29_17, t0, t1, t7, t8, t9, hlt', q1, hx, hld, hst_, hix, go_sem, ↓reduceIte, Nat.reduceLT, Nat.reduceEqDiff, Nat.reduceAdd, Nat.reduceMul, Nat.reduceSub, Int.reduceAdd, Int.reduceSub, Nat.reduceLeDiff, Int.reduceLT, Int.reduceLE, Int.reduceEq, Int.reduceNeg, Int.reduceToNat]
        repeat' ((first | refine guardB_dec (fun hy => ?_) (fun hy => ?_) | refine guardB_bool (fun hy => ?_) (fun hy => ?_) | refine guardQ_ite (fun hy => ?_) (fun hy => ?_) | refine brQ_dec (fun hy => ?_) (fun hy => ?_) | refine brQ_bool (fun hy => ?_) (fun hy => ?_)) <;> (try simp only [Bool.not_eq_true', Bool.not_eq_false', Bool.and_eq_true, Bool.or_eq_false_iff, decide_eq_true_eq, decide_eq_false_iff_not] at hy) <;> simp (disch := first | rfl | omega | exact lt_new _ | assumption | decide | (simp [tk_here, tk_app, tk_0, tk_S, gr_here, gr_app, gr_0, gr_S] <;> omega) | fail) only [l29_15, r29_13, r29_16, r29_17, t0, t1, t7, t8, t9, hlt', q1, hx, hld, hst_, hix, go_sem, ↓reduceIte, Nat.reduceLT, Nat.reduceEqDiff, Nat.reduceAdd, Nat.reduceMul, Nat.reduceSub, Int.reduceAdd, Int.reduceSub, Nat.reduceLeDiff, Int.reduceLT, Int.reduceLE, Int.reduceEq, Int.reduceNeg, Int.reduceToNat, hy])
        exact ⟨_, by omega, k + 1, rfl, hlt, rfl, rfl⟩
  · obtain rfl : k = l.length := by omega
    have hgc := gc_hst (B := B) (l := l) (H := H') (m := l.length)
    simp (disch := first | rfl | omega | exact lt_new _ | assumption | decide | (simp [tk_here, tk_app, tk_0, tk_S, gr_here, gr_app, gr_0, gr_S] <;> omega) | fail) only [l29_18, r29_11, r29_19, rs29, gc29, t0, t1, t7, t8, Int.lt_irrefl, hgc, go_sem, ↓reduceIte, Nat.reduceLT, Nat.reduceEqDiff, Nat.reduceAdd, Nat.reduceMul, Nat.reduceSub, Int.reduceAdd, Int.reduceSub, Nat.reduceLeDiff, Int.reduceLT, Int.reduceLE, Int.reduceEq, Int.reduceNeg, Int.reduceToNat]
    repeat' ((first | refine guardB_dec (fun hy => ?_) (fun hy => ?_) | refine guardB_bool (fun hy => ?_) (fun hy => ?_) | refine guardQ_ite (fun hy => ?_) (fun hy => ?_) | refine brQ_dec (fun hy => ?_) (fun hy => ?_) | refine brQ_bool (fun hy => ?_) (fun hy => ?_)) <;> (try simp only [Bool.not_eq_true', Bool.not_eq_false', Bool.and_eq_true, Bool.or_eq_false_iff, decide_eq_true_eq, decide_eq_false_iff_not] at hy) <;> simp (disch := first | rfl | omega | exact lt_new _ | assumption | decide | (simp [tk_here, tk_app, tk_0, tk_S, gr_here, gr_app, gr_0, gr_S] <;> omega) | fail) only [l29_18, r29_11, r29_19, rs29, gc29, t0, t1, t7, t8, Int.lt_irrefl, hgc, go_sem, ↓reduceIte, Nat.reduceLT, Nat.reduceEqDiff, Nat.reduceAdd, Nat.reduceMul, Nat.reduceSub, Int.reduceAdd, Int.reduceSub, Nat.reduceLeDiff, Int.reduceLT, Int.reduceLE, Int.reduceEq, Int.reduceNeg, Int.reduceToNat, hy])
set_option maxHeartbeats 8000000 in
theorem fn28 (b b' : Bool) (l B : List Int) (h1 : l.length ≤ 2 ^ 48) (h2 : B.length ≤ 2 ^ 48) (H : Hp) : callL Tryz.prog pr 28 [slV b inE l, slV b' inE B] H = some (.tup [slV true inE (hisR l B).1, .int .i64 (hisR l B).2], H) := by
  have h54 := fun b l H => fn54 (b := b) (l := l) H
  refine run28 (Nat.le_of_ble_eq_true rfl) ?_
  unfold hisR
  by_cases ha : 200 < l.length
  case pos =>
    rw [if_pos (.inl ha)]
    have ha2 : (200 : Int) < l.length := by omega
    simp (disch := first | rfl | omega | exact lt_new _ | assumption | decide | (simp [tk_here, tk_app, tk_0, tk_S, gr_here, gr_app, gr_0, gr_S] <;> omega) | fail) only [r28_0, r28_1, r28_2, r28_3, r28_4, r28_5, r28_6, r28_7, r28_8, r28_10, r28_11, r28_12, r28_13, r28_14, r28_15, r28_16, r28_17, r28_18, r28_20, c28, rs28, gc28, h54, ha2, slV_nil, go_sem, ↓reduceIte, Nat.reduceLT, Nat.reduceEqDiff, Nat.reduceAdd, Nat.reduceMul, Nat.reduceSub, Int.reduceAdd, Int.reduceSub, Nat.reduceLeDiff, Int.reduceLT, Int.reduceLE, Int.reduceEq, Int.reduceNeg, Int.reduceToNat]
    repeat' ((first | refine guardB_dec (fun hy => ?_) (fun hy => ?_) | refine guardB_bool (fun hy => ?_) (fun hy => ?_) | refine guardQ_ite (fun hy => ?_) (fun hy => ?_) | refine brQ_dec (fun hy => ?_) (fun hy => ?_) | refine brQ_bool (fun hy => ?_) (fun hy => ?_)) <;> (try simp only [Bool.not_eq_true', Bool.not_eq_false', Bool.and_eq_true, Bool.or_eq_false_iff, decide_eq_true_eq, decide_eq_false_iff_not] at hy) <;> simp (disch := first | rfl | omega | exact lt_new _ | assumption | decide | (simp [tk_here, tk_app, tk_0, tk_S, gr_here, gr_app, gr_0, gr_S] <;> omega) | fail) only [r28_0, r28_1, r28_2, r28_3, r28_4, r28_5, r28_6, r28_7, r28_8, r28_10, r28_11, r28_12, r28_13, r28_14, r28_15, r28_16, r28_17, r28_18, r28_20, c28, rs28, gc28, h54, ha2, slV_nil, go_sem, ↓reduceIte, Nat.reduceLT, Nat.reduceEqDiff, Nat.reduceAdd, Nat.reduceMul, Nat.reduceSub, Int.reduceAdd, Int.reduceSub, Nat.reduceLeDiff, Int.reduceLT, Int.reduceLE, Int.reduceEq, Int.reduceNeg, Int.reduceToNat, hy])
    all_goals (try ((first | refine finQ_same ?_ | refine finQ_app ?_ | (rw [List.append_assoc]; refine finQ_app ?_)) <;> simp (disch := first | rfl | omega | exact lt_new _ | assumption | decide | (simp [tk_here, tk_app, tk_0, tk_S, gr_here, gr_app, gr_0, gr_S] <;> omega) | fail) only [go_sem, ↓reduceIte, Nat.reduceLT, Nat.reduceEqDiff, Nat.reduceAdd, Nat.reduceMul, Nat.reduceSub, Int.reduceAdd, Int.reduceSub, Nat.reduceLeDiff, Int.reduceLT, Int.reduceLE, Int.reduceEq, Int.reduceNeg, Int.reduceToNat, List.append_assoc, List.cons_append, List.nil_append, *]))
    all_goals (try first | rfl | (simp [*]; done) | grind)
  have ha2 : ¬ (200 : Int) < l.length := by omega
  by_cases hb : 200 < B.length
  case pos =>
    rw [if_pos (.inr hb)]
    have hb2 : (200 : Int) < B.length := by omega
    simp (disch := first | rfl | omega | exact lt_new _ | assumption | decide | (simp [tk_here, tk_app, tk_0, tk_S, gr_here, gr_app, gr_0, gr_S] <;> omega) | fail) only [r28_0, r28_1, r28_2, r28_3, r28_4, r28_5, r28_6, r28_7, r28_8, r28_10, r28_11, r28_12, r28_13, r28_14, r28_15, r28_16, r28_17, r28_18, r28_20, c28, rs28, gc28, h54, ha2, hb2, slV_nil, go_sem, ↓reduceIte, Nat.reduceLT, Nat.reduceEqDiff, Nat.reduceAdd, Nat.reduceMul, Nat.reduceSub, Int.reduceAdd, Int.reduceSub, Nat.reduceLeDiff, Int.reduceLT, Int.reduceLE, Int.reduceEq, Int.reduceNeg, Int.reduceToNat]
    repeat' ((first | refine guardB_dec (fun hy => ?_) (fun hy => ?_) | refine guardB_bool (fun hy => ?_) (fun hy => ?_) | refine guardQ_ite (fun hy => ?_) (fun hy => ?_) | refine brQ_dec (fun hy => ?_) (fun hy => ?_) | refine brQ_bool (fun hy => ?_) (fun hy => ?_)) <;> (try simp only [Bool.not_eq_true', Bool.not_eq_false', Bool.and_eq_true, Bool.or_eq_false_iff, decide_eq_true_eq, decide_eq_false_iff_not] at hy) <;> simp (disch := first | rfl | omega | exact lt_new _ | assumption | decide | (simp [tk_here, tk_app, tk_0, tk_S, gr_here, gr_app, gr_0, gr_S] <;> omega) | fail) only [r28_0, r28_1, r28_2, r28_3, r28_4, r28_5, r28_6, r28_7, r28_8, r28_10, r28_11, r28_12, r28_13, r28_14, r28_15, r28_16, r28_17, r28_18, r28_20, c28, rs28, gc28, h54, ha2, hb2, slV_nil, go_sem, ↓reduceIte, Nat.reduceLT, Nat.reduceEqDiff, Nat.reduceAdd, Nat.reduceMul, Nat.reduceSub, Int.reduceAdd, Int.reduceSub, Nat.reduceLeDiff, Int.reduceLT, Int.reduceLE, Int.reduceEq, Int.reduceNeg, Int.reduceToNat, hy])
    all_goals (try ((first | refine finQ_same ?_ | refine finQ_app ?_ | (rw [List.append_assoc]; refine finQ_app ?_)) <;> simp (disch := first | rfl | omega | exact lt_new _ | assumption | decide | (simp [tk_here, tk_app, tk_0, tk_S, gr_here, gr_app, gr_0, gr_S] <;> omega) | fail) only [go_sem, ↓reduceIte, Nat.reduceLT, Nat.reduceEqDiff, Nat.reduceAdd, Nat.reduceMul, Nat.reduceSub, Int.reduceAdd, Int.reduceSub, Nat.reduceLeDiff, Int.reduceLT, Int.reduceLE, Int.reduceEq, Int.reduceNeg, Int.reduceToNat, List.append_assoc, List.cons_append, List.nil_append, *]))
    all_goals (try first | rfl | (simp [*]; done) | grind)
  have hb2 : ¬ (200 : Int) < B.length := by omega
  rw [if_neg (by omega)]
  simp (disch := first | rfl | omega | exact lt_new _ | assumption | decide | (simp [tk_here, tk_app, tk_0, tk_S, gr_here, gr_app, gr_0, gr_S] <;> omega) | fail) only [r28_0, r28_1, r28_2, r28_3, r28_4, r28_5, r28_6, r28_7, r28_8, r28_10, r28_11, r28_12, r28_13, r28_14, r28_15, r28_16, r28_17, r28_18, r28_20, c28, rs28, gc28, h54, ha2, hb2, go_sem, ↓reduceIte, Nat.reduceLT, Nat.reduceEqDiff, Nat.reduceAdd, Nat.reduceMul, Nat.reduceSub, Int.reduceAdd, Int.reduceSub, Nat.reduceLeDiff, Int.reduceLT, Int.reduceLE, Int.reduceEq, Int.reduceNeg, Int.reduceToNat]
  repeat' ((first | refine guardB_dec (fun hy => ?_) (fun hy => ?_) | refine guardB_bool (fun hy => ?_) (fun hy => ?_) | refine guardQ_ite (fun hy => ?_) (fun hy => ?_) | refine brQ_dec (fun hy => ?_) (fun hy => ?_) | refine brQ_bool (fun hy => ?_) (fun hy => ?_)) <;> (try simp only [Bool.not_eq_true', Bool.not_eq_false', Bool.and_eq_true, Bool.or_eq_false_iff, decide_eq_true_eq, decide_eq_false_iff_not] at hy) <;> simp (disch := first | rfl | omega | exact lt_new _ | assumption | decide | (simp [tk_here, tk_app, tk_0, tk_S, gr_here, gr_app, gr_0, gr_S] <;> omega) | fail) only [r28_0, r28_1, r28_2, r28_3, r28_4, r28_5, r28_6, r28_7, r28_8, r28_10, r28_11, r28_12, r28_13, r28_14, r28_15, r28_16, r28_17, r28_18, r28_20, c28, rs28, gc28, h54, ha2, hb2, go_sem, ↓reduceIte, Nat.reduceLT, Nat.reduceEqDiff, Nat.reduceAdd, Nat.reduceMul, Nat.reduceSub, Int.reduceAdd, Int.reduceSub, Nat.reduceLeDiff, Int.reduceLT, Int.reduceLE, Int.reduceEq, Int.reduceNeg, Int.reduceToNat, hy])
  refine Wp_loop (fun m T D H' => ∃ i, m = B.length - i ∧ i ≤ B.length ∧ D = [] ∧ H' = H ∧ get T 0 = slV b inE l ∧ get T 1 = slV b' inE B ∧ get T 19 = .int .i64 B.length ∧ get T 20 = .int .i64 i ∧ (∀ j < i, badO B j = false)) ?_ B.length _ _ _ ?_
  case refine_2 => exact ⟨0, by simp (disch := first | rfl | omega | exact lt_new _ | assumption | decide | (simp [tk_here, tk_app, tk_0, tk_S, gr_here, gr_app, gr_0, gr_S] <;> omega) | fail) only [go_sem, ↓reduceIte, Nat.reduceLT, Nat.reduceEqDiff, Nat.reduceAdd, Nat.reduceMul, Nat.reduceSub, Int.reduceAdd, Int.reduceSub, Nat.reduceLeDiff, Int.reduceLT, Int.reduceLE, Int.reduceEq, Int.reduceNeg, Int.reduceToNat]; simp⟩
  rintro m T D H' ⟨i, rfl, hi, rfl, rfl, t0, t1, t19, t20, hall⟩
  by_cases hlt : i < B.length
  · have hlt' : (i : Int) < B.length := by omega
    have go : badO B i = false → ∃ j, B.length - (i + 1) = B.length - j ∧ j ≤ B.length ∧ V.int .i64 ((i : Int) + 1) = V.int .i64 (j : Int) ∧ ∀ k < j, badO B k = false := fun hb => ⟨i + 1, rfl, hlt, rfl, fun k hk => by
      by_cases e : k = i
      · subst e; exact hb
      · exact hall k (by omega)⟩
    by_cases hi0 : i = 0
    · have hi0' : ¬ (0 : Int) < i := by omega
      simp (disch := first | rfl | omega | exact lt_new _ | assumption | decide | (simp [tk_here, tk_app, tk_0, tk_S, gr_here, gr_app, gr_0, gr_S] <;> omega) | fail) only [l28_9, r28_4, r28_5, r28_6, r28_8, t0, t1, t19, t20, hlt', hi0', go_sem, ↓reduceIte, Nat.reduceLT, Nat.reduceEqDiff, Nat.reduceAdd, Nat.reduceMul, Nat.reduceSub, Int.reduceAdd, Int.reduceSub, Nat.reduceLeDiff, Int.reduceLT, Int.reduceLE, Int.reduceEq, Int.reduceNeg, Int.reduceToNat]
      repeat' ((first | refine guardB_dec (fun hy => ?_) (fun hy => ?_) | refine guardB_bool (fun hy => ?_) (fun hy => ?_) | refine guardQ_ite (fun hy => ?_) (fun hy => ?_) | refine brQ_dec (fun hy => ?_) (fun hy => ?_) | refine brQ_bool (fun hy => ?_) (fun hy => ?_)) <;> (try simp only [Bool.not_eq_true', Bool.not_eq_false', Bool.and_eq_true, Bool.or_eq_false_iff, decide_eq_true_eq, decide_eq_false_iff_not] at hy) <;> simp (disch := first | rfl | omega | exact lt_new _ | assumption | decide | (simp [tk_here, tk_app, tk_0, tk_S, gr_here, gr_app, gr_0, gr_S] <;> omega) | fail) only [l28_9, r28_4, r28_5, r28_6, r28_8, t0, t1, t19, t20, hlt', hi0', go_sem, ↓reduceIte, Nat.reduceLT, Nat.reduceEqDiff, Nat.reduceAdd, Nat.reduceMul, Nat.reduceSub, Int.reduceAdd, Int.reduceSub, Nat.reduceLeDiff, Int.reduceLT, Int.reduceLE, Int.reduceEq, Int.reduceNeg, Int.reduceToNat, hy])
      exact ⟨_, by omega, go (by simp [badO]; omega)⟩
    have hi1' : (0 : Int) < i := by omega
    have e : (i : Int) - 1 = ((i - 1 : Nat) : Int) := by omega
    have hl1 : ((i - 1 : Nat) : Int) < B.length := by omega
    by_cases hq : inE.at B i ≤ inE.at B (i - 1)
    · rw [if_pos (nAsc_t hlt (by simp [badO, hq]; omega))]
      simp (disch := first | rfl | omega | exact lt_new _ | assumption | decide | (simp [tk_here, tk_app, tk_0, tk_S, gr_here, gr_app, gr_0, gr_S] <;> omega) | fail) only [l28_9, r28_4, r28_5, r28_6, r28_7, rs28, gc28, t0, t1, t19, t20, hlt', hi1', e, hl1, hq, slV_nil, go_sem, ↓reduceIte, Nat.reduceLT, Nat.reduceEqDiff, Nat.reduceAdd, Nat.reduceMul, Nat.reduceSub, Int.reduceAdd, Int.reduceSub, Nat.reduceLeDiff, Int.reduceLT, Int.reduceLE, Int.reduceEq, Int.reduceNeg, Int.reduceToNat]
      repeat' ((first | refine guardB_dec (fun hy => ?_) (fun hy => ?_) | refine guardB_bool (fun hy => ?_) (fun hy => ?_) | refine guardQ_ite (fun hy => ?_) (fun hy => ?_) | refine brQ_dec (fun hy => ?_) (fun hy => ?_) | refine brQ_bool (fun hy => ?_) (fun hy => ?_)) <;> (try simp only [Bool.not_eq_true', Bool.not_eq_false', Bool.and_eq_true, Bool.or_eq_false_iff, decide_eq_true_eq, decide_eq_false_iff_not] at hy) <;> simp (disch := first | rfl | omega | exact lt_new _ | assumption | decide | (simp [tk_here, tk_app, tk_0, tk_S, gr_here, gr_app, gr_0, gr_S] <;> omega) | fail) only [l28_9, r28_4, r28_5, r28_6, r28_7, rs28, gc28, t0, t1, t19, t20, hlt', hi1', e, hl1, hq, slV_nil, go_sem, ↓reduceIte, Nat.reduceLT, Nat.reduceEqDiff, Nat.reduceAdd, Nat.reduceMul, Nat.reduceSub, Int.reduceAdd, Int.reduceSub, Nat.reduceLeDiff, Int.reduceLT, Int.reduceLE, Int.reduceEq, Int.reduceNeg, Int.reduceToNat, hy])
      all_goals (try ((first | refine finQ_same ?_ | refine finQ_app ?_ | (rw [List.append_assoc]; refine finQ_app ?_)) <;> simp (disch := first | rfl | omega | exact lt_new _ | assumption | decide | (simp [tk_here, tk_app, tk_0, tk_S, gr_here, gr_app, gr_0, gr_S] <;> omega) | fail) only [go_sem, ↓reduceIte, Nat.reduceLT, Nat.reduceEqDiff, Nat.reduceAdd, Nat.reduceMul, Nat.reduceSub, Int.reduceAdd, Int.reduceSub, Nat.reduceLeDiff, Int.reduceLT, Int.reduceLE, Int.reduceEq, Int.reduceNeg, Int.reduceToNat, List.append_assoc, List.cons_append, List.nil_append, *]))
      all_goals (try first | rfl | (simp [*]; done) | grind)
    · skip
      simp (disch := first | rfl | omega | exact lt_new _ | assumption | decide | (simp [tk_here, tk_app, tk_0, tk_S, gr_here, gr_app, gr_0, gr_S] <;> omega) | fail) only [l28_9, r28_4, r28_5, r28_6, r28_8, t0, t1, t19, t20, hlt', hi1', e, hl1, hq, go_sem, ↓reduceIte, Nat.reduceLT, Nat.reduceEqDiff, Nat.reduceAdd, Nat.reduceMul, Nat.reduceSub, Int.reduceAdd, Int.reduceSub, Nat.reduceLeDiff, Int.reduceLT, Int.reduceLE, Int.reduceEq, Int.reduceNeg, Int.reduceToNat]
      repeat' ((first | refine guardB_dec (fun hy => ?_) (fun hy => ?_) | refine guardB_bool (fun hy => ?_) (fun hy => ?_) | refine guardQ_ite (fun hy => ?_) (fun hy => ?_) | refine brQ_dec (fun hy => ?_) (fun hy => ?_) | refine brQ_bool (fun hy => ?_) (fun hy => ?_)) <;> (try simp only [Bool.not_eq_true', Bool.not_eq_false', Bool.and_eq_true, Bool.or_eq_false_iff, decide_eq_true_eq, decide_eq_false_iff_not] at hy) <;> simp (disch := first | rfl | omega | exact lt_new _ | assumption | decide | (simp [tk_here, tk_app, tk_0, tk_S, gr_here, gr_app, gr_0, gr_S] <;> omega) | fail) only [l28_9, r28_4, r28_5, r28_6, r28_8, t0, t1, t19, t20, hlt', hi1', e, hl1, hq, go_sem, ↓reduceIte, Nat.reduceLT, Nat.reduceEqDiff, Nat.reduceAdd, Nat.reduceMul, Nat.reduceSub, Int.reduceAdd, Int.reduceSub, Nat.reduceLeDiff, Int.reduceLT, Int.reduceLE, Int.reduceEq, Int.reduceNeg, Int.reduceToNat, hy])
      exact ⟨_, by omega, go (by simp [badO]; omega)⟩
  obtain rfl : i = B.length := by omega
  obtain ⟨c5, hA⟩ := nAsc_f hall
  clear hall
  rw [if_neg (by simp [c5])]
  have hmk := fun H => mk27 (B := B) (l := l) (H := H) (by omega)
  simp (disch := first | rfl | omega | exact lt_new _ | assumption | decide | (simp [tk_here, tk_app, tk_0, tk_S, gr_here, gr_app, gr_0, gr_S] <;> omega) | fail) only [l28_9, r28_4, r28_10, r28_11, t0, t1, t19, t20, Int.lt_irrefl, hmk, go_sem, ↓reduceIte, Nat.reduceLT, Nat.reduceEqDiff, Nat.reduceAdd, Nat.reduceMul, Nat.reduceSub, Int.reduceAdd, Int.reduceSub, Nat.reduceLeDiff, Int.reduceLT, Int.reduceLE, Int.reduceEq, Int.reduceNeg, Int.reduceToNat]
  repeat' ((first | refine guardB_dec (fun hy => ?_) (fun hy => ?_) | refine guardB_bool (fun hy => ?_) (fun hy => ?_) | refine guardQ_ite (fun hy => ?_) (fun hy => ?_) | refine brQ_dec (fun hy => ?_) (fun hy => ?_) | refine brQ_bool (fun hy => ?_) (fun hy => ?_)) <;> (try simp only [Bool.not_eq_true', Bool.not_eq_false', Bool.and_eq_true, Bool.or_eq_false_iff, decide_eq_true_eq, decide_eq_false_iff_not] at hy) <;> simp (disch := first | rfl | omega | exact lt_new _ | assumption | decide | (simp [tk_here, tk_app, tk_0, tk_S, gr_here, gr_app, gr_0, gr_S] <;> omega) | fail) only [l28_9, r28_4, r28_10, r28_11, t0, t1, t19, t20, Int.lt_irrefl, hmk, go_sem, ↓reduceIte, Nat.reduceLT, Nat.reduceEqDiff, Nat.reduceAdd, Nat.reduceMul, Nat.reduceSub, Int.reduceAdd, Int.reduceSub, Nat.reduceLeDiff, Int.reduceLT, Int.reduceLE, Int.reduceEq, Int.reduceNeg, Int.reduceToNat, hy])
  refine Wp_loop (fun m T D H1 => ∃ k, m = l.length - k ∧ k ≤ l.length ∧ D = [] ∧ H1 = H' ++ [.row 0 (flatE inE (hst B l k)) true] ∧ get T 0 = slV b inE l ∧ get T 1 = slV b' inE B ∧ get T 7 = .slice H'.length 0 0 (B.length + 1) 1 .full ∧ get T 42 = slV b inE l ∧ get T 43 = .int .i64 l.length ∧ get T 44 = .int .i64 k) ?_ l.length _ _ _ ?_
  case refine_2 => exact ⟨0, rfl, Nat.zero_le _, by simp (disch := first | rfl | omega | exact lt_new _ | assumption | decide | (simp [tk_here, tk_app, tk_0, tk_S, gr_here, gr_app, gr_0, gr_S] <;> omega) | fail) only [go_sem, ↓reduceIte, Nat.reduceLT, Nat.reduceEqDiff, Nat.reduceAdd, Nat.reduceMul, Nat.reduceSub, Int.reduceAdd, Int.reduceSub, Nat.reduceLeDiff, Int.reduceLT, Int.reduceLE, Int.reduceEq, Int.reduceNeg, Int.reduceToNat, t0, t1]⟩
  clear t0 t1 t19 t20
  rintro m T D _ ⟨k, rfl, hk, rfl, rfl, t0, t1, t7, t42, t43, t44⟩
  by_cases hlt : k < l.length
  · have hlt' : (k : Int) < l.length := by omega
    obtain ⟨x, hx⟩ : ∃ x, inE.at l k = x := ⟨_, rfl⟩
    obtain ⟨i, hlow, h75⟩ : ∃ i, IsLow B x i ∧ ∀ H, callL Tryz.prog pr 75 [slV b' inE B, .int .i64 x] H = some (.tup [.int .i64 (i : Int), .bool (decide (i < B.length ∧ inE.at B i = x))], H) := by
      obtain ⟨i, a, _⟩ := fn75 b' B hA (by omega) x []
      refine ⟨i, a, fun H => ?_⟩
      obtain ⟨j, a', e⟩ := fn75 b' B hA (by omega) x H
      have : cutL x B = _ := low_cut hA a
      have h2 : cutL x B = _ := low_cut hA a'
      obtain rfl : i = j := by
        rcases Nat.lt_trichotomy i j with c | c | c
        · have := a'.2.1 i c
          have := a.2.2 i (Nat.le_refl _) (by have := a'.1; omega)
          omega
        · exact c
        · have := a.2.1 j c
          have := a'.2.2 j (Nat.le_refl _) (by have := a.1; omega)
          omega
      exact e
    have hcut := low_cut hA hlow
    obtain ⟨cu1, _⟩ := cut_is x B
    have hi2 := hlow.1
    have hS : hst B l (k + 1) = (hst B l k).set (cutL x B) (inE.at (hst B l k) (cutL x B) + 1) := by rw [← hx]; rfl
    have hll := hst_len B l k
    have hbb := hst_b B l k (cutL x B)
    have hld := row_ld (l := hst B l k) (k := cutL x B) (by omega)
    have hst_ := row_st (H := H') (l := hst B l k) (k := cutL x B) (x := inE.at (hst B l k) (cutL x B) + 1) (by omega)
    have hix : ((cutL x B : Nat) : Int) < ((B.length + 1 : Nat) : Int) := by omega
    rw [← hS] at hst_
    by_cases hc : i < B.length ∧ inE.at B i = x
    · rw [if_pos hc] at hcut
      have e : (i : Int) + 1 = ((cutL x B : Nat) : Int) := by omega
      have hd : decide (i < B.length ∧ inE.at B i = x) = true := decide_eq_true hc
      rw [hd] at h75
      simp (disch := first | rfl | omega | exact lt_new _ | assumption | decide | (simp [tk_here, tk_app, tk_0, tk_S, gr_here, gr_app, gr_0, gr_S] <;> omega) | fail) only [l28_19, r28_12, r28_13, r28_14, r28_15, r28_16, r28_17, r28_18, t0, t1, t7, t42, t43, t44, hlt', hx, h75, e, hld, hst_, hix, go_sem, ↓reduceIte, Nat.reduceLT, Nat.reduceEqDiff, Nat.reduceAdd, Nat.reduceMul, Nat.reduceSub, Int.reduceAdd, Int.reduceSub, Nat.reduceLeDiff, Int.reduceLT, Int.reduceLE, Int.reduceEq, Int.reduceNeg, Int.reduceToNat]
      repeat' ((first | refine guardB_dec (fun hy => ?_) (fun hy => ?_) | refine guardB_bool (fun hy => ?_) (fun hy => ?_) | refine guardQ_ite (fun hy => ?_) (fun hy => ?_) | refine brQ_dec (fun hy => ?_) (fun hy => ?_) | refine brQ_bool (fun hy => ?_) (fun hy => ?_)) <;> (try simp only [Bool.not_eq_true', Bool.not_eq_false', Bool.and_eq_true, Bool.or_eq_false_iff, decide_eq_true_eq, decide_eq_false_iff_not] at hy) <;> simp (disch := first | rfl | omega | exact lt_new _ | assumption | decide | (simp [tk_here, tk_app, tk_0, tk_S, gr_here, gr_app, gr_0, gr_S] <;> omega) | fail) only [l28_19, r28_12, r28_13, r28_14, r28_15, r28_16, r28_17, r28_18, t0, t1, t7, t42, t43, t44, hlt', hx, h75, e, hld, hst_, hix, go_sem, ↓reduceIte, Nat.reduceLT, Nat.reduceEqDiff, Nat.reduceAdd, Nat.reduceMul, Nat.reduceSub, Int.reduceAdd, Int.reduceSub, Nat.reduceLeDiff, Int.reduceLT, Int.reduceLE, Int.reduceEq, Int.reduceNeg, Int.reduceToNat, hy])
      exact ⟨_, by omega, k + 1, rfl, hlt, rfl, rfl⟩
    · rw [if_neg hc] at hcut
      have hd : decide (i < B.length ∧ inE.at B i = x) = false := decide_eq_false hc
      rw [hd, ← hcut] at h75
      simp (disch := first | rfl | omega | exact lt_new _ | assumption | decide | (simp [tk_here, tk_app, tk_0, tk_S, gr_here, gr_app, gr_0, gr_S] <;> omega) | fail) only [l28_19, r28_12, r28_13, r28_14, r28_15, r28_17, r28_18, t0, t1, t7, t42, t43, t44, hlt', hx, h75, hld, hst_, hix, go_sem, ↓reduceIte, Nat.reduceLT, Nat.reduceEqDiff, Nat.reduceAdd, Nat.reduceMul, Nat.reduceSub, Int.reduceAdd, Int.reduceSub, Nat.reduceLeDiff, Int.reduceLT, Int.reduceLE, Int.reduceEq, Int.reduceNeg, Int.reduceToNat]
      repeat' ((first | refine guardB_dec (fun hy => ?_) (fun hy => ?_) | refine guardB_bool (fun hy => ?_) (fun hy => ?_) | refine guardQ_ite (fun hy => ?_) (fun hy => ?_) | refine brQ_dec (fun hy => ?_) (fun hy => ?_) | refine brQ_bool (fun hy => ?_) (fun hy => ?_)) <;> (try simp only [Bool.not_eq_true', Bool.not_eq_false', Bool.and_eq_true, Bool.or_eq_false_iff, decide_eq_true_eq, decide_eq_false_iff_not] at hy) <;> simp (disch := first | rfl | omega | exact lt_new _ | assumption | decide | (simp [tk_here, tk_app, tk_0, tk_S, gr_here, gr_app, gr_0, gr_S] <;> omega) | fail) only [l28_19, r28_12, r28_13, r28_14, r28_15, r28_17, r28_18, t0, t1, t7, t42, t43, t44, hlt', hx, h75, hld, hst_, hix, go_sem, ↓reduceIte, Nat.reduceLT, Nat.reduceEqDiff, Nat.reduceAdd, Nat.reduceMul, Nat.reduceSub, Int.reduceAdd, Int.reduceSub, Nat.reduceLeDiff, Int.reduceLT, Int.reduceLE, Int.reduceEq, Int.reduceNeg, Int.reduceToNat, hy])
      exact ⟨_, by omega, k + 1, rfl, hlt, rfl, rfl⟩
  · obtain rfl : k = l.length := by omega
    have hgc := gc_hst (B := B) (l := l) (H := H') (m := l.length)
    simp (disch := first | rfl | omega | exact lt_new _ | assumption | decide | (simp [tk_here, tk_app, tk_0, tk_S, gr_here, gr_app, gr_0, gr_S] <;> omega) | fail) only [l28_19, r28_12, r28_20, rs28, gc28, t0, t1, t7, t42, t43, t44, Int.lt_irrefl, hgc, go_sem, ↓reduceIte, Nat.reduceLT, Nat.reduceEqDiff, Nat.reduceAdd, Nat.reduceMul, Nat.reduceSub, Int.reduceAdd, Int.reduceSub, Nat.reduceLeDiff, Int.reduceLT, Int.reduceLE, Int.reduceEq, Int.reduceNeg, Int.reduceToNat]
    repeat' ((first | refine guardB_dec (fun hy => ?_) (fun hy => ?_) | refine guardB_bool (fun hy => ?_) (fun hy => ?_) | refine guardQ_ite (fun hy => ?_) (fun hy => ?_) | refine brQ_dec (fun hy => ?_) (fun hy => ?_) | refine brQ_bool (fun hy => ?_) (fun hy => ?_)) <;> (try simp only [Bool.not_eq_true', Bool.not_eq_false', Bool.and_eq_true, Bool.or_eq_false_iff, decide_eq_true_eq, decide_eq_false_iff_not] at hy) <;> simp (disch := first | rfl | omega | exact lt_new _ | assumption | decide | (simp [tk_here, tk_app, tk_0, tk_S, gr_here, gr_app, gr_0, gr_S] <;> omega) | fail) only [l28_19, r28_12, r28_20, rs28, gc28, t0, t1, t7, t42, t43, t44, Int.lt_irrefl, hgc, go_sem, ↓reduceIte, Nat.reduceLT, Nat.reduceEqDiff, Nat.reduceAdd, Nat.reduceMul, Nat.reduceSub, Int.reduceAdd, Int.reduceSub, Nat.reduceLeDiff, Int.reduceLT, Int.reduceLE, Int.reduceEq, Int.reduceNeg, Int.reduceToNat, hy])
end Go.Proofs.YteeofpgnjekeaaaGreatDoor
/-
  The least number that is not below so many: the plain law, and both walked. No statement of the seat stands here.
-/
namespace Go.Proofs.YteeofpgnjekeaaaGreatDoor
open Go Go.An
set_option maxRecDepth 4000
set_option linter.unusedSimpArgs false
set_option linter.unusedVariables false

def cntLe (l : List Int) (x : Int) : Nat → Nat
  | 0 => 0
  | k + 1 => if inE.at l k ≤ x then cntLe l x k + 1 else cntLe l x k
theorem cntLe_S (l : List Int) (x : Int) (k : Nat) : cntLe l x (k + 1) = if inE.at l k ≤ x then cntLe l x k + 1 else cntLe l x k := rfl
theorem cntLe_le (l : List Int) (x : Int) : ∀ k, cntLe l x k ≤ k
  | 0 => Nat.le_refl _
  | k + 1 => by
    have := cntLe_le l x k
    rw [cntLe_S]
    split <;> omega
theorem cnt_take (l : List Int) (x : Int) : ∀ k ≤ l.length, cntLe l x k = (l.take k).countP (fun y => decide (y ≤ x))
  | 0, _ => by simp [cntLe]
  | k + 1, hk => by
    rw [take_at l (by omega), List.countP_append, ← cnt_take l x k (by omega)]
    rw [cntLe_S]
    split <;> simp [*]
theorem cnt_all (l : List Int) (x : Int) : cntLe l x l.length = l.countP (fun y => decide (y ≤ x)) := by
  rw [cnt_take l x _ (Nat.le_refl _), List.take_length]
theorem cnt_perm {l l' : List Int} (h : l.Perm l') (x : Int) : cntLe l x l.length = cntLe l' x l'.length := by
  rw [cnt_all, cnt_all]
  exact h.countP_eq _
def Qual (l : List Int) (num den x : Int) : Prop := num * l.length ≤ (cntLe l x l.length : Int) * den
def qR (l : List Int) (num den : Int) : Nat → Int × Bool
  | 0 => (0, false)
  | k + 1 => if num * l.length ≤ (cntLe l (inE.at l k) l.length : Int) * den ∧ ((qR l num den k).2 = false ∨ inE.at l k < (qR l num den k).1) then (inE.at l k, true) else qR l num den k
theorem qR_is (l : List Int) (num den : Int) : ∀ k, ((qR l num den k).2 = false → ∀ j < k, ¬ Qual l num den (inE.at l j)) ∧ ((qR l num den k).2 = true → (∃ i < k, inE.at l i = (qR l num den k).1) ∧ Qual l num den (qR l num den k).1 ∧ ∀ j < k, Qual l num den (inE.at l j) → (qR l num den k).1 ≤ inE.at l j)
  | 0 => ⟨fun _ j hj => (by omega), fun h => (by cases h)⟩
  | k + 1 => by
    obtain ⟨a, b⟩ := qR_is l num den k
    unfold qR
    split
    · rename_i hc
      refine ⟨fun h => (by cases h), fun _ => ⟨⟨k, by omega, rfl⟩, hc.1, fun j hj hq => ?_⟩⟩
      by_cases e : j = k
      · subst e; exact Int.le_refl _
      · rcases hc.2 with h | h
        · exact absurd hq (a h j (by omega))
        · cases hb : (qR l num den k).2 with
          | false => exact absurd hq (a hb j (by omega))
          | true =>
            have := (b hb).2.2 j (by omega) hq
            simp only
            omega
    · rename_i hc
      refine ⟨fun h j hj hq => ?_, fun h => ?_⟩
      · by_cases e : j = k
        · subst e; exact hc ⟨hq, .inl h⟩
        · exact a h j (by omega) hq
      · obtain ⟨⟨i, hi, e⟩, b2, b3⟩ := b h
        refine ⟨⟨i, by omega, e⟩, b2, fun j hj hq => ?_⟩
        by_cases e : j = k
        · subst e
          have : ¬ inE.at l j < (qR l num den j).1 := fun z => hc ⟨hq, .inr z⟩
          omega
        · exact b3 j (by omega) hq
theorem ceil_fx {A den k : Int} (hd : 0 < den) (hA : 0 ≤ A) (hk : k = (A + den - 1).tdiv den) : A ≤ k * den ∧ (k - 1) * den < A ∨ A = 0 := by
  rw [Int.tdiv_eq_ediv_of_nonneg (by omega)] at hk
  have h1 := Int.mul_ediv_add_emod (A + den - 1) den
  have h2 := Int.emod_nonneg (A + den - 1) (b := den) (by omega)
  have h3 := Int.emod_lt_of_pos (A + den - 1) hd
  rw [← hk] at h1
  have e1 : (k - 1) * den = den * k - den := by rw [Int.sub_mul, Int.mul_comm, Int.one_mul]
  have e2 : k * den = den * k := Int.mul_comm _ _
  left
  rw [e1, e2]
  omega
theorem cnt_mid {u : List Int} (hs : ∀ i j, i < j → j < u.length → inE.at u i ≤ inE.at u j) {k : Nat} (h0 : 0 < k) (hk : k ≤ u.length) : k ≤ cntLe u (inE.at u (k - 1)) u.length ∧ ∀ y, y < inE.at u (k - 1) → cntLe u y u.length ≤ k - 1 := by
  have sp : ∀ (y : Int) (m n : Nat), m + n ≤ u.length → cntLe u y (m + n) ≤ cntLe u y m + n ∧ cntLe u y m ≤ cntLe u y (m + n) := fun y m n => by
    induction n with
    | zero => exact fun _ => ⟨Nat.le_refl _, Nat.le_refl _⟩
    | succ n ih =>
      intro h
      have := ih (by omega)
      rw [show m + (n + 1) = (m + n) + 1 by omega]
      rw [cntLe_S]
      split <;> omega
  constructor
  · have hall : ∀ m ≤ k, cntLe u (inE.at u (k - 1)) m = m := fun m => by
      induction m with
      | zero => exact fun _ => rfl
      | succ m ih =>
        intro hm
        rw [cntLe_S]
        rw [ih (by omega), if_pos]
        by_cases e : m = k - 1
        · subst e; exact Int.le_refl _
        · exact hs m (k - 1) (by omega) (by omega)
    have := (sp (inE.at u (k - 1)) k (u.length - k) (by omega)).2
    rw [hall k (Nat.le_refl _), show k + (u.length - k) = u.length by omega] at this
    exact this
  · intro y hy
    have hnone : ∀ n, k - 1 + n ≤ u.length → cntLe u y (k - 1 + n) = cntLe u y (k - 1) := fun n => by
      induction n with
      | zero => exact fun _ => rfl
      | succ n ih =>
        intro h
        rw [show k - 1 + (n + 1) = (k - 1 + n) + 1 by omega]
        rw [cntLe_S]
        rw [ih (by omega), if_neg]
        by_cases e : n = 0
        · subst e; simp only [Nat.add_zero]; omega
        · have := hs (k - 1) (k - 1 + n) (by omega) (by omega)
          omega
    have h1 := hnone (u.length - (k - 1)) (by omega)
    rw [show k - 1 + (u.length - (k - 1)) = u.length by omega] at h1
    rw [h1]
    exact cntLe_le u y (k - 1)
theorem quan_eq {l : List Int} {num den : Int} {k : Nat} (hn : 1 ≤ num) (hnd : num ≤ den) (h0 : 0 < l.length) (hk : (k : Int) = (num * l.length + den - 1).tdiv den) : 0 < k ∧ k ≤ l.length ∧ inE.at (sortI l) (k - 1) = (qR l num den l.length).1 := by
  have hA : 0 < num * l.length := Int.mul_pos (by omega) (by omega)
  have hA2 : num * l.length ≤ den * l.length := Int.mul_le_mul_of_nonneg_right hnd (by omega)
  obtain ⟨c1, c2⟩ : num * l.length ≤ k * den ∧ ((k : Int) - 1) * den < num * l.length := by
    rcases ceil_fx (by omega) (by omega) hk with h | h
    · exact h
    · omega
  have hk0 : 0 < k := by
    rcases Nat.eq_zero_or_pos k with e | e
    · subst e; simp at c1; omega
    · exact e
  have hkl : k ≤ l.length := by
    rcases Nat.lt_or_ge l.length k with e | e
    · have : (l.length : Int) ≤ (k : Int) - 1 := by omega
      have := Int.mul_le_mul_of_nonneg_right this (show 0 ≤ den by omega)
      rw [Int.mul_comm (l.length : Int) den] at this
      omega
    · exact e
  refine ⟨hk0, hkl, ?_⟩
  have hp := sortI_perm l
  have hsl := sortI_length l
  obtain ⟨m1, m2⟩ := cnt_mid (u := sortI l) sortI_le hk0 (by omega)
  obtain ⟨v, hv⟩ : ∃ v, inE.at (sortI l) (k - 1) = v := ⟨_, rfl⟩
  rw [hv] at m1 m2 ⊢
  have hvm : v ∈ l := hp.mem_iff.1 (by rw [← hv]; exact inE.at_mem (by omega))
  have hq : Qual l num den v := by
    unfold Qual
    rw [← cnt_perm hp v]
    have : (k : Int) ≤ cntLe (sortI l) v (sortI l).length := by omega
    have := Int.mul_le_mul_of_nonneg_right this (show 0 ≤ den by omega)
    omega
  have hmin : ∀ y, Qual l num den y → v ≤ y := fun y hy => by
    rcases Int.lt_or_le y v with h | h
    · have h1 := m2 y h
      unfold Qual at hy
      rw [← cnt_perm hp y] at hy
      have : (cntLe (sortI l) y (sortI l).length : Int) ≤ (k : Int) - 1 := by omega
      have := Int.mul_le_mul_of_nonneg_right this (show 0 ≤ den by omega)
      omega
    · exact h
  obtain ⟨q1, q2⟩ := qR_is l num den l.length
  obtain ⟨i, hi, e⟩ := at_mem_iff.1 hvm
  cases hb : (qR l num den l.length).2 with
  | false => exact absurd (e ▸ hq) (q1 hb i hi)
  | true =>
    obtain ⟨_, b2, b3⟩ := q2 hb
    have := hmin _ b2
    have := b3 i hi (e ▸ hq)
    omega
def quaR (l : List Int) (num den : Int) : Int × Int := if l.length = 0 then (0, 4) else if num < 1 ∨ den < num ∨ 1000000 < den then (0, 1) else if 200 < l.length then (0, 3) else ((qR l num den l.length).1, 0)
end Go.Proofs.YteeofpgnjekeaaaGreatDoor
/-
  The least number that is not below so many: both walked. No statement of the seat stands here.
-/
namespace Go.Proofs.YteeofpgnjekeaaaGreatDoor
open Go Go.An
set_option maxRecDepth 4000
set_option linter.unusedSimpArgs false
set_option linter.unusedVariables false

theorem mul_fx {num den : Int} {n : Nat} (h1 : 1 ≤ num) (h2 : num ≤ den) (h3 : den ≤ 1000000) (hn : n ≤ 200) : 0 ≤ num * n ∧ num * n ≤ 200000000 := by
  have a := Int.mul_nonneg (show 0 ≤ num by omega) (show (0 : Int) ≤ n by omega)
  have b := Int.mul_le_mul (show num ≤ 1000000 by omega) (show (n : Int) ≤ 200 by omega) (by omega) (by omega)
  omega
set_option maxHeartbeats 8000000 in
theorem fn31 (b : Bool) (l : List Int) (num den : Int) (h1 : l.length ≤ 2 ^ 48) (H : Hp) : callL Tryz.prog pr 31 [slV b inE l, .int .i64 num, .int .i64 den] H = some (.tup [.int .i64 (quaR l num den).1, .int .i64 (quaR l num den).2], H) := by
  refine run31 (Nat.le_of_ble_eq_true rfl) ?_
  unfold quaR
  by_cases ha : l.length = 0
  case pos =>
    rw [if_pos ha]
    have ha2 : (l.length : Int) = 0 := by omega
    simp (disch := first | rfl | omega | exact lt_new _ | assumption | decide | (simp [tk_here, tk_app, tk_0, tk_S, gr_here, gr_app, gr_0, gr_S] <;> omega) | fail) only [r31_0, r31_1, r31_2, r31_3, r31_4, r31_5, r31_6, r31_7, r31_8, r31_9, r31_10, r31_11, r31_12, r31_13, r31_14, r31_15, r31_17, r31_18, r31_19, r31_21, c31, rs31, gc31, ha2, go_sem, ↓reduceIte, Nat.reduceLT, Nat.reduceEqDiff, Nat.reduceAdd, Nat.reduceMul, Nat.reduceSub, Int.reduceAdd, Int.reduceSub, Nat.reduceLeDiff, Int.reduceLT, Int.reduceLE, Int.reduceEq, Int.reduceNeg, Int.reduceToNat]
    repeat' ((first | refine guardB_dec (fun hy => ?_) (fun hy => ?_) | refine guardB_bool (fun hy => ?_) (fun hy => ?_) | refine guardQ_ite (fun hy => ?_) (fun hy => ?_) | refine brQ_dec (fun hy => ?_) (fun hy => ?_) | refine brQ_bool (fun hy => ?_) (fun hy => ?_)) <;> (try simp only [Bool.not_eq_true', Bool.not_eq_false', Bool.and_eq_true, Bool.or_eq_false_iff, decide_eq_true_eq, decide_eq_false_iff_not] at hy) <;> simp (disch := first | rfl | omega | exact lt_new _ | assumption | decide | (simp [tk_here, tk_app, tk_0, tk_S, gr_here, gr_app, gr_0, gr_S] <;> omega) | fail) only [r31_0, r31_1, r31_2, r31_3, r31_4, r31_5, r31_6, r31_7, r31_8, r31_9, r31_10, r31_11, r31_12, r31_13, r31_14, r31_15, r31_17, r31_18, r31_19, r31_21, c31, rs31, gc31, ha2, go_sem, ↓reduceIte, Nat.reduceLT, Nat.reduceEqDiff, Nat.reduceAdd, Nat.reduceMul, Nat.reduceSub, Int.reduceAdd, Int.reduceSub, Nat.reduceLeDiff, Int.reduceLT, Int.reduceLE, Int.reduceEq, Int.reduceNeg, Int.reduceToNat, hy])
    all_goals (try ((first | refine finQ_same ?_ | refine finQ_app ?_ | (rw [List.append_assoc]; refine finQ_app ?_)) <;> simp (disch := first | rfl | omega | exact lt_new _ | assumption | decide | (simp [tk_here, tk_app, tk_0, tk_S, gr_here, gr_app, gr_0, gr_S] <;> omega) | fail) only [go_sem, ↓reduceIte, Nat.reduceLT, Nat.reduceEqDiff, Nat.reduceAdd, Nat.reduceMul, Nat.reduceSub, Int.reduceAdd, Int.reduceSub, Nat.reduceLeDiff, Int.reduceLT, Int.reduceLE, Int.reduceEq, Int.reduceNeg, Int.reduceToNat, List.append_assoc, List.cons_append, List.nil_append, *]))
    all_goals (try first | rfl | (simp [*]; done) | grind)
  rw [if_neg ha]
  have ha2 : ¬ (l.length : Int) = 0 := by omega
  by_cases hb : num < 1
  case pos =>
    rw [if_pos (.inl hb)]
    simp (disch := first | rfl | omega | exact lt_new _ | assumption | decide | (simp [tk_here, tk_app, tk_0, tk_S, gr_here, gr_app, gr_0, gr_S] <;> omega) | fail) only [r31_0, r31_1, r31_2, r31_3, r31_4, r31_5, r31_6, r31_7, r31_8, r31_9, r31_10, r31_11, r31_12, r31_13, r31_14, r31_15, r31_17, r31_18, r31_19, r31_21, c31, rs31, gc31, ha2, hb, go_sem, ↓reduceIte, Nat.reduceLT, Nat.reduceEqDiff, Nat.reduceAdd, Nat.reduceMul, Nat.reduceSub, Int.reduceAdd, Int.reduceSub, Nat.reduceLeDiff, Int.reduceLT, Int.reduceLE, Int.reduceEq, Int.reduceNeg, Int.reduceToNat]
    repeat' ((first | refine guardB_dec (fun hy => ?_) (fun hy => ?_) | refine guardB_bool (fun hy => ?_) (fun hy => ?_) | refine guardQ_ite (fun hy => ?_) (fun hy => ?_) | refine brQ_dec (fun hy => ?_) (fun hy => ?_) | refine brQ_bool (fun hy => ?_) (fun hy => ?_)) <;> (try simp only [Bool.not_eq_true', Bool.not_eq_false', Bool.and_eq_true, Bool.or_eq_false_iff, decide_eq_true_eq, decide_eq_false_iff_not] at hy) <;> simp (disch := first | rfl | omega | exact lt_new _ | assumption | decide | (simp [tk_here, tk_app, tk_0, tk_S, gr_here, gr_app, gr_0, gr_S] <;> omega) | fail) only [r31_0, r31_1, r31_2, r31_3, r31_4, r31_5, r31_6, r31_7, r31_8, r31_9, r31_10, r31_11, r31_12, r31_13, r31_14, r31_15, r31_17, r31_18, r31_19, r31_21, c31, rs31, gc31, ha2, hb, go_sem, ↓reduceIte, Nat.reduceLT, Nat.reduceEqDiff, Nat.reduceAdd, Nat.reduceMul, Nat.reduceSub, Int.reduceAdd, Int.reduceSub, Nat.reduceLeDiff, Int.reduceLT, Int.reduceLE, Int.reduceEq, Int.reduceNeg, Int.reduceToNat, hy])
    all_goals (try ((first | refine finQ_same ?_ | refine finQ_app ?_ | (rw [List.append_assoc]; refine finQ_app ?_)) <;> simp (disch := first | rfl | omega | exact lt_new _ | assumption | decide | (simp [tk_here, tk_app, tk_0, tk_S, gr_here, gr_app, gr_0, gr_S] <;> omega) | fail) only [go_sem, ↓reduceIte, Nat.reduceLT, Nat.reduceEqDiff, Nat.reduceAdd, Nat.reduceMul, Nat.reduceSub, Int.reduceAdd, Int.reduceSub, Nat.reduceLeDiff, Int.reduceLT, Int.reduceLE, Int.reduceEq, Int.reduceNeg, Int.reduceToNat, List.append_assoc, List.cons_append, List.nil_append, *]))
    all_goals (try first | rfl | (simp [*]; done) | grind)
  by_cases hc : den < num
  case pos =>
    rw [if_pos (.inr (.inl hc))]
    simp (disch := first | rfl | omega | exact lt_new _ | assumption | decide | (simp [tk_here, tk_app, tk_0, tk_S, gr_here, gr_app, gr_0, gr_S] <;> omega) | fail) only [r31_0, r31_1, r31_2, r31_3, r31_4, r31_5, r31_6, r31_7, r31_8, r31_9, r31_10, r31_11, r31_12, r31_13, r31_14, r31_15, r31_17, r31_18, r31_19, r31_21, c31, rs31, gc31, ha2, hb, hc, go_sem, ↓reduceIte, Nat.reduceLT, Nat.reduceEqDiff, Nat.reduceAdd, Nat.reduceMul, Nat.reduceSub, Int.reduceAdd, Int.reduceSub, Nat.reduceLeDiff, Int.reduceLT, Int.reduceLE, Int.reduceEq, Int.reduceNeg, Int.reduceToNat]
    repeat' ((first | refine guardB_dec (fun hy => ?_) (fun hy => ?_) | refine guardB_bool (fun hy => ?_) (fun hy => ?_) | refine guardQ_ite (fun hy => ?_) (fun hy => ?_) | refine brQ_dec (fun hy => ?_) (fun hy => ?_) | refine brQ_bool (fun hy => ?_) (fun hy => ?_)) <;> (try simp only [Bool.not_eq_true', Bool.not_eq_false', Bool.and_eq_true, Bool.or_eq_false_iff, decide_eq_true_eq, decide_eq_false_iff_not] at hy) <;> simp (disch := first | rfl | omega | exact lt_new _ | assumption | decide | (simp [tk_here, tk_app, tk_0, tk_S, gr_here, gr_app, gr_0, gr_S] <;> omega) | fail) only [r31_0, r31_1, r31_2, r31_3, r31_4, r31_5, r31_6, r31_7, r31_8, r31_9, r31_10, r31_11, r31_12, r31_13, r31_14, r31_15, r31_17, r31_18, r31_19, r31_21, c31, rs31, gc31, ha2, hb, hc, go_sem, ↓reduceIte, Nat.reduceLT, Nat.reduceEqDiff, Nat.reduceAdd, Nat.reduceMul, Nat.reduceSub, Int.reduceAdd, Int.reduceSub, Nat.reduceLeDiff, Int.reduceLT, Int.reduceLE, Int.reduceEq, Int.reduceNeg, Int.reduceToNat, hy])
    all_goals (try ((first | refine finQ_same ?_ | refine finQ_app ?_ | (rw [List.append_assoc]; refine finQ_app ?_)) <;> simp (disch := first | rfl | omega | exact lt_new _ | assumption | decide | (simp [tk_here, tk_app, tk_0, tk_S, gr_here, gr_app, gr_0, gr_S] <;> omega) | fail) only [go_sem, ↓reduceIte, Nat.reduceLT, Nat.reduceEqDiff, Nat.reduceAdd, Nat.reduceMul, Nat.reduceSub, Int.reduceAdd, Int.reduceSub, Nat.reduceLeDiff, Int.reduceLT, Int.reduceLE, Int.reduceEq, Int.reduceNeg, Int.reduceToNat, List.append_assoc, List.cons_append, List.nil_append, *]))
    all_goals (try first | rfl | (simp [*]; done) | grind)
  by_cases hd : 1000000 < den
  case pos =>
    rw [if_pos (.inr (.inr hd))]
    simp (disch := first | rfl | omega | exact lt_new _ | assumption | decide | (simp [tk_here, tk_app, tk_0, tk_S, gr_here, gr_app, gr_0, gr_S] <;> omega) | fail) only [r31_0, r31_1, r31_2, r31_3, r31_4, r31_5, r31_6, r31_7, r31_8, r31_9, r31_10, r31_11, r31_12, r31_13, r31_14, r31_15, r31_17, r31_18, r31_19, r31_21, c31, rs31, gc31, ha2, hb, hc, hd, go_sem, ↓reduceIte, Nat.reduceLT, Nat.reduceEqDiff, Nat.reduceAdd, Nat.reduceMul, Nat.reduceSub, Int.reduceAdd, Int.reduceSub, Nat.reduceLeDiff, Int.reduceLT, Int.reduceLE, Int.reduceEq, Int.reduceNeg, Int.reduceToNat]
    repeat' ((first | refine guardB_dec (fun hy => ?_) (fun hy => ?_) | refine guardB_bool (fun hy => ?_) (fun hy => ?_) | refine guardQ_ite (fun hy => ?_) (fun hy => ?_) | refine brQ_dec (fun hy => ?_) (fun hy => ?_) | refine brQ_bool (fun hy => ?_) (fun hy => ?_)) <;> (try simp only [Bool.not_eq_true', Bool.not_eq_false', Bool.and_eq_true, Bool.or_eq_false_iff, decide_eq_true_eq, decide_eq_false_iff_not] at hy) <;> simp (disch := first | rfl | omega | exact lt_new _ | assumption | decide | (simp [tk_here, tk_app, tk_0, tk_S, gr_here, gr_app, gr_0, gr_S] <;> omega) | fail) only [r31_0, r31_1, r31_2, r31_3, r31_4, r31_5, r31_6, r31_7, r31_8, r31_9, r31_10, r31_11, r31_12, r31_13, r31_14, r31_15, r31_17, r31_18, r31_19, r31_21, c31, rs31, gc31, ha2, hb, hc, hd, go_sem, ↓reduceIte, Nat.reduceLT, Nat.reduceEqDiff, Nat.reduceAdd, Nat.reduceMul, Nat.reduceSub, Int.reduceAdd, Int.reduceSub, Nat.reduceLeDiff, Int.reduceLT, Int.reduceLE, Int.reduceEq, Int.reduceNeg, Int.reduceToNat, hy])
    all_goals (try ((first | refine finQ_same ?_ | refine finQ_app ?_ | (rw [List.append_assoc]; refine finQ_app ?_)) <;> simp (disch := first | rfl | omega | exact lt_new _ | assumption | decide | (simp [tk_here, tk_app, tk_0, tk_S, gr_here, gr_app, gr_0, gr_S] <;> omega) | fail) only [go_sem, ↓reduceIte, Nat.reduceLT, Nat.reduceEqDiff, Nat.reduceAdd, Nat.reduceMul, Nat.reduceSub, Int.reduceAdd, Int.reduceSub, Nat.reduceLeDiff, Int.reduceLT, Int.reduceLE, Int.reduceEq, Int.reduceNeg, Int.reduceToNat, List.append_assoc, List.cons_append, List.nil_append, *]))
    all_goals (try first | rfl | (simp [*]; done) | grind)
  rw [if_neg (by omega)]
  by_cases he : 200 < l.length
  case pos =>
    rw [if_pos he]
    have he2 : (200 : Int) < l.length := by omega
    simp (disch := first | rfl | omega | exact lt_new _ | assumption | decide | (simp [tk_here, tk_app, tk_0, tk_S, gr_here, gr_app, gr_0, gr_S] <;> omega) | fail) only [r31_0, r31_1, r31_2, r31_3, r31_4, r31_5, r31_6, r31_7, r31_8, r31_9, r31_10, r31_11, r31_12, r31_13, r31_14, r31_15, r31_17, r31_18, r31_19, r31_21, c31, rs31, gc31, ha2, hb, hc, hd, he2, go_sem, ↓reduceIte, Nat.reduceLT, Nat.reduceEqDiff, Nat.reduceAdd, Nat.reduceMul, Nat.reduceSub, Int.reduceAdd, Int.reduceSub, Nat.reduceLeDiff, Int.reduceLT, Int.reduceLE, Int.reduceEq, Int.reduceNeg, Int.reduceToNat]
    repeat' ((first | refine guardB_dec (fun hy => ?_) (fun hy => ?_) | refine guardB_bool (fun hy => ?_) (fun hy => ?_) | refine guardQ_ite (fun hy => ?_) (fun hy => ?_) | refine brQ_dec (fun hy => ?_) (fun hy => ?_) | refine brQ_bool (fun hy => ?_) (fun hy => ?_)) <;> (try simp only [Bool.not_eq_true', Bool.not_eq_false', Bool.and_eq_true, Bool.or_eq_false_iff, decide_eq_true_eq, decide_eq_false_iff_not] at hy) <;> simp (disch := first | rfl | omega | exact lt_new _ | assumption | decide | (simp [tk_here, tk_app, tk_0, tk_S, gr_here, gr_app, gr_0, gr_S] <;> omega) | fail) only [r31_0, r31_1, r31_2, r31_3, r31_4, r31_5, r31_6, r31_7, r31_8, r31_9, r31_10, r31_11, r31_12, r31_13, r31_14, r31_15, r31_17, r31_18, r31_19, r31_21, c31, rs31, gc31, ha2, hb, hc, hd, he2, go_sem, ↓reduceIte, Nat.reduceLT, Nat.reduceEqDiff, Nat.reduceAdd, Nat.reduceMul, Nat.reduceSub, Int.reduceAdd, Int.reduceSub, Nat.reduceLeDiff, Int.reduceLT, Int.reduceLE, Int.reduceEq, Int.reduceNeg, Int.reduceToNat, hy])
    all_goals (try ((first | refine finQ_same ?_ | refine finQ_app ?_ | (rw [List.append_assoc]; refine finQ_app ?_)) <;> simp (disch := first | rfl | omega | exact lt_new _ | assumption | decide | (simp [tk_here, tk_app, tk_0, tk_S, gr_here, gr_app, gr_0, gr_S] <;> omega) | fail) only [go_sem, ↓reduceIte, Nat.reduceLT, Nat.reduceEqDiff, Nat.reduceAdd, Nat.reduceMul, Nat.reduceSub, Int.reduceAdd, Int.reduceSub, Nat.reduceLeDiff, Int.reduceLT, Int.reduceLE, Int.reduceEq, Int.reduceNeg, Int.reduceToNat, List.append_assoc, List.cons_append, List.nil_append, *]))
    all_goals (try first | rfl | (simp [*]; done) | grind)
  rw [if_neg he]
  have he2 : ¬ (200 : Int) < l.length := by omega
  obtain ⟨A, hA⟩ : ∃ A, num * (l.length : Int) = A := ⟨_, rfl⟩
  have hAb := mul_fx (show 1 ≤ num by omega) (show num ≤ den by omega) (by omega) (show l.length ≤ 200 by omega)
  rw [hA] at hAb
  simp (disch := first | rfl | omega | exact lt_new _ | assumption | decide | (simp [tk_here, tk_app, tk_0, tk_S, gr_here, gr_app, gr_0, gr_S] <;> omega) | fail) only [r31_0, r31_1, r31_2, r31_3, r31_4, r31_5, r31_6, r31_7, r31_8, r31_9, r31_10, r31_11, r31_12, r31_13, r31_14, r31_15, r31_17, r31_18, r31_19, r31_21, c31, rs31, gc31, ha2, hb, hc, hd, he2, go_sem, ↓reduceIte, Nat.reduceLT, Nat.reduceEqDiff, Nat.reduceAdd, Nat.reduceMul, Nat.reduceSub, Int.reduceAdd, Int.reduceSub, Nat.reduceLeDiff, Int.reduceLT, Int.reduceLE, Int.reduceEq, Int.reduceNeg, Int.reduceToNat]
  repeat' ((first | refine guardB_dec (fun hy => ?_) (fun hy => ?_) | refine guardB_bool (fun hy => ?_) (fun hy => ?_) | refine guardQ_ite (fun hy => ?_) (fun hy => ?_) | refine brQ_dec (fun hy => ?_) (fun hy => ?_) | refine brQ_bool (fun hy => ?_) (fun hy => ?_)) <;> (try simp only [Bool.not_eq_true', Bool.not_eq_false', Bool.and_eq_true, Bool.or_eq_false_iff, decide_eq_true_eq, decide_eq_false_iff_not] at hy) <;> simp (disch := first | rfl | omega | exact lt_new _ | assumption | decide | (simp [tk_here, tk_app, tk_0, tk_S, gr_here, gr_app, gr_0, gr_S] <;> omega) | fail) only [r31_0, r31_1, r31_2, r31_3, r31_4, r31_5, r31_6, r31_7, r31_8, r31_9, r31_10, r31_11, r31_12, r31_13, r31_14, r31_15, r31_17, r31_18, r31_19, r31_21, c31, rs31, gc31, ha2, hb, hc, hd, he2, go_sem, ↓reduceIte, Nat.reduceLT, Nat.reduceEqDiff, Nat.reduceAdd, Nat.reduceMul, Nat.reduceSub, Int.reduceAdd, Int.reduceSub, Nat.reduceLeDiff, Int.reduceLT, Int.reduceLE, Int.reduceEq, Int.reduceNeg, Int.reduceToNat, hy])
  refine Wp_loop (fun m T D H' => ∃ k, m = l.length - k ∧ k ≤ l.length ∧ D = [] ∧ H' = H ∧ get T 0 = slV b inE l ∧ get T 1 = .int .i64 num ∧ get T 2 = .int .i64 den ∧ get T 10 = .int .i64 k ∧ get T 8 = .int .i64 (qR l num den k).1 ∧ get T 9 = .bool (qR l num den k).2) ?_ l.length _ _ _ ?_
  case refine_2 => exact ⟨0, by simp (disch := first | rfl | omega | exact lt_new _ | assumption | decide | (simp [tk_here, tk_app, tk_0, tk_S, gr_here, gr_app, gr_0, gr_S] <;> omega) | fail) only [go_sem, ↓reduceIte, Nat.reduceLT, Nat.reduceEqDiff, Nat.reduceAdd, Nat.reduceMul, Nat.reduceSub, Int.reduceAdd, Int.reduceSub, Nat.reduceLeDiff, Int.reduceLT, Int.reduceLE, Int.reduceEq, Int.reduceNeg, Int.reduceToNat]; simp [qR]⟩
  rintro m T D H' ⟨k, rfl, hk, rfl, rfl, t0, t1, t2, t10, t8, t9⟩
  by_cases hlt : k < l.length
  · have hlt' : (k : Int) < l.length := by omega
    obtain ⟨x, hx⟩ : ∃ x, inE.at l k = x := ⟨_, rfl⟩
    simp (disch := first | rfl | omega | exact lt_new _ | assumption | decide | (simp [tk_here, tk_app, tk_0, tk_S, gr_here, gr_app, gr_0, gr_S] <;> omega) | fail) only [l31_20, r31_9, r31_10, r31_11, t0, t1, t2, t10, t8, t9, hlt', go_sem, ↓reduceIte, Nat.reduceLT, Nat.reduceEqDiff, Nat.reduceAdd, Nat.reduceMul, Nat.reduceSub, Int.reduceAdd, Int.reduceSub, Nat.reduceLeDiff, Int.reduceLT, Int.reduceLE, Int.reduceEq, Int.reduceNeg, Int.reduceToNat]
    repeat' ((first | refine guardB_dec (fun hy => ?_) (fun hy => ?_) | refine guardB_bool (fun hy => ?_) (fun hy => ?_) | refine guardQ_ite (fun hy => ?_) (fun hy => ?_) | refine brQ_dec (fun hy => ?_) (fun hy => ?_) | refine brQ_bool (fun hy => ?_) (fun hy => ?_)) <;> (try simp only [Bool.not_eq_true', Bool.not_eq_false', Bool.and_eq_true, Bool.or_eq_false_iff, decide_eq_true_eq, decide_eq_false_iff_not] at hy) <;> simp (disch := first | rfl | omega | exact lt_new _ | assumption | decide | (simp [tk_here, tk_app, tk_0, tk_S, gr_here, gr_app, gr_0, gr_S] <;> omega) | fail) only [l31_20, r31_9, r31_10, r31_11, t0, t1, t2, t10, t8, t9, hlt', go_sem, ↓reduceIte, Nat.reduceLT, Nat.reduceEqDiff, Nat.reduceAdd, Nat.reduceMul, Nat.reduceSub, Int.reduceAdd, Int.reduceSub, Nat.reduceLeDiff, Int.reduceLT, Int.reduceLE, Int.reduceEq, Int.reduceNeg, Int.reduceToNat, hy])
    refine Wp_loop (fun m T D H2 => ∃ j, m = l.length - j ∧ j ≤ l.length ∧ D = [] ∧ H2 = H' ∧ get T 0 = slV b inE l ∧ get T 1 = .int .i64 num ∧ get T 2 = .int .i64 den ∧ get T 10 = .int .i64 k ∧ get T 8 = .int .i64 (qR l num den k).1 ∧ get T 9 = .bool (qR l num den k).2 ∧ get T 12 = .int .i64 j ∧ get T 11 = .int .i64 (cntLe l x j : Int)) ?_ l.length _ _ _ ?_
    case refine_2 => exact ⟨0, by simp (disch := first | rfl | omega | exact lt_new _ | assumption | decide | (simp [tk_here, tk_app, tk_0, tk_S, gr_here, gr_app, gr_0, gr_S] <;> omega) | fail) only [go_sem, ↓reduceIte, Nat.reduceLT, Nat.reduceEqDiff, Nat.reduceAdd, Nat.reduceMul, Nat.reduceSub, Int.reduceAdd, Int.reduceSub, Nat.reduceLeDiff, Int.reduceLT, Int.reduceLE, Int.reduceEq, Int.reduceNeg, Int.reduceToNat, t0, t1, t2, t10, t8, t9]; simp [cntLe]⟩
    clear t0 t1 t2 t10 t8 t9
    rintro m T D H' ⟨j, rfl, hj, rfl, rfl, t0, t1, t2, t10, t8, t9, t12, t11⟩
    have hcj := cntLe_le l x j
    by_cases hjl : j < l.length
    · have hjl' : (j : Int) < l.length := by omega
      have hcS := cntLe_S l x j
      by_cases q : inE.at l j ≤ x
      · rw [if_pos q] at hcS
        simp (disch := first | rfl | omega | exact lt_new _ | assumption | decide | (simp [tk_here, tk_app, tk_0, tk_S, gr_here, gr_app, gr_0, gr_S] <;> omega) | fail) only [l31_16, r31_12, r31_13, r31_14, r31_15, t0, t1, t2, t10, t8, t9, t12, t11, hlt', hjl', hx, q, go_sem, ↓reduceIte, Nat.reduceLT, Nat.reduceEqDiff, Nat.reduceAdd, Nat.reduceMul, Nat.reduceSub, Int.reduceAdd, Int.reduceSub, Nat.reduceLeDiff, Int.reduceLT, Int.reduceLE, Int.reduceEq, Int.reduceNeg, Int.reduceToNat]
        repeat' ((first | refine guardB_dec (fun hy => ?_) (fun hy => ?_) | refine guardB_bool (fun hy => ?_) (fun hy => ?_) | refine guardQ_ite (fun hy => ?_) (fun hy => ?_) | refine brQ_dec (fun hy => ?_) (fun hy => ?_) | refine brQ_bool (fun hy => ?_) (fun hy => ?_)) <;> (try simp only [Bool.not_eq_true', Bool.not_eq_false', Bool.and_eq_true, Bool.or_eq_false_iff, decide_eq_true_eq, decide_eq_false_iff_not] at hy) <;> simp (disch := first | rfl | omega | exact lt_new _ | assumption | decide | (simp [tk_here, tk_app, tk_0, tk_S, gr_here, gr_app, gr_0, gr_S] <;> omega) | fail) only [l31_16, r31_12, r31_13, r31_14, r31_15, t0, t1, t2, t10, t8, t9, t12, t11, hlt', hjl', hx, q, go_sem, ↓reduceIte, Nat.reduceLT, Nat.reduceEqDiff, Nat.reduceAdd, Nat.reduceMul, Nat.reduceSub, Int.reduceAdd, Int.reduceSub, Nat.reduceLeDiff, Int.reduceLT, Int.reduceLE, Int.reduceEq, Int.reduceNeg, Int.reduceToNat, hy])
        exact ⟨_, by omega, j + 1, rfl, hjl, rfl, by rw [hcS]; rfl⟩
      · rw [if_neg q] at hcS
        simp (disch := first | rfl | omega | exact lt_new _ | assumption | decide | (simp [tk_here, tk_app, tk_0, tk_S, gr_here, gr_app, gr_0, gr_S] <;> omega) | fail) only [l31_16, r31_12, r31_13, r31_15, t0, t1, t2, t10, t8, t9, t12, t11, hlt', hjl', hx, q, go_sem, ↓reduceIte, Nat.reduceLT, Nat.reduceEqDiff, Nat.reduceAdd, Nat.reduceMul, Nat.reduceSub, Int.reduceAdd, Int.reduceSub, Nat.reduceLeDiff, Int.reduceLT, Int.reduceLE, Int.reduceEq, Int.reduceNeg, Int.reduceToNat]
        repeat' ((first | refine guardB_dec (fun hy => ?_) (fun hy => ?_) | refine guardB_bool (fun hy => ?_) (fun hy => ?_) | refine guardQ_ite (fun hy => ?_) (fun hy => ?_) | refine brQ_dec (fun hy => ?_) (fun hy => ?_) | refine brQ_bool (fun hy => ?_) (fun hy => ?_)) <;> (try simp only [Bool.not_eq_true', Bool.not_eq_false', Bool.and_eq_true, Bool.or_eq_false_iff, decide_eq_true_eq, decide_eq_false_iff_not] at hy) <;> simp (disch := first | rfl | omega | exact lt_new _ | assumption | decide | (simp [tk_here, tk_app, tk_0, tk_S, gr_here, gr_app, gr_0, gr_S] <;> omega) | fail) only [l31_16, r31_12, r31_13, r31_15, t0, t1, t2, t10, t8, t9, t12, t11, hlt', hjl', hx, q, go_sem, ↓reduceIte, Nat.reduceLT, Nat.reduceEqDiff, Nat.reduceAdd, Nat.reduceMul, Nat.reduceSub, Int.reduceAdd, Int.reduceSub, Nat.reduceLeDiff, Int.reduceLT, Int.reduceLE, Int.reduceEq, Int.reduceNeg, Int.reduceToNat, hy])
        exact ⟨_, by omega, j + 1, rfl, hjl, rfl, by rw [hcS]⟩
    · obtain rfl : j = l.length := by omega
      obtain ⟨C, hC⟩ : ∃ C, (cntLe l x l.length : Int) * den = C := ⟨_, rfl⟩
      have hCb : 0 ≤ C ∧ C ≤ 200000000 := by
        have a := Int.mul_nonneg (show (0 : Int) ≤ cntLe l x l.length by omega) (show 0 ≤ den by omega)
        have b := Int.mul_le_mul (show (cntLe l x l.length : Int) ≤ 200 by omega) (show den ≤ 1000000 by omega) (by omega) (by omega)
        omega
      have hS : qR l num den (k + 1) = if A ≤ C ∧ ((qR l num den k).2 = false ∨ x < (qR l num den k).1) then (x, true) else qR l num den k := by rw [← hA, ← hC, ← hx]; rfl
      by_cases q1 : A ≤ C
      · cases q2 : (qR l num den k).2 with
        | false =>
          rw [if_pos ⟨q1, .inl q2⟩] at hS
          rw [q2] at t9
          simp (disch := first | rfl | omega | exact lt_new _ | assumption | decide | (simp [tk_here, tk_app, tk_0, tk_S, gr_here, gr_app, gr_0, gr_S] <;> omega) | fail) only [l31_16, r31_12, r31_17, r31_18, r31_19, t0, t1, t2, t10, t8, t9, t12, t11, hlt', Int.lt_irrefl, hx, hA, hC, q1, go_sem, ↓reduceIte, Nat.reduceLT, Nat.reduceEqDiff, Nat.reduceAdd, Nat.reduceMul, Nat.reduceSub, Int.reduceAdd, Int.reduceSub, Nat.reduceLeDiff, Int.reduceLT, Int.reduceLE, Int.reduceEq, Int.reduceNeg, Int.reduceToNat]
          repeat' ((first | refine guardB_dec (fun hy => ?_) (fun hy => ?_) | refine guardB_bool (fun hy => ?_) (fun hy => ?_) | refine guardQ_ite (fun hy => ?_) (fun hy => ?_) | refine brQ_dec (fun hy => ?_) (fun hy => ?_) | refine brQ_bool (fun hy => ?_) (fun hy => ?_)) <;> (try simp only [Bool.not_eq_true', Bool.not_eq_false', Bool.and_eq_true, Bool.or_eq_false_iff, decide_eq_true_eq, decide_eq_false_iff_not] at hy) <;> simp (disch := first | rfl | omega | exact lt_new _ | assumption | decide | (simp [tk_here, tk_app, tk_0, tk_S, gr_here, gr_app, gr_0, gr_S] <;> omega) | fail) only [l31_16, r31_12, r31_17, r31_18, r31_19, t0, t1, t2, t10, t8, t9, t12, t11, hlt', Int.lt_irrefl, hx, hA, hC, q1, go_sem, ↓reduceIte, Nat.reduceLT, Nat.reduceEqDiff, Nat.reduceAdd, Nat.reduceMul, Nat.reduceSub, Int.reduceAdd, Int.reduceSub, Nat.reduceLeDiff, Int.reduceLT, Int.reduceLE, Int.reduceEq, Int.reduceNeg, Int.reduceToNat, hy])
          exact ⟨_, by omega, k + 1, rfl, hlt, rfl, by rw [hS], by rw [hS]⟩
        | true =>
          rw [q2] at t9
          by_cases q3 : x < (qR l num den k).1
          · rw [if_pos ⟨q1, .inr q3⟩] at hS
            simp (disch := first | rfl | omega | exact lt_new _ | assumption | decide | (simp [tk_here, tk_app, tk_0, tk_S, gr_here, gr_app, gr_0, gr_S] <;> omega) | fail) only [l31_16, r31_12, r31_17, r31_18, r31_19, t0, t1, t2, t10, t8, t9, t12, t11, hlt', Int.lt_irrefl, hx, hA, hC, q1, q3, go_sem, ↓reduceIte, Nat.reduceLT, Nat.reduceEqDiff, Nat.reduceAdd, Nat.reduceMul, Nat.reduceSub, Int.reduceAdd, Int.reduceSub, Nat.reduceLeDiff, Int.reduceLT, Int.reduceLE, Int.reduceEq, Int.reduceNeg, Int.reduceToNat]
            repeat' ((first | refine guardB_dec (fun hy => ?_) (fun hy => ?_) | refine guardB_bool (fun hy => ?_) (fun hy => ?_) | refine guardQ_ite (fun hy => ?_) (fun hy => ?_) | refine brQ_dec (fun hy => ?_) (fun hy => ?_) | refine brQ_bool (fun hy => ?_) (fun hy => ?_)) <;> (try simp only [Bool.not_eq_true', Bool.not_eq_false', Bool.and_eq_true, Bool.or_eq_false_iff, decide_eq_true_eq, decide_eq_false_iff_not] at hy) <;> simp (disch := first | rfl | omega | exact lt_new _ | assumption | decide | (simp [tk_here, tk_app, tk_0, tk_S, gr_here, gr_app, gr_0, gr_S] <;> omega) | fail) only [l31_16, r31_12, r31_17, r31_18, r31_19, t0, t1, t2, t10, t8, t9, t12, t11, hlt', Int.lt_irrefl, hx, hA, hC, q1, q3, go_sem, ↓reduceIte, Nat.reduceLT, Nat.reduceEqDiff, Nat.reduceAdd, Nat.reduceMul, Nat.reduceSub, Int.reduceAdd, Int.reduceSub, Nat.reduceLeDiff, Int.reduceLT, Int.reduceLE, Int.reduceEq, Int.reduceNeg, Int.reduceToNat, hy])
            exact ⟨_, by omega, k + 1, rfl, hlt, rfl, by rw [hS], by rw [hS]⟩
          · rw [if_neg (fun z => z.2.elim (fun y => by rw [q2] at y; cases y) q3)] at hS
            simp (disch := first | rfl | omega | exact lt_new _ | assumption | decide | (simp [tk_here, tk_app, tk_0, tk_S, gr_here, gr_app, gr_0, gr_S] <;> omega) | fail) only [l31_16, r31_12, r31_17, r31_19, t0, t1, t2, t10, t8, t9, t12, t11, hlt', Int.lt_irrefl, hx, hA, hC, q1, q3, go_sem, ↓reduceIte, Nat.reduceLT, Nat.reduceEqDiff, Nat.reduceAdd, Nat.reduceMul, Nat.reduceSub, Int.reduceAdd, Int.reduceSub, Nat.reduceLeDiff, Int.reduceLT, Int.reduceLE, Int.reduceEq, Int.reduceNeg, Int.reduceToNat]
            repeat' ((first | refine guardB_dec (fun hy => ?_) (fun hy => ?_) | refine guardB_bool (fun hy => ?_) (fun hy => ?_) | refine guardQ_ite (fun hy => ?_) (fun hy => ?_) | refine brQ_dec (fun hy => ?_) (fun hy => ?_) | refine brQ_bool (fun hy => ?_) (fun hy => ?_)) <;> (try simp only [Bool.not_eq_true', Bool.not_eq_false', Bool.and_eq_true, Bool.or_eq_false_iff, decide_eq_true_eq, decide_eq_false_iff_not] at hy) <;> simp (disch := first | rfl | omega | exact lt_new _ | assumption | decide | (simp [tk_here, tk_app, tk_0, tk_S, gr_here, gr_app, gr_0, gr_S] <;> omega) | fail) only [l31_16, r31_12, r31_17, r31_19, t0, t1, t2, t10, t8, t9, t12, t11, hlt', Int.lt_irrefl, hx, hA, hC, q1, q3, go_sem, ↓reduceIte, Nat.reduceLT, Nat.reduceEqDiff, Nat.reduceAdd, Nat.reduceMul, Nat.reduceSub, Int.reduceAdd, Int.reduceSub, Nat.reduceLeDiff, Int.reduceLT, Int.reduceLE, Int.reduceEq, Int.reduceNeg, Int.reduceToNat, hy])
            exact ⟨_, by omega, k + 1, rfl, hlt, rfl, by rw [hS], by rw [hS, q2]⟩
      · rw [if_neg (fun z => q1 z.1)] at hS
        simp (disch := first | rfl | omega | exact lt_new _ | assumption | decide | (simp [tk_here, tk_app, tk_0, tk_S, gr_here, gr_app, gr_0, gr_S] <;> omega) | fail) only [l31_16, r31_12, r31_17, r31_19, t0, t1, t2, t10, t8, t9, t12, t11, hlt', Int.lt_irrefl, hx, hA, hC, q1, go_sem, ↓reduceIte, Nat.reduceLT, Nat.reduceEqDiff, Nat.reduceAdd, Nat.reduceMul, Nat.reduceSub, Int.reduceAdd, Int.reduceSub, Nat.reduceLeDiff, Int.reduceLT, Int.reduceLE, Int.reduceEq, Int.reduceNeg, Int.reduceToNat]
        repeat' ((first | refine guardB_dec (fun hy => ?_) (fun hy => ?_) | refine guardB_bool (fun hy => ?_) (fun hy => ?_) | refine guardQ_ite (fun hy => ?_) (fun hy => ?_) | refine brQ_dec (fun hy => ?_) (fun hy => ?_) | refine brQ_bool (fun hy => ?_) (fun hy => ?_)) <;> (try simp only [Bool.not_eq_true', Bool.not_eq_false', Bool.and_eq_true, Bool.or_eq_false_iff, decide_eq_true_eq, decide_eq_false_iff_not] at hy) <;> simp (disch := first | rfl | omega | exact lt_new _ | assumption | decide | (simp [tk_here, tk_app, tk_0, tk_S, gr_here, gr_app, gr_0, gr_S] <;> omega) | fail) only [l31_16, r31_12, r31_17, r31_19, t0, t1, t2, t10, t8, t9, t12, t11, hlt', Int.lt_irrefl, hx, hA, hC, q1, go_sem, ↓reduceIte, Nat.reduceLT, Nat.reduceEqDiff, Nat.reduceAdd, Nat.reduceMul, Nat.reduceSub, Int.reduceAdd, Int.reduceSub, Nat.reduceLeDiff, Int.reduceLT, Int.reduceLE, Int.reduceEq, Int.reduceNeg, Int.reduceToNat, hy])
        exact ⟨_, by omega, k + 1, rfl, hlt, rfl, by rw [hS], by rw [hS]⟩
  · obtain rfl : k = l.length := by omega
    simp (disch := first | rfl | omega | exact lt_new _ | assumption | decide | (simp [tk_here, tk_app, tk_0, tk_S, gr_here, gr_app, gr_0, gr_S] <;> omega) | fail) only [l31_20, r31_9, r31_21, rs31, gc31, t0, t1, t2, t10, t8, t9, Int.lt_irrefl, go_sem, ↓reduceIte, Nat.reduceLT, Nat.reduceEqDiff, Nat.reduceAdd, Nat.reduceMul, Nat.reduceSub, Int.reduceAdd, Int.reduceSub, Nat.reduceLeDiff, Int.reduceLT, Int.reduceLE, Int.reduceEq, Int.reduceNeg, Int.reduceToNat]
    repeat' ((first | refine guardB_dec (fun hy => ?_) (fun hy => ?_) | refine guardB_bool (fun hy => ?_) (fun hy => ?_) | refine guardQ_ite (fun hy => ?_) (fun hy => ?_) | refine brQ_dec (fun hy => ?_) (fun hy => ?_) | refine brQ_bool (fun hy => ?_) (fun hy => ?_)) <;> (try simp only [Bool.not_eq_true', Bool.not_eq_false', Bool.and_eq_true, Bool.or_eq_false_iff, decide_eq_true_eq, decide_eq_false_iff_not] at hy) <;> simp (disch := first | rfl | omega | exact lt_new _ | assumption | decide | (simp [tk_here, tk_app, tk_0, tk_S, gr_here, gr_app, gr_0, gr_S] <;> omega) | fail) only [l31_20, r31_9, r31_21, rs31, gc31, t0, t1, t2, t10, t8, t9, Int.lt_irrefl, go_sem, ↓reduceIte, Nat.reduceLT, Nat.reduceEqDiff, Nat.reduceAdd, Nat.reduceMul, Nat.reduceSub, Int.reduceAdd, Int.reduceSub, Nat.reduceLeDiff, Int.reduceLT, Int.reduceLE, Int.reduceEq, Int.reduceNeg, Int.reduceToNat, hy])
    all_goals (try ((first | refine finQ_same ?_ | refine finQ_app ?_ | (rw [List.append_assoc]; refine finQ_app ?_)) <;> simp (disch := first | rfl | omega | exact lt_new _ | assumption | decide | (simp [tk_here, tk_app, tk_0, tk_S, gr_here, gr_app, gr_0, gr_S] <;> omega) | fail) only [go_sem, ↓reduceIte, Nat.reduceLT, Nat.reduceEqDiff, Nat.reduceAdd, Nat.reduceMul, Nat.reduceSub, Int.reduceAdd, Int.reduceSub, Nat.reduceLeDiff, Int.reduceLT, Int.reduceLE, Int.reduceEq, Int.reduceNeg, Int.reduceToNat, List.append_assoc, List.cons_append, List.nil_append, *]))
    all_goals (try first | rfl | (simp [*]; done) | grind)
set_option maxHeartbeats 8000000 in
theorem fn30 (b : Bool) (l : List Int) (num den : Int) (h1 : l.length ≤ 2 ^ 48) (H : Hp) : callL Tryz.prog pr 30 [slV b inE l, .int .i64 num, .int .i64 den] H = some (.tup [.int .i64 (quaR l num den).1, .int .i64 (quaR l num den).2], H) := by
  have h54 := fun b l H => fn54 (b := b) (l := l) H
  refine run30 (Nat.le_of_ble_eq_true rfl) ?_
  unfold quaR
  by_cases ha : l.length = 0
  case pos =>
    rw [if_pos ha]
    have ha2 : (l.length : Int) = 0 := by omega
    simp (disch := first | rfl | omega | exact lt_new _ | assumption | decide | (simp [tk_here, tk_app, tk_0, tk_S, gr_here, gr_app, gr_0, gr_S] <;> omega) | fail) only [r30_0, r30_1, r30_2, r30_3, r30_4, r30_5, r30_6, r30_7, r30_8, r30_9, c30, rs30, gc30, ha2, go_sem, ↓reduceIte, Nat.reduceLT, Nat.reduceEqDiff, Nat.reduceAdd, Nat.reduceMul, Nat.reduceSub, Int.reduceAdd, Int.reduceSub, Nat.reduceLeDiff, Int.reduceLT, Int.reduceLE, Int.reduceEq, Int.reduceNeg, Int.reduceToNat]
    repeat' ((first | refine guardB_dec (fun hy => ?_) (fun hy => ?_) | refine guardB_bool (fun hy => ?_) (fun hy => ?_) | refine guardQ_ite (fun hy => ?_) (fun hy => ?_) | refine brQ_dec (fun hy => ?_) (fun hy => ?_) | refine brQ_bool (fun hy => ?_) (fun hy => ?_)) <;> (try simp only [Bool.not_eq_true', Bool.not_eq_false', Bool.and_eq_true, Bool.or_eq_false_iff, decide_eq_true_eq, decide_eq_false_iff_not] at hy) <;> simp (disch := first | rfl | omega | exact lt_new _ | assumption | decide | (simp [tk_here, tk_app, tk_0, tk_S, gr_here, gr_app, gr_0, gr_S] <;> omega) | fail) only [r30_0, r30_1, r30_2, r30_3, r30_4, r30_5, r30_6, r30_7, r30_8, r30_9, c30, rs30, gc30, ha2, go_sem, ↓reduceIte, Nat.reduceLT, Nat.reduceEqDiff, Nat.reduceAdd, Nat.reduceMul, Nat.reduceSub, Int.reduceAdd, Int.reduceSub, Nat.reduceLeDiff, Int.reduceLT, Int.reduceLE, Int.reduceEq, Int.reduceNeg, Int.reduceToNat, hy])
    all_goals (try ((first | refine finQ_same ?_ | refine finQ_app ?_ | (rw [List.append_assoc]; refine finQ_app ?_)) <;> simp (disch := first | rfl | omega | exact lt_new _ | assumption | decide | (simp [tk_here, tk_app, tk_0, tk_S, gr_here, gr_app, gr_0, gr_S] <;> omega) | fail) only [go_sem, ↓reduceIte, Nat.reduceLT, Nat.reduceEqDiff, Nat.reduceAdd, Nat.reduceMul, Nat.reduceSub, Int.reduceAdd, Int.reduceSub, Nat.reduceLeDiff, Int.reduceLT, Int.reduceLE, Int.reduceEq, Int.reduceNeg, Int.reduceToNat, List.append_assoc, List.cons_append, List.nil_append, *]))
    all_goals (try first | rfl | (simp [*]; done) | grind)
  rw [if_neg ha]
  have ha2 : ¬ (l.length : Int) = 0 := by omega
  by_cases hb : num < 1
  case pos =>
    rw [if_pos (.inl hb)]
    simp (disch := first | rfl | omega | exact lt_new _ | assumption | decide | (simp [tk_here, tk_app, tk_0, tk_S, gr_here, gr_app, gr_0, gr_S] <;> omega) | fail) only [r30_0, r30_1, r30_2, r30_3, r30_4, r30_5, r30_6, r30_7, r30_8, r30_9, c30, rs30, gc30, ha2, hb, go_sem, ↓reduceIte, Nat.reduceLT, Nat.reduceEqDiff, Nat.reduceAdd, Nat.reduceMul, Nat.reduceSub, Int.reduceAdd, Int.reduceSub, Nat.reduceLeDiff, Int.reduceLT, Int.reduceLE, Int.reduceEq, Int.reduceNeg, Int.reduceToNat]
    repeat' ((first | refine guardB_dec (fun hy => ?_) (fun hy => ?_) | refine guardB_bool (fun hy => ?_) (fun hy => ?_) | refine guardQ_ite (fun hy => ?_) (fun hy => ?_) | refine brQ_dec (fun hy => ?_) (fun hy => ?_) | refine brQ_bool (fun hy => ?_) (fun hy => ?_)) <;> (try simp only [Bool.not_eq_true', Bool.not_eq_false', Bool.and_eq_true, Bool.or_eq_false_iff, decide_eq_true_eq, decide_eq_false_iff_not] at hy) <;> simp (disch := first | rfl | omega | exact lt_new _ | assumption | decide | (simp [tk_here, tk_app, tk_0, tk_S, gr_here, gr_app, gr_0, gr_S] <;> omega) | fail) only [r30_0, r30_1, r30_2, r30_3, r30_4, r30_5, r30_6, r30_7, r30_8, r30_9, c30, rs30, gc30, ha2, hb, go_sem, ↓reduceIte, Nat.reduceLT, Nat.reduceEqDiff, Nat.reduceAdd, Nat.reduceMul, Nat.reduceSub, Int.reduceAdd, Int.reduceSub, Nat.reduceLeDiff, Int.reduceLT, Int.reduceLE, Int.reduceEq, Int.reduceNeg, Int.reduceToNat, hy])
    all_goals (try ((first | refine finQ_same ?_ | refine finQ_app ?_ | (rw [List.append_assoc]; refine finQ_app ?_)) <;> simp (disch := first | rfl | omega | exact lt_new _ | assumption | decide | (simp [tk_here, tk_app, tk_0, tk_S, gr_here, gr_app, gr_0, gr_S] <;> omega) | fail) only [go_sem, ↓reduceIte, Nat.reduceLT, Nat.reduceEqDiff, Nat.reduceAdd, Nat.reduceMul, Nat.reduceSub, Int.reduceAdd, Int.reduceSub, Nat.reduceLeDiff, Int.reduceLT, Int.reduceLE, Int.reduceEq, Int.reduceNeg, Int.reduceToNat, List.append_assoc, List.cons_append, List.nil_append, *]))
    all_goals (try first | rfl | (simp [*]; done) | grind)
  by_cases hc : den < num
  case pos =>
    rw [if_pos (.inr (.inl hc))]
    simp (disch := first | rfl | omega | exact lt_new _ | assumption | decide | (simp [tk_here, tk_app, tk_0, tk_S, gr_here, gr_app, gr_0, gr_S] <;> omega) | fail) only [r30_0, r30_1, r30_2, r30_3, r30_4, r30_5, r30_6, r30_7, r30_8, r30_9, c30, rs30, gc30, ha2, hb, hc, go_sem, ↓reduceIte, Nat.reduceLT, Nat.reduceEqDiff, Nat.reduceAdd, Nat.reduceMul, Nat.reduceSub, Int.reduceAdd, Int.reduceSub, Nat.reduceLeDiff, Int.reduceLT, Int.reduceLE, Int.reduceEq, Int.reduceNeg, Int.reduceToNat]
    repeat' ((first | refine guardB_dec (fun hy => ?_) (fun hy => ?_) | refine guardB_bool (fun hy => ?_) (fun hy => ?_) | refine guardQ_ite (fun hy => ?_) (fun hy => ?_) | refine brQ_dec (fun hy => ?_) (fun hy => ?_) | refine brQ_bool (fun hy => ?_) (fun hy => ?_)) <;> (try simp only [Bool.not_eq_true', Bool.not_eq_false', Bool.and_eq_true, Bool.or_eq_false_iff, decide_eq_true_eq, decide_eq_false_iff_not] at hy) <;> simp (disch := first | rfl | omega | exact lt_new _ | assumption | decide | (simp [tk_here, tk_app, tk_0, tk_S, gr_here, gr_app, gr_0, gr_S] <;> omega) | fail) only [r30_0, r30_1, r30_2, r30_3, r30_4, r30_5, r30_6, r30_7, r30_8, r30_9, c30, rs30, gc30, ha2, hb, hc, go_sem, ↓reduceIte, Nat.reduceLT, Nat.reduceEqDiff, Nat.reduceAdd, Nat.reduceMul, Nat.reduceSub, Int.reduceAdd, Int.reduceSub, Nat.reduceLeDiff, Int.reduceLT, Int.reduceLE, Int.reduceEq, Int.reduceNeg, Int.reduceToNat, hy])
    all_goals (try ((first | refine finQ_same ?_ | refine finQ_app ?_ | (rw [List.append_assoc]; refine finQ_app ?_)) <;> simp (disch := first | rfl | omega | exact lt_new _ | assumption | decide | (simp [tk_here, tk_app, tk_0, tk_S, gr_here, gr_app, gr_0, gr_S] <;> omega) | fail) only [go_sem, ↓reduceIte, Nat.reduceLT, Nat.reduceEqDiff, Nat.reduceAdd, Nat.reduceMul, Nat.reduceSub, Int.reduceAdd, Int.reduceSub, Nat.reduceLeDiff, Int.reduceLT, Int.reduceLE, Int.reduceEq, Int.reduceNeg, Int.reduceToNat, List.append_assoc, List.cons_append, List.nil_append, *]))
    all_goals (try first | rfl | (simp [*]; done) | grind)
  by_cases hd : 1000000 < den
  case pos =>
    rw [if_pos (.inr (.inr hd))]
    simp (disch := first | rfl | omega | exact lt_new _ | assumption | decide | (simp [tk_here, tk_app, tk_0, tk_S, gr_here, gr_app, gr_0, gr_S] <;> omega) | fail) only [r30_0, r30_1, r30_2, r30_3, r30_4, r30_5, r30_6, r30_7, r30_8, r30_9, c30, rs30, gc30, ha2, hb, hc, hd, go_sem, ↓reduceIte, Nat.reduceLT, Nat.reduceEqDiff, Nat.reduceAdd, Nat.reduceMul, Nat.reduceSub, Int.reduceAdd, Int.reduceSub, Nat.reduceLeDiff, Int.reduceLT, Int.reduceLE, Int.reduceEq, Int.reduceNeg, Int.reduceToNat]
    repeat' ((first | refine guardB_dec (fun hy => ?_) (fun hy => ?_) | refine guardB_bool (fun hy => ?_) (fun hy => ?_) | refine guardQ_ite (fun hy => ?_) (fun hy => ?_) | refine brQ_dec (fun hy => ?_) (fun hy => ?_) | refine brQ_bool (fun hy => ?_) (fun hy => ?_)) <;> (try simp only [Bool.not_eq_true', Bool.not_eq_false', Bool.and_eq_true, Bool.or_eq_false_iff, decide_eq_true_eq, decide_eq_false_iff_not] at hy) <;> simp (disch := first | rfl | omega | exact lt_new _ | assumption | decide | (simp [tk_here, tk_app, tk_0, tk_S, gr_here, gr_app, gr_0, gr_S] <;> omega) | fail) only [r30_0, r30_1, r30_2, r30_3, r30_4, r30_5, r30_6, r30_7, r30_8, r30_9, c30, rs30, gc30, ha2, hb, hc, hd, go_sem, ↓reduceIte, Nat.reduceLT, Nat.reduceEqDiff, Nat.reduceAdd, Nat.reduceMul, Nat.reduceSub, Int.reduceAdd, Int.reduceSub, Nat.reduceLeDiff, Int.reduceLT, Int.reduceLE, Int.reduceEq, Int.reduceNeg, Int.reduceToNat, hy])
    all_goals (try ((first | refine finQ_same ?_ | refine finQ_app ?_ | (rw [List.append_assoc]; refine finQ_app ?_)) <;> simp (disch := first | rfl | omega | exact lt_new _ | assumption | decide | (simp [tk_here, tk_app, tk_0, tk_S, gr_here, gr_app, gr_0, gr_S] <;> omega) | fail) only [go_sem, ↓reduceIte, Nat.reduceLT, Nat.reduceEqDiff, Nat.reduceAdd, Nat.reduceMul, Nat.reduceSub, Int.reduceAdd, Int.reduceSub, Nat.reduceLeDiff, Int.reduceLT, Int.reduceLE, Int.reduceEq, Int.reduceNeg, Int.reduceToNat, List.append_assoc, List.cons_append, List.nil_append, *]))
    all_goals (try first | rfl | (simp [*]; done) | grind)
  rw [if_neg (by omega)]
  by_cases he : 200 < l.length
  case pos =>
    rw [if_pos he]
    have he2 : (200 : Int) < l.length := by omega
    simp (disch := first | rfl | omega | exact lt_new _ | assumption | decide | (simp [tk_here, tk_app, tk_0, tk_S, gr_here, gr_app, gr_0, gr_S] <;> omega) | fail) only [r30_0, r30_1, r30_2, r30_3, r30_4, r30_5, r30_6, r30_7, r30_8, r30_9, c30, rs30, gc30, h54, ha2, hb, hc, hd, he2, go_sem, ↓reduceIte, Nat.reduceLT, Nat.reduceEqDiff, Nat.reduceAdd, Nat.reduceMul, Nat.reduceSub, Int.reduceAdd, Int.reduceSub, Nat.reduceLeDiff, Int.reduceLT, Int.reduceLE, Int.reduceEq, Int.reduceNeg, Int.reduceToNat]
    repeat' ((first | refine guardB_dec (fun hy => ?_) (fun hy => ?_) | refine guardB_bool (fun hy => ?_) (fun hy => ?_) | refine guardQ_ite (fun hy => ?_) (fun hy => ?_) | refine brQ_dec (fun hy => ?_) (fun hy => ?_) | refine brQ_bool (fun hy => ?_) (fun hy => ?_)) <;> (try simp only [Bool.not_eq_true', Bool.not_eq_false', Bool.and_eq_true, Bool.or_eq_false_iff, decide_eq_true_eq, decide_eq_false_iff_not] at hy) <;> simp (disch := first | rfl | omega | exact lt_new _ | assumption | decide | (simp [tk_here, tk_app, tk_0, tk_S, gr_here, gr_app, gr_0, gr_S] <;> omega) | fail) only [r30_0, r30_1, r30_2, r30_3, r30_4, r30_5, r30_6, r30_7, r30_8, r30_9, c30, rs30, gc30, h54, ha2, hb, hc, hd, he2, go_sem, ↓reduceIte, Nat.reduceLT, Nat.reduceEqDiff, Nat.reduceAdd, Nat.reduceMul, Nat.reduceSub, Int.reduceAdd, Int.reduceSub, Nat.reduceLeDiff, Int.reduceLT, Int.reduceLE, Int.reduceEq, Int.reduceNeg, Int.reduceToNat, hy])
    all_goals (try ((first | refine finQ_same ?_ | refine finQ_app ?_ | (rw [List.append_assoc]; refine finQ_app ?_)) <;> simp (disch := first | rfl | omega | exact lt_new _ | assumption | decide | (simp [tk_here, tk_app, tk_0, tk_S, gr_here, gr_app, gr_0, gr_S] <;> omega) | fail) only [go_sem, ↓reduceIte, Nat.reduceLT, Nat.reduceEqDiff, Nat.reduceAdd, Nat.reduceMul, Nat.reduceSub, Int.reduceAdd, Int.reduceSub, Nat.reduceLeDiff, Int.reduceLT, Int.reduceLE, Int.reduceEq, Int.reduceNeg, Int.reduceToNat, List.append_assoc, List.cons_append, List.nil_append, *]))
    all_goals (try first | rfl | (simp [*]; done) | grind)
  rw [if_neg he]
  have he2 : ¬ (200 : Int) < l.length := by omega
  have h62 := fn62 b l
  have h61 := fn61 b l (by omega)
  have hsl := sortI_length l
  have hslI : ((sortI l).length : Int) = l.length := by omega
  have hAb := mul_fx (show 1 ≤ num by omega) (show num ≤ den by omega) (by omega) (show l.length ≤ 200 by omega)
  have hk0 : 0 ≤ (num * (l.length : Int) + den - 1).tdiv den := Int.tdiv_nonneg (by omega) (by omega)
  obtain ⟨k, hk⟩ : ∃ k : Nat, (k : Int) = (num * (l.length : Int) + den - 1).tdiv den := ⟨((num * (l.length : Int) + den - 1).tdiv den).toNat, by omega⟩
  obtain ⟨c1, c2, c3⟩ := quan_eq (l := l) (show 1 ≤ num by omega) (show num ≤ den by omega) (by omega) hk
  rw [← c3]
  obtain ⟨A, hA⟩ : ∃ A, num * (l.length : Int) = A := ⟨_, rfl⟩
  rw [hA] at hAb hk
  have hden : ¬ den = 0 := by omega
  have e1 : (k : Int) - 1 = ((k - 1 : Nat) : Int) := by omega
  have e2 : ((k - 1 : Nat) : Int) < (sortI l).length := by omega
  have hw : IntKind.i64.wrap ((A + den - 1).tdiv den) = k := by
    rw [← hk]
    exact IntWalk.i64_in _ (by omega)
  simp (disch := first | rfl | omega | exact lt_new _ | assumption | decide | (simp [tk_here, tk_app, tk_0, tk_S, gr_here, gr_app, gr_0, gr_S] <;> omega) | fail) only [r30_0, r30_1, r30_2, r30_3, r30_4, r30_5, r30_6, r30_7, r30_8, r30_9, c30, rs30, gc30, h54, h61, h62, ha2, hb, hc, hd, he2, hslI, hA, hden, hw, e1, e2, go_sem, ↓reduceIte, Nat.reduceLT, Nat.reduceEqDiff, Nat.reduceAdd, Nat.reduceMul, Nat.reduceSub, Int.reduceAdd, Int.reduceSub, Nat.reduceLeDiff, Int.reduceLT, Int.reduceLE, Int.reduceEq, Int.reduceNeg, Int.reduceToNat]
  repeat' ((first | refine guardB_dec (fun hy => ?_) (fun hy => ?_) | refine guardB_bool (fun hy => ?_) (fun hy => ?_) | refine guardQ_ite (fun hy => ?_) (fun hy => ?_) | refine brQ_dec (fun hy => ?_) (fun hy => ?_) | refine brQ_bool (fun hy => ?_) (fun hy => ?_)) <;> (try simp only [Bool.not_eq_true', Bool.not_eq_false', Bool.and_eq_true, Bool.or_eq_false_iff, decide_eq_true_eq, decide_eq_false_iff_not] at hy) <;> simp (disch := first | rfl | omega | exact lt_new _ | assumption | decide | (simp [tk_here, tk_app, tk_0, tk_S, gr_here, gr_app, gr_0, gr_S] <;> omega) | fail) only [r30_0, r30_1, r30_2, r30_3, r30_4, r30_5, r30_6, r30_7, r30_8, r30_9, c30, rs30, gc30, h54, h61, h62, ha2, hb, hc, hd, he2, hslI, hA, hden, hw, e1, e2, go_sem, ↓reduceIte, Nat.reduceLT, Nat.reduceEqDiff, Nat.reduceAdd, Nat.reduceMul, Nat.reduceSub, Int.reduceAdd, Int.reduceSub, Nat.reduceLeDiff, Int.reduceLT, Int.reduceLE, Int.reduceEq, Int.reduceNeg, Int.reduceToNat, hy])
  refine finQ_same ?_
  simp (disch := first | rfl | omega | exact lt_new _ | assumption | decide | (simp [tk_here, tk_app, tk_0, tk_S, gr_here, gr_app, gr_0, gr_S] <;> omega) | fail) only [go_sem, ↓reduceIte, Nat.reduceLT, Nat.reduceEqDiff, Nat.reduceAdd, Nat.reduceMul, Nat.reduceSub, Int.reduceAdd, Int.reduceSub, Nat.reduceLeDiff, Int.reduceLT, Int.reduceLE, Int.reduceEq, Int.reduceNeg, Int.reduceToNat]
end Go.Proofs.YteeofpgnjekeaaaGreatDoor
/-
  Numbers smoothed, counted between bounds, and quantiles: the program and the reference tell the same; walked. No statement of the seat stands here.
-/
namespace Go.Proofs.YteeofpgnjekeaaaGreatDoor
open Go Go.An
set_option maxRecDepth 4000
set_option linter.unusedSimpArgs false
set_option linter.unusedVariables false

theorem fn25 {b b' : Bool} {l l' : List Int} (hl : l.length ≤ 2 ^ 62) (H : Hp) : callL Tryz.prog pr 25 [slV b inE l, slV b' inE l'] H = some (.bool (decide (l = l')), H) := by
  rw [← sameL_eq]
  refine run25 (Nat.le_of_ble_eq_true rfl) ?_
  by_cases hg : (l.length : Int) = l'.length
  case neg =>
    rw [sameL_len (by omega)]
    simp (disch := first | rfl | omega | exact lt_new _ | assumption | decide | (simp [tk_here, tk_app, tk_0, tk_S, gr_here, gr_app, gr_0, gr_S] <;> omega) | fail) only [r25_0, r25_1, r25_2, r25_3, r25_4, r25_5, r25_6, r25_7, r25_9, c25, rs25, gc25, hg, go_sem, ↓reduceIte, Nat.reduceLT, Nat.reduceEqDiff, Nat.reduceAdd, Nat.reduceMul, Nat.reduceSub, Int.reduceAdd, Int.reduceSub, Nat.reduceLeDiff, Int.reduceLT, Int.reduceLE, Int.reduceEq, Int.reduceNeg, Int.reduceToNat]
    repeat' ((first | refine guardB_dec (fun hy => ?_) (fun hy => ?_) | refine guardB_bool (fun hy => ?_) (fun hy => ?_) | refine guardQ_ite (fun hy => ?_) (fun hy => ?_) | refine brQ_dec (fun hy => ?_) (fun hy => ?_) | refine brQ_bool (fun hy => ?_) (fun hy => ?_)) <;> (try simp only [Bool.not_eq_true', Bool.not_eq_false', Bool.and_eq_true, Bool.or_eq_false_iff, decide_eq_true_eq, decide_eq_false_iff_not] at hy) <;> simp (disch := first | rfl | omega | exact lt_new _ | assumption | decide | (simp [tk_here, tk_app, tk_0, tk_S, gr_here, gr_app, gr_0, gr_S] <;> omega) | fail) only [r25_0, r25_1, r25_2, r25_3, r25_4, r25_5, r25_6, r25_7, r25_9, c25, rs25, gc25, hg, go_sem, ↓reduceIte, Nat.reduceLT, Nat.reduceEqDiff, Nat.reduceAdd, Nat.reduceMul, Nat.reduceSub, Int.reduceAdd, Int.reduceSub, Nat.reduceLeDiff, Int.reduceLT, Int.reduceLE, Int.reduceEq, Int.reduceNeg, Int.reduceToNat, hy])
    all_goals (try ((first | refine finQ_same ?_ | refine finQ_app ?_ | (rw [List.append_assoc]; refine finQ_app ?_)) <;> simp (disch := first | rfl | omega | exact lt_new _ | assumption | decide | (simp [tk_here, tk_app, tk_0, tk_S, gr_here, gr_app, gr_0, gr_S] <;> omega) | fail) only [go_sem, ↓reduceIte, Nat.reduceLT, Nat.reduceEqDiff, Nat.reduceAdd, Nat.reduceMul, Nat.reduceSub, Int.reduceAdd, Int.reduceSub, Nat.reduceLeDiff, Int.reduceLT, Int.reduceLE, Int.reduceEq, Int.reduceNeg, Int.reduceToNat, List.append_assoc, List.cons_append, List.nil_append, *]))
    all_goals (try first | rfl | (simp [*]; done) | grind)
  simp (disch := first | rfl | omega | exact lt_new _ | assumption | decide | (simp [tk_here, tk_app, tk_0, tk_S, gr_here, gr_app, gr_0, gr_S] <;> omega) | fail) only [r25_0, r25_1, r25_2, r25_3, r25_4, r25_5, r25_6, r25_7, r25_9, c25, rs25, gc25, hg, go_sem, ↓reduceIte, Nat.reduceLT, Nat.reduceEqDiff, Nat.reduceAdd, Nat.reduceMul, Nat.reduceSub, Int.reduceAdd, Int.reduceSub, Nat.reduceLeDiff, Int.reduceLT, Int.reduceLE, Int.reduceEq, Int.reduceNeg, Int.reduceToNat]
  repeat' ((first | refine guardB_dec (fun hy => ?_) (fun hy => ?_) | refine guardB_bool (fun hy => ?_) (fun hy => ?_) | refine guardQ_ite (fun hy => ?_) (fun hy => ?_) | refine brQ_dec (fun hy => ?_) (fun hy => ?_) | refine brQ_bool (fun hy => ?_) (fun hy => ?_)) <;> (try simp only [Bool.not_eq_true', Bool.not_eq_false', Bool.and_eq_true, Bool.or_eq_false_iff, decide_eq_true_eq, decide_eq_false_iff_not] at hy) <;> simp (disch := first | rfl | omega | exact lt_new _ | assumption | decide | (simp [tk_here, tk_app, tk_0, tk_S, gr_here, gr_app, gr_0, gr_S] <;> omega) | fail) only [r25_0, r25_1, r25_2, r25_3, r25_4, r25_5, r25_6, r25_7, r25_9, c25, rs25, gc25, hg, go_sem, ↓reduceIte, Nat.reduceLT, Nat.reduceEqDiff, Nat.reduceAdd, Nat.reduceMul, Nat.reduceSub, Int.reduceAdd, Int.reduceSub, Nat.reduceLeDiff, Int.reduceLT, Int.reduceLE, Int.reduceEq, Int.reduceNeg, Int.reduceToNat, hy])
  refine Wp_loop (fun m T D H' => ∃ i, m = l.length - i ∧ i ≤ l.length ∧ D = [] ∧ H' = H ∧ get T 0 = slV b inE l ∧ get T 1 = slV b' inE l' ∧ get T 5 = .int .i64 i ∧ sameL (fun x y => decide (x = y)) l l' = sameL (fun x y => decide (x = y)) (l.drop i) (l'.drop i)) ?_ l.length _ _ _ ?_
  case refine_2 => exact ⟨0, by simp (disch := first | rfl | omega | exact lt_new _ | assumption | decide | (simp [tk_here, tk_app, tk_0, tk_S, gr_here, gr_app, gr_0, gr_S] <;> omega) | fail) only [go_sem, ↓reduceIte, Nat.reduceLT, Nat.reduceEqDiff, Nat.reduceAdd, Nat.reduceMul, Nat.reduceSub, Int.reduceAdd, Int.reduceSub, Nat.reduceLeDiff, Int.reduceLT, Int.reduceLE, Int.reduceEq, Int.reduceNeg, Int.reduceToNat]; simp⟩
  rintro m T D H' ⟨i, rfl, hi, rfl, rfl, t0, t1, t5, hs⟩
  by_cases hlt : i < l.length
  · have hlt' : (i : Int) < l.length := by omega
    have hlt3 : i < l'.length := by omega
    have hlt2 : (i : Int) < l'.length := by omega
    rw [sameL_drop inE hlt hlt3] at hs
    by_cases hq : inE.at l i = inE.at l' i
    · rw [decide_eq_true hq, Bool.true_and] at hs
      simp (disch := first | rfl | omega | exact lt_new _ | assumption | decide | (simp [tk_here, tk_app, tk_0, tk_S, gr_here, gr_app, gr_0, gr_S] <;> omega) | fail) only [l25_8, r25_4, r25_5, r25_7, t0, t1, t5, hlt', hq, go_sem, ↓reduceIte, Nat.reduceLT, Nat.reduceEqDiff, Nat.reduceAdd, Nat.reduceMul, Nat.reduceSub, Int.reduceAdd, Int.reduceSub, Nat.reduceLeDiff, Int.reduceLT, Int.reduceLE, Int.reduceEq, Int.reduceNeg, Int.reduceToNat]
      repeat' ((first | refine guardB_dec (fun hy => ?_) (fun hy => ?_) | refine guardB_bool (fun hy => ?_) (fun hy => ?_) | refine guardQ_ite (fun hy => ?_) (fun hy => ?_) | refine brQ_dec (fun hy => ?_) (fun hy => ?_) | refine brQ_bool (fun hy => ?_) (fun hy => ?_)) <;> (try simp only [Bool.not_eq_true', Bool.not_eq_false', Bool.and_eq_true, Bool.or_eq_false_iff, decide_eq_true_eq, decide_eq_false_iff_not] at hy) <;> simp (disch := first | rfl | omega | exact lt_new _ | assumption | decide | (simp [tk_here, tk_app, tk_0, tk_S, gr_here, gr_app, gr_0, gr_S] <;> omega) | fail) only [l25_8, r25_4, r25_5, r25_7, t0, t1, t5, hlt', hq, go_sem, ↓reduceIte, Nat.reduceLT, Nat.reduceEqDiff, Nat.reduceAdd, Nat.reduceMul, Nat.reduceSub, Int.reduceAdd, Int.reduceSub, Nat.reduceLeDiff, Int.reduceLT, Int.reduceLE, Int.reduceEq, Int.reduceNeg, Int.reduceToNat, hy])
      exact ⟨_, by omega, i + 1, rfl, hlt, rfl, hs⟩
    · rw [decide_eq_false hq, Bool.false_and] at hs
      simp (disch := first | rfl | omega | exact lt_new _ | assumption | decide | (simp [tk_here, tk_app, tk_0, tk_S, gr_here, gr_app, gr_0, gr_S] <;> omega) | fail) only [l25_8, r25_4, r25_5, r25_6, rs25, gc25, t0, t1, t5, hlt', hq, go_sem, ↓reduceIte, Nat.reduceLT, Nat.reduceEqDiff, Nat.reduceAdd, Nat.reduceMul, Nat.reduceSub, Int.reduceAdd, Int.reduceSub, Nat.reduceLeDiff, Int.reduceLT, Int.reduceLE, Int.reduceEq, Int.reduceNeg, Int.reduceToNat]
      repeat' ((first | refine guardB_dec (fun hy => ?_) (fun hy => ?_) | refine guardB_bool (fun hy => ?_) (fun hy => ?_) | refine guardQ_ite (fun hy => ?_) (fun hy => ?_) | refine brQ_dec (fun hy => ?_) (fun hy => ?_) | refine brQ_bool (fun hy => ?_) (fun hy => ?_)) <;> (try simp only [Bool.not_eq_true', Bool.not_eq_false', Bool.and_eq_true, Bool.or_eq_false_iff, decide_eq_true_eq, decide_eq_false_iff_not] at hy) <;> simp (disch := first | rfl | omega | exact lt_new _ | assumption | decide | (simp [tk_here, tk_app, tk_0, tk_S, gr_here, gr_app, gr_0, gr_S] <;> omega) | fail) only [l25_8, r25_4, r25_5, r25_6, rs25, gc25, t0, t1, t5, hlt', hq, go_sem, ↓reduceIte, Nat.reduceLT, Nat.reduceEqDiff, Nat.reduceAdd, Nat.reduceMul, Nat.reduceSub, Int.reduceAdd, Int.reduceSub, Nat.reduceLeDiff, Int.reduceLT, Int.reduceLE, Int.reduceEq, Int.reduceNeg, Int.reduceToNat, hy])
      exact finQ_same (by simp (disch := first | rfl | omega | exact lt_new _ | assumption | decide | (simp [tk_here, tk_app, tk_0, tk_S, gr_here, gr_app, gr_0, gr_S] <;> omega) | fail) only [go_sem, ↓reduceIte, Nat.reduceLT, Nat.reduceEqDiff, Nat.reduceAdd, Nat.reduceMul, Nat.reduceSub, Int.reduceAdd, Int.reduceSub, Nat.reduceLeDiff, Int.reduceLT, Int.reduceLE, Int.reduceEq, Int.reduceNeg, Int.reduceToNat, hs])
  · obtain rfl : i = l.length := by omega
    have hs1 : sameL (fun x y => decide (x = y)) l l' = true := by rw [hs, List.drop_length, List.drop_eq_nil_of_le (by omega)]; rfl
    simp (disch := first | rfl | omega | exact lt_new _ | assumption | decide | (simp [tk_here, tk_app, tk_0, tk_S, gr_here, gr_app, gr_0, gr_S] <;> omega) | fail) only [l25_8, r25_4, r25_9, rs25, gc25, t0, t1, t5, Int.lt_irrefl, go_sem, ↓reduceIte, Nat.reduceLT, Nat.reduceEqDiff, Nat.reduceAdd, Nat.reduceMul, Nat.reduceSub, Int.reduceAdd, Int.reduceSub, Nat.reduceLeDiff, Int.reduceLT, Int.reduceLE, Int.reduceEq, Int.reduceNeg, Int.reduceToNat]
    repeat' ((first | refine guardB_dec (fun hy => ?_) (fun hy => ?_) | refine guardB_bool (fun hy => ?_) (fun hy => ?_) | refine guardQ_ite (fun hy => ?_) (fun hy => ?_) | refine brQ_dec (fun hy => ?_) (fun hy => ?_) | refine brQ_bool (fun hy => ?_) (fun hy => ?_)) <;> (try simp only [Bool.not_eq_true', Bool.not_eq_false', Bool.and_eq_true, Bool.or_eq_false_iff, decide_eq_true_eq, decide_eq_false_iff_not] at hy) <;> simp (disch := first | rfl | omega | exact lt_new _ | assumption | decide | (simp [tk_here, tk_app, tk_0, tk_S, gr_here, gr_app, gr_0, gr_S] <;> omega) | fail) only [l25_8, r25_4, r25_9, rs25, gc25, t0, t1, t5, Int.lt_irrefl, go_sem, ↓reduceIte, Nat.reduceLT, Nat.reduceEqDiff, Nat.reduceAdd, Nat.reduceMul, Nat.reduceSub, Int.reduceAdd, Int.reduceSub, Nat.reduceLeDiff, Int.reduceLT, Int.reduceLE, Int.reduceEq, Int.reduceNeg, Int.reduceToNat, hy])
    exact finQ_same (by simp (disch := first | rfl | omega | exact lt_new _ | assumption | decide | (simp [tk_here, tk_app, tk_0, tk_S, gr_here, gr_app, gr_0, gr_S] <;> omega) | fail) only [go_sem, ↓reduceIte, Nat.reduceLT, Nat.reduceEqDiff, Nat.reduceAdd, Nat.reduceMul, Nat.reduceSub, Int.reduceAdd, Int.reduceSub, Nat.reduceLeDiff, Int.reduceLT, Int.reduceLE, Int.reduceEq, Int.reduceNeg, Int.reduceToNat, hs1])
theorem smR_len (l : List Int) (n : Int) : (smR l n).1.length ≤ l.length := by
  unfold smR
  split
  · simp
  · split
    · simp
    · rw [smF_len]; exact Nat.le_refl _
theorem hisR_len (l B : List Int) : (hisR l B).1.length ≤ B.length + 1 := by
  unfold hisR
  split
  · simp
  · split
    · simp
    · rw [hst_len]; exact Nat.le_refl _
set_option maxHeartbeats 4000000 in
theorem fn9 (b b' : Bool) (l B : List Int) (n num den : Int) (h1 : l.length ≤ 2 ^ 47) (h2 : B.length ≤ 2 ^ 47) (H : Hp) : callL Tryz.prog pr 9 [slV b inE l, slV b' inE B, .agg [.int .i64 n, .int .i64 num, .int .i64 den]] H = some (.bool true, H) := by
  have h26 := fn26 b l n (by omega)
  have h27 := fn27 b l n (by omega)
  have h28 := fn28 b b' l B (by omega) (by omega)
  have h29 := fn29 b b' l B (by omega) (by omega)
  have h30 := fn30 b l num den (by omega)
  have h31 := fn31 b l num den (by omega)
  have hk := known_call
  have hl1 := smR_len l n
  have hl2 := hisR_len l B
  obtain ⟨r, hr⟩ : ∃ r, smR l n = r := ⟨_, rfl⟩
  obtain ⟨s, hs⟩ : ∃ s, hisR l B = s := ⟨_, rfl⟩
  obtain ⟨q, hq⟩ : ∃ q, quaR l num den = q := ⟨_, rfl⟩
  rw [hr] at h26 h27 hl1
  rw [hs] at h28 h29 hl2
  rw [hq] at h30 h31
  have h25r := fun H => fn25 (b := true) (b' := true) (l := r.1) (l' := r.1) (by omega) H
  have h25s := fun H => fn25 (b := true) (b' := true) (l := s.1) (l' := s.1) (by omega) H
  refine run9 (Nat.le_of_ble_eq_true rfl) ?_
  by_cases ha : (20000 : Int) < l.length + B.length
  · skip
    simp (disch := first | rfl | omega | exact lt_new _ | assumption | decide | (simp [tk_here, tk_app, tk_0, tk_S, gr_here, gr_app, gr_0, gr_S] <;> omega) | fail) only [r9_0, r9_1, r9_2, r9_3, r9_4, r9_5, r9_6, r9_7, r9_8, r9_9, c9, rs9, gc9, ha, hk, go_sem, ↓reduceIte, Nat.reduceLT, Nat.reduceEqDiff, Nat.reduceAdd, Nat.reduceMul, Nat.reduceSub, Int.reduceAdd, Int.reduceSub, Nat.reduceLeDiff, Int.reduceLT, Int.reduceLE, Int.reduceEq, Int.reduceNeg, Int.reduceToNat]
    repeat' ((first | refine guardB_dec (fun hy => ?_) (fun hy => ?_) | refine guardB_bool (fun hy => ?_) (fun hy => ?_) | refine guardQ_ite (fun hy => ?_) (fun hy => ?_) | refine brQ_dec (fun hy => ?_) (fun hy => ?_) | refine brQ_bool (fun hy => ?_) (fun hy => ?_)) <;> (try simp only [Bool.not_eq_true', Bool.not_eq_false', Bool.and_eq_true, Bool.or_eq_false_iff, decide_eq_true_eq, decide_eq_false_iff_not] at hy) <;> simp (disch := first | rfl | omega | exact lt_new _ | assumption | decide | (simp [tk_here, tk_app, tk_0, tk_S, gr_here, gr_app, gr_0, gr_S] <;> omega) | fail) only [r9_0, r9_1, r9_2, r9_3, r9_4, r9_5, r9_6, r9_7, r9_8, r9_9, c9, rs9, gc9, ha, hk, go_sem, ↓reduceIte, Nat.reduceLT, Nat.reduceEqDiff, Nat.reduceAdd, Nat.reduceMul, Nat.reduceSub, Int.reduceAdd, Int.reduceSub, Nat.reduceLeDiff, Int.reduceLT, Int.reduceLE, Int.reduceEq, Int.reduceNeg, Int.reduceToNat, hy])
    all_goals (try ((first | refine finQ_same ?_ | refine finQ_app ?_ | (rw [List.append_assoc]; refine finQ_app ?_)) <;> simp (disch := first | rfl | omega | exact lt_new _ | assumption | decide | (simp [tk_here, tk_app, tk_0, tk_S, gr_here, gr_app, gr_0, gr_S] <;> omega) | fail) only [go_sem, ↓reduceIte, Nat.reduceLT, Nat.reduceEqDiff, Nat.reduceAdd, Nat.reduceMul, Nat.reduceSub, Int.reduceAdd, Int.reduceSub, Nat.reduceLeDiff, Int.reduceLT, Int.reduceLE, Int.reduceEq, Int.reduceNeg, Int.reduceToNat, List.append_assoc, List.cons_append, List.nil_append, *]))
    all_goals (try first | rfl | (simp [*]; done) | grind)
  simp (disch := first | rfl | omega | exact lt_new _ | assumption | decide | (simp [tk_here, tk_app, tk_0, tk_S, gr_here, gr_app, gr_0, gr_S] <;> omega) | fail) only [r9_0, r9_1, r9_2, r9_3, r9_4, r9_5, r9_6, r9_7, r9_8, r9_9, c9, rs9, gc9, ha, h26, h27, h28, h29, h30, h31, h25r, h25s, hk, go_sem, ↓reduceIte, Nat.reduceLT, Nat.reduceEqDiff, Nat.reduceAdd, Nat.reduceMul, Nat.reduceSub, Int.reduceAdd, Int.reduceSub, Nat.reduceLeDiff, Int.reduceLT, Int.reduceLE, Int.reduceEq, Int.reduceNeg, Int.reduceToNat]
  repeat' ((first | refine guardB_dec (fun hy => ?_) (fun hy => ?_) | refine guardB_bool (fun hy => ?_) (fun hy => ?_) | refine guardQ_ite (fun hy => ?_) (fun hy => ?_) | refine brQ_dec (fun hy => ?_) (fun hy => ?_) | refine brQ_bool (fun hy => ?_) (fun hy => ?_)) <;> (try simp only [Bool.not_eq_true', Bool.not_eq_false', Bool.and_eq_true, Bool.or_eq_false_iff, decide_eq_true_eq, decide_eq_false_iff_not] at hy) <;> simp (disch := first | rfl | omega | exact lt_new _ | assumption | decide | (simp [tk_here, tk_app, tk_0, tk_S, gr_here, gr_app, gr_0, gr_S] <;> omega) | fail) only [r9_0, r9_1, r9_2, r9_3, r9_4, r9_5, r9_6, r9_7, r9_8, r9_9, c9, rs9, gc9, ha, h26, h27, h28, h29, h30, h31, h25r, h25s, hk, go_sem, ↓reduceIte, Nat.reduceLT, Nat.reduceEqDiff, Nat.reduceAdd, Nat.reduceMul, Nat.reduceSub, Int.reduceAdd, Int.reduceSub, Nat.reduceLeDiff, Int.reduceLT, Int.reduceLE, Int.reduceEq, Int.reduceNeg, Int.reduceToNat, hy])
  all_goals (try ((first | refine finQ_same ?_ | refine finQ_app ?_ | (rw [List.append_assoc]; refine finQ_app ?_)) <;> simp (disch := first | rfl | omega | exact lt_new _ | assumption | decide | (simp [tk_here, tk_app, tk_0, tk_S, gr_here, gr_app, gr_0, gr_S] <;> omega) | fail) only [go_sem, ↓reduceIte, Nat.reduceLT, Nat.reduceEqDiff, Nat.reduceAdd, Nat.reduceMul, Nat.reduceSub, Int.reduceAdd, Int.reduceSub, Nat.reduceLeDiff, Int.reduceLT, Int.reduceLE, Int.reduceEq, Int.reduceNeg, Int.reduceToNat, List.append_assoc, List.cons_append, List.nil_append, *]))
  all_goals (try first | rfl | (simp [*]; done) | grind)
end Go.Proofs.YteeofpgnjekeaaaGreatDoor
