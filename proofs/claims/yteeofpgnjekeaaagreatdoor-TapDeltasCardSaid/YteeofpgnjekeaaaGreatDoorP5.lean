/-
  Texts of this seat, laid together. No statement of the seat stands here.
-/
import Derived.Test.YteeofpgnjekeaaaGreatDoorP4
/-
  The times since others: both are the same. No statement of the seat stands here.
-/
namespace Go.Proofs.YteeofpgnjekeaaaGreatDoor
open Go Go.An
set_option maxRecDepth 4000
set_option linter.unusedSimpArgs false
set_option linter.unusedVariables false

theorem delF_len (t : List Int) (s : List Bool) : (delF t s).1.length ≤ t.length := by
  unfold delF
  split
  · exact Nat.zero_le _
  · split
    · exact Nat.zero_le _
    · split
      · exact Nat.zero_le _
      · exact Nat.le_of_eq (dels_len t s _)
theorem fn4 (bt bs : Bool) (t : List Int) (s : List Bool) (h1 : t.length ≤ 2 ^ 47) (h2 : s.length ≤ 2 ^ 47) (H : Hp) : callL Tryz.prog pr 4 [slV bt inE t, slV bs boE s] H = some (.bool true, H) := by
  have h17 := fn17 bt bs t s (by omega) (by omega)
  have h18 := fn18 bt bs t s (by omega) (by omega)
  have hk := known_call
  have hl := delF_len t s
  obtain ⟨r, hr⟩ : ∃ r, delF t s = r := ⟨_, rfl⟩
  rw [hr] at h17 h18 hl
  refine run4 (Nat.le_of_ble_eq_true rfl) ?_
  by_cases ha : (20000 : Int) < t.length + s.length
  · skip
    simp (disch := first | rfl | omega | exact lt_new _ | assumption | decide | (simp [tk_here, tk_app, tk_0, tk_S, gr_here, gr_app, gr_0, gr_S] <;> omega) | fail) only [r4_0, r4_1, r4_2, r4_3, r4_4, r4_5, r4_6, r4_7, r4_8, r4_9, r4_10, r4_11, r4_13, c4, rs4, gc4, ha, hk, go_sem, ↓reduceIte, Nat.reduceLT, Nat.reduceEqDiff, Nat.reduceAdd, Nat.reduceMul, Nat.reduceSub, Int.reduceAdd, Int.reduceSub, Nat.reduceLeDiff, Int.reduceLT, Int.reduceLE, Int.reduceEq, Int.reduceNeg, Int.reduceToNat]
    repeat' ((first | refine guardB_dec (fun hy => ?_) (fun hy => ?_) | refine guardB_bool (fun hy => ?_) (fun hy => ?_) | refine guardQ_ite (fun hy => ?_) (fun hy => ?_) | refine brQ_dec (fun hy => ?_) (fun hy => ?_) | refine brQ_bool (fun hy => ?_) (fun hy => ?_)) <;> (try simp only [Bool.not_eq_true', Bool.not_eq_false', Bool.and_eq_true, Bool.or_eq_false_iff, decide_eq_true_eq, decide_eq_false_iff_not] at hy) <;> simp (disch := first | rfl | omega | exact lt_new _ | assumption | decide | (simp [tk_here, tk_app, tk_0, tk_S, gr_here, gr_app, gr_0, gr_S] <;> omega) | fail) only [r4_0, r4_1, r4_2, r4_3, r4_4, r4_5, r4_6, r4_7, r4_8, r4_9, r4_10, r4_11, r4_13, c4, rs4, gc4, ha, hk, go_sem, ↓reduceIte, Nat.reduceLT, Nat.reduceEqDiff, Nat.reduceAdd, Nat.reduceMul, Nat.reduceSub, Int.reduceAdd, Int.reduceSub, Nat.reduceLeDiff, Int.reduceLT, Int.reduceLE, Int.reduceEq, Int.reduceNeg, Int.reduceToNat, hy])
    all_goals (try ((first | refine finQ_same ?_ | refine finQ_app ?_ | (rw [List.append_assoc]; refine finQ_app ?_)) <;> simp (disch := first | rfl | omega | exact lt_new _ | assumption | decide | (simp [tk_here, tk_app, tk_0, tk_S, gr_here, gr_app, gr_0, gr_S] <;> omega) | fail) only [go_sem, ↓reduceIte, Nat.reduceLT, Nat.reduceEqDiff, Nat.reduceAdd, Nat.reduceMul, Nat.reduceSub, Int.reduceAdd, Int.reduceSub, Nat.reduceLeDiff, Int.reduceLT, Int.reduceLE, Int.reduceEq, Int.reduceNeg, Int.reduceToNat, List.append_assoc, List.cons_append, List.nil_append, *]))
    all_goals (try first | rfl | (simp [*]; done) | grind)
  simp (disch := first | rfl | omega | exact lt_new _ | assumption | decide | (simp [tk_here, tk_app, tk_0, tk_S, gr_here, gr_app, gr_0, gr_S] <;> omega) | fail) only [r4_0, r4_1, r4_2, r4_3, r4_4, r4_5, r4_6, r4_7, r4_8, r4_9, r4_10, r4_11, r4_13, c4, rs4, gc4, ha, h17, h18, go_sem, ↓reduceIte, Nat.reduceLT, Nat.reduceEqDiff, Nat.reduceAdd, Nat.reduceMul, Nat.reduceSub, Int.reduceAdd, Int.reduceSub, Nat.reduceLeDiff, Int.reduceLT, Int.reduceLE, Int.reduceEq, Int.reduceNeg, Int.reduceToNat]
  repeat' ((first | refine guardB_dec (fun hy => ?_) (fun hy => ?_) | refine guardB_bool (fun hy => ?_) (fun hy => ?_) | refine guardQ_ite (fun hy => ?_) (fun hy => ?_) | refine brQ_dec (fun hy => ?_) (fun hy => ?_) | refine brQ_bool (fun hy => ?_) (fun hy => ?_)) <;> (try simp only [Bool.not_eq_true', Bool.not_eq_false', Bool.and_eq_true, Bool.or_eq_false_iff, decide_eq_true_eq, decide_eq_false_iff_not] at hy) <;> simp (disch := first | rfl | omega | exact lt_new _ | assumption | decide | (simp [tk_here, tk_app, tk_0, tk_S, gr_here, gr_app, gr_0, gr_S] <;> omega) | fail) only [r4_0, r4_1, r4_2, r4_3, r4_4, r4_5, r4_6, r4_7, r4_8, r4_9, r4_10, r4_11, r4_13, c4, rs4, gc4, ha, h17, h18, go_sem, ↓reduceIte, Nat.reduceLT, Nat.reduceEqDiff, Nat.reduceAdd, Nat.reduceMul, Nat.reduceSub, Int.reduceAdd, Int.reduceSub, Nat.reduceLeDiff, Int.reduceLT, Int.reduceLE, Int.reduceEq, Int.reduceNeg, Int.reduceToNat, hy])
  refine Wp_loop (fun m T D H' => ∃ i, m = r.1.length - i ∧ i ≤ r.1.length ∧ D = [] ∧ H' = H ∧ get T 5 = slV true trE r.1 ∧ get T 7 = slV true trE r.1 ∧ get T 9 = .int .i64 i) ?_ r.1.length _ _ _ ?_
  case refine_2 => exact ⟨0, by simp (disch := first | rfl | omega | exact lt_new _ | assumption | decide | (simp [tk_here, tk_app, tk_0, tk_S, gr_here, gr_app, gr_0, gr_S] <;> omega) | fail) only [go_sem, ↓reduceIte, Nat.reduceLT, Nat.reduceEqDiff, Nat.reduceAdd, Nat.reduceMul, Nat.reduceSub, Int.reduceAdd, Int.reduceSub, Nat.reduceLeDiff, Int.reduceLT, Int.reduceLE, Int.reduceEq, Int.reduceNeg, Int.reduceToNat]; simp⟩
  rintro m T D _ ⟨i, rfl, hi, rfl, rfl, t5, t7, t9⟩
  by_cases hlt : i < r.1.length
  · have hlt' : (i : Int) < r.1.length := by omega
    simp (disch := first | rfl | omega | exact lt_new _ | assumption | decide | (simp [tk_here, tk_app, tk_0, tk_S, gr_here, gr_app, gr_0, gr_S] <;> omega) | fail) only [l4_12, r4_8, r4_9, r4_10, r4_11, loadV_ptr, storeV_ptr, List.append_assoc, List.length_append, List.length_cons, List.length_nil, List.set_cons_zero, List.set_cons_succ, tk_here, tk_app, gr_here, gr_app, st_here, st_app, t5, t7, t9, hlt', go_sem, ↓reduceIte, Nat.reduceLT, Nat.reduceEqDiff, Nat.reduceAdd, Nat.reduceMul, Nat.reduceSub, Int.reduceAdd, Int.reduceSub, Nat.reduceLeDiff, Int.reduceLT, Int.reduceLE, Int.reduceEq, Int.reduceNeg, Int.reduceToNat]
    repeat' ((first | refine guardB_dec (fun hy => ?_) (fun hy => ?_) | refine guardB_bool (fun hy => ?_) (fun hy => ?_) | refine guardQ_ite (fun hy => ?_) (fun hy => ?_) | refine brQ_dec (fun hy => ?_) (fun hy => ?_) | refine brQ_bool (fun hy => ?_) (fun hy => ?_)) <;> (try simp only [Bool.not_eq_true', Bool.not_eq_false', Bool.and_eq_true, Bool.or_eq_false_iff, decide_eq_true_eq, decide_eq_false_iff_not] at hy) <;> simp (disch := first | rfl | omega | exact lt_new _ | assumption | decide | (simp [tk_here, tk_app, tk_0, tk_S, gr_here, gr_app, gr_0, gr_S] <;> omega) | fail) only [l4_12, r4_8, r4_9, r4_10, r4_11, loadV_ptr, storeV_ptr, List.append_assoc, List.length_append, List.length_cons, List.length_nil, List.set_cons_zero, List.set_cons_succ, tk_here, tk_app, gr_here, gr_app, st_here, st_app, t5, t7, t9, hlt', go_sem, ↓reduceIte, Nat.reduceLT, Nat.reduceEqDiff, Nat.reduceAdd, Nat.reduceMul, Nat.reduceSub, Int.reduceAdd, Int.reduceSub, Nat.reduceLeDiff, Int.reduceLT, Int.reduceLE, Int.reduceEq, Int.reduceNeg, Int.reduceToNat, hy])
    exact ⟨_, by omega, i + 1, rfl, hlt, rfl⟩
  · obtain rfl : i = r.1.length := by omega
    simp (disch := first | rfl | omega | exact lt_new _ | assumption | decide | (simp [tk_here, tk_app, tk_0, tk_S, gr_here, gr_app, gr_0, gr_S] <;> omega) | fail) only [l4_12, r4_8, r4_13, rs4, gc4, loadV_ptr, storeV_ptr, List.append_assoc, List.length_append, List.length_cons, List.length_nil, List.set_cons_zero, List.set_cons_succ, tk_here, tk_app, gr_here, gr_app, st_here, st_app, t5, t7, t9, Int.lt_irrefl, hk, go_sem, ↓reduceIte, Nat.reduceLT, Nat.reduceEqDiff, Nat.reduceAdd, Nat.reduceMul, Nat.reduceSub, Int.reduceAdd, Int.reduceSub, Nat.reduceLeDiff, Int.reduceLT, Int.reduceLE, Int.reduceEq, Int.reduceNeg, Int.reduceToNat]
    repeat' ((first | refine guardB_dec (fun hy => ?_) (fun hy => ?_) | refine guardB_bool (fun hy => ?_) (fun hy => ?_) | refine guardQ_ite (fun hy => ?_) (fun hy => ?_) | refine brQ_dec (fun hy => ?_) (fun hy => ?_) | refine brQ_bool (fun hy => ?_) (fun hy => ?_)) <;> (try simp only [Bool.not_eq_true', Bool.not_eq_false', Bool.and_eq_true, Bool.or_eq_false_iff, decide_eq_true_eq, decide_eq_false_iff_not] at hy) <;> simp (disch := first | rfl | omega | exact lt_new _ | assumption | decide | (simp [tk_here, tk_app, tk_0, tk_S, gr_here, gr_app, gr_0, gr_S] <;> omega) | fail) only [l4_12, r4_8, r4_13, rs4, gc4, loadV_ptr, storeV_ptr, List.append_assoc, List.length_append, List.length_cons, List.length_nil, List.set_cons_zero, List.set_cons_succ, tk_here, tk_app, gr_here, gr_app, st_here, st_app, t5, t7, t9, Int.lt_irrefl, hk, go_sem, ↓reduceIte, Nat.reduceLT, Nat.reduceEqDiff, Nat.reduceAdd, Nat.reduceMul, Nat.reduceSub, Int.reduceAdd, Int.reduceSub, Nat.reduceLeDiff, Int.reduceLT, Int.reduceLE, Int.reduceEq, Int.reduceNeg, Int.reduceToNat, hy])
    all_goals (try ((first | refine finQ_same ?_ | refine finQ_app ?_ | (rw [List.append_assoc]; refine finQ_app ?_)) <;> simp (disch := first | rfl | omega | exact lt_new _ | assumption | decide | (simp [tk_here, tk_app, tk_0, tk_S, gr_here, gr_app, gr_0, gr_S] <;> omega) | fail) only [go_sem, ↓reduceIte, Nat.reduceLT, Nat.reduceEqDiff, Nat.reduceAdd, Nat.reduceMul, Nat.reduceSub, Int.reduceAdd, Int.reduceSub, Nat.reduceLeDiff, Int.reduceLT, Int.reduceLE, Int.reduceEq, Int.reduceNeg, Int.reduceToNat, List.append_assoc, List.cons_append, List.nil_append, *]))
    all_goals (try first | rfl | (simp [*]; done) | grind)
end Go.Proofs.YteeofpgnjekeaaaGreatDoor
