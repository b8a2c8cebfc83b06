/-
  Texts of this seat, laid together. No statement of the seat stands here.
-/
import Derived.Test.YtejkgnmjdaohdaaP5
/-
  Validate of the reference, walked. No statement of the seat stands here.
-/
namespace Go.Proofs.Ytejkgnmjdaohdaa
open Go Go.An
set_option maxRecDepth 4000
set_option linter.unusedSimpArgs false
set_option linter.unusedVariables false

theorem ix_str {l : List UInt8} {i : Nat} (h : i < l.length) : indexV Try.prog 9 (.str l) (.int .i64 i) = some (.int .u8 (byE.at l i).toNat) := by
  simp [indexV, u9, byE.at_some h]
theorem fn149 (s : List UInt8) (hs : s.length ≤ 2 ^ 62) (H : Hp) : callL Try.prog pr 149 [.str s] H = some (.bool (txB s), H) := by
  have hl : ∀ H, lenV Try.prog 9 H (.str s) = some (.int .i64 s.length) := fun H => by simp [lenV, u9, hs]
  refine run149 (Nat.le_of_ble_eq_true rfl) ?_
  simp (disch := first | rfl | omega | exact lt_new _ | assumption | decide | (simp [tk_here, tk_app, tk_0, tk_S, gr_here, gr_app, gr_0, gr_S] <;> omega) | fail) only [r149_0, r149_1, r149_2, r149_3, r149_4, r149_5, r149_7, c149, rs149, gc149, go_sem, ↓reduceIte, Nat.reduceLT, Nat.reduceEqDiff, Nat.reduceAdd, Nat.reduceMul, Nat.reduceSub, Int.reduceAdd, Int.reduceSub, Nat.reduceLeDiff, Int.reduceLT, Int.reduceLE, Int.reduceEq, Int.reduceNeg, Int.reduceToNat]
  refine Wp_loop (fun m T D H' => ∃ i, m = s.length - i ∧ i ≤ s.length ∧ D = [] ∧ H' = H ∧ get T 0 = .str s ∧ get T 3 = .int .i64 i ∧ (s.take i).any badC = false) ?_ s.length _ _ _ ?_
  · rintro m T D H' ⟨i, rfl, hi, rfl, rfl, t0, t3, hb⟩
    by_cases hlt : i < s.length
    · have hlt' : (i : Int) < s.length := by omega
      have hx := ix_str hlt
      obtain ⟨c, hc⟩ : ∃ c, byE.at s i = c := ⟨_, rfl⟩
      rw [hc] at hx
      by_cases hq : badC c = true
      · have hF : txB s = false := by unfold txB; rw [any_mem byE hlt (by rw [hc]; exact hq)]; simp
        have hq2 : ¬ (c.toNat : Int) < 32 → (126 : Int) < c.toNat := by
          unfold badC at hq; simp at hq; omega
        simp (disch := first | rfl | omega | exact lt_new _ | assumption | decide | (simp [tk_here, tk_app, tk_0, tk_S, gr_here, gr_app, gr_0, gr_S] <;> omega) | fail) only [r149_0, r149_1, r149_2, r149_3, r149_4, r149_5, l149_6, r149_7, c149, rs149, gc149, t0, t3, hl, hlt', hx, hF, hq2, go_sem, ↓reduceIte, Nat.reduceLT, Nat.reduceEqDiff, Nat.reduceAdd, Nat.reduceMul, Nat.reduceSub, Int.reduceAdd, Int.reduceSub, Nat.reduceLeDiff, Int.reduceLT, Int.reduceLE, Int.reduceEq, Int.reduceNeg, Int.reduceToNat]
        repeat' ((first | refine guardB_dec (fun hy => ?_) (fun hy => ?_) | refine guardB_bool (fun hy => ?_) (fun hy => ?_) | refine guardQ_ite (fun hy => ?_) (fun hy => ?_) | refine brQ_dec (fun hy => ?_) (fun hy => ?_) | refine brQ_bool (fun hy => ?_) (fun hy => ?_)) <;> (try simp only [Bool.not_eq_true', Bool.not_eq_false', Bool.and_eq_true, Bool.or_eq_false_iff, decide_eq_true_eq, decide_eq_false_iff_not] at hy) <;> simp (disch := first | rfl | omega | exact lt_new _ | assumption | decide | (simp [tk_here, tk_app, tk_0, tk_S, gr_here, gr_app, gr_0, gr_S] <;> omega) | fail) only [r149_0, r149_1, r149_2, r149_3, r149_4, r149_5, l149_6, r149_7, c149, rs149, gc149, t0, t3, hl, hlt', hx, hF, hq2, go_sem, ↓reduceIte, Nat.reduceLT, Nat.reduceEqDiff, Nat.reduceAdd, Nat.reduceMul, Nat.reduceSub, Int.reduceAdd, Int.reduceSub, Nat.reduceLeDiff, Int.reduceLT, Int.reduceLE, Int.reduceEq, Int.reduceNeg, Int.reduceToNat, hy])
        all_goals (refine finQ_same ?_; simp (disch := first | rfl | omega | exact lt_new _ | assumption | decide | (simp [tk_here, tk_app, tk_0, tk_S, gr_here, gr_app, gr_0, gr_S] <;> omega) | fail) only [go_sem, ↓reduceIte, Nat.reduceLT, Nat.reduceEqDiff, Nat.reduceAdd, Nat.reduceMul, Nat.reduceSub, Int.reduceAdd, Int.reduceSub, Nat.reduceLeDiff, Int.reduceLT, Int.reduceLE, Int.reduceEq, Int.reduceNeg, Int.reduceToNat])
      · have hn := any_none byE hlt hb (by rw [hc]; simpa using hq)
        have hq1 : ¬ (c.toNat : Int) < 32 := by unfold badC at hq; simp at hq; omega
        have hq2 : ¬ (126 : Int) < c.toNat := by unfold badC at hq; simp at hq; omega
        simp (disch := first | rfl | omega | exact lt_new _ | assumption | decide | (simp [tk_here, tk_app, tk_0, tk_S, gr_here, gr_app, gr_0, gr_S] <;> omega) | fail) only [r149_0, r149_1, r149_2, r149_3, r149_4, r149_5, l149_6, r149_7, c149, rs149, gc149, t0, t3, hl, hlt', hx, hq1, hq2, go_sem, ↓reduceIte, Nat.reduceLT, Nat.reduceEqDiff, Nat.reduceAdd, Nat.reduceMul, Nat.reduceSub, Int.reduceAdd, Int.reduceSub, Nat.reduceLeDiff, Int.reduceLT, Int.reduceLE, Int.reduceEq, Int.reduceNeg, Int.reduceToNat]
        repeat' ((first | refine guardB_dec (fun hy => ?_) (fun hy => ?_) | refine guardB_bool (fun hy => ?_) (fun hy => ?_) | refine guardQ_ite (fun hy => ?_) (fun hy => ?_) | refine brQ_dec (fun hy => ?_) (fun hy => ?_) | refine brQ_bool (fun hy => ?_) (fun hy => ?_)) <;> (try simp only [Bool.not_eq_true', Bool.not_eq_false', Bool.and_eq_true, Bool.or_eq_false_iff, decide_eq_true_eq, decide_eq_false_iff_not] at hy) <;> simp (disch := first | rfl | omega | exact lt_new _ | assumption | decide | (simp [tk_here, tk_app, tk_0, tk_S, gr_here, gr_app, gr_0, gr_S] <;> omega) | fail) only [r149_0, r149_1, r149_2, r149_3, r149_4, r149_5, l149_6, r149_7, c149, rs149, gc149, t0, t3, hl, hlt', hx, hq1, hq2, go_sem, ↓reduceIte, Nat.reduceLT, Nat.reduceEqDiff, Nat.reduceAdd, Nat.reduceMul, Nat.reduceSub, Int.reduceAdd, Int.reduceSub, Nat.reduceLeDiff, Int.reduceLT, Int.reduceLE, Int.reduceEq, Int.reduceNeg, Int.reduceToNat, hy])
        exact ⟨_, by omega, i + 1, rfl, hlt, rfl, hn⟩
    · obtain rfl : i = s.length := by omega
      rw [List.take_length] at hb
      have e1 : ((s.length : Int) ≤ 200) = (s.length ≤ 200) := by simp; omega
      simp (disch := first | rfl | omega | exact lt_new _ | assumption | decide | (simp [tk_here, tk_app, tk_0, tk_S, gr_here, gr_app, gr_0, gr_S] <;> omega) | fail) only [r149_0, r149_1, r149_2, r149_3, r149_4, r149_5, l149_6, r149_7, c149, rs149, gc149, t0, t3, hl, Int.lt_irrefl, go_sem, ↓reduceIte, Nat.reduceLT, Nat.reduceEqDiff, Nat.reduceAdd, Nat.reduceMul, Nat.reduceSub, Int.reduceAdd, Int.reduceSub, Nat.reduceLeDiff, Int.reduceLT, Int.reduceLE, Int.reduceEq, Int.reduceNeg, Int.reduceToNat]
      repeat' ((first | refine guardB_dec (fun hy => ?_) (fun hy => ?_) | refine guardB_bool (fun hy => ?_) (fun hy => ?_) | refine guardQ_ite (fun hy => ?_) (fun hy => ?_) | refine brQ_dec (fun hy => ?_) (fun hy => ?_) | refine brQ_bool (fun hy => ?_) (fun hy => ?_)) <;> (try simp only [Bool.not_eq_true', Bool.not_eq_false', Bool.and_eq_true, Bool.or_eq_false_iff, decide_eq_true_eq, decide_eq_false_iff_not] at hy) <;> simp (disch := first | rfl | omega | exact lt_new _ | assumption | decide | (simp [tk_here, tk_app, tk_0, tk_S, gr_here, gr_app, gr_0, gr_S] <;> omega) | fail) only [r149_0, r149_1, r149_2, r149_3, r149_4, r149_5, l149_6, r149_7, c149, rs149, gc149, t0, t3, hl, Int.lt_irrefl, go_sem, ↓reduceIte, Nat.reduceLT, Nat.reduceEqDiff, Nat.reduceAdd, Nat.reduceMul, Nat.reduceSub, Int.reduceAdd, Int.reduceSub, Nat.reduceLeDiff, Int.reduceLT, Int.reduceLE, Int.reduceEq, Int.reduceNeg, Int.reduceToNat, hy])
      refine finQ_same ?_
      simp (disch := first | rfl | omega | exact lt_new _ | assumption | decide | (simp [tk_here, tk_app, tk_0, tk_S, gr_here, gr_app, gr_0, gr_S] <;> omega) | fail) only [go_sem, ↓reduceIte, Nat.reduceLT, Nat.reduceEqDiff, Nat.reduceAdd, Nat.reduceMul, Nat.reduceSub, Int.reduceAdd, Int.reduceSub, Nat.reduceLeDiff, Int.reduceLT, Int.reduceLE, Int.reduceEq, Int.reduceNeg, Int.reduceToNat, txB, hb, e1]
  · exact ⟨0, by simp [go_sem]⟩
theorem fn150 (p : Pk) (hp : PkOk p) (snap : Int) (H : Hp) : callL Try.prog pr 150 [.agg (pkE.f p), .int .i64 snap] H = some (.bool (pkB p snap), H) := by
  have h149 := fn149 p.note (by have := hp.2.2.2.2; omega)
  have hl := hp.2.2.2.1
  refine run150 (Nat.le_of_ble_eq_true rfl) ?_
  unfold pkB
  simp (disch := first | rfl | omega | exact lt_new _ | assumption | decide | (simp [tk_here, tk_app, tk_0, tk_S, gr_here, gr_app, gr_0, gr_S] <;> omega) | fail) only [r150_0, r150_1, r150_2, r150_3, c150, rs150, gc150, h149, go_sem, ↓reduceIte, Nat.reduceLT, Nat.reduceEqDiff, Nat.reduceAdd, Nat.reduceMul, Nat.reduceSub, Int.reduceAdd, Int.reduceSub, Nat.reduceLeDiff, Int.reduceLT, Int.reduceLE, Int.reduceEq, Int.reduceNeg, Int.reduceToNat]
  repeat' ((first | refine guardB_dec (fun hy => ?_) (fun hy => ?_) | refine guardB_bool (fun hy => ?_) (fun hy => ?_) | refine guardQ_ite (fun hy => ?_) (fun hy => ?_) | refine brQ_dec (fun hy => ?_) (fun hy => ?_) | refine brQ_bool (fun hy => ?_) (fun hy => ?_)) <;> (try simp only [Bool.not_eq_true', Bool.not_eq_false', Bool.and_eq_true, Bool.or_eq_false_iff, decide_eq_true_eq, decide_eq_false_iff_not] at hy) <;> simp (disch := first | rfl | omega | exact lt_new _ | assumption | decide | (simp [tk_here, tk_app, tk_0, tk_S, gr_here, gr_app, gr_0, gr_S] <;> omega) | fail) only [r150_0, r150_1, r150_2, r150_3, c150, rs150, gc150, h149, go_sem, ↓reduceIte, Nat.reduceLT, Nat.reduceEqDiff, Nat.reduceAdd, Nat.reduceMul, Nat.reduceSub, Int.reduceAdd, Int.reduceSub, Nat.reduceLeDiff, Int.reduceLT, Int.reduceLE, Int.reduceEq, Int.reduceNeg, Int.reduceToNat, hy])
  all_goals (try ((first | refine finQ_same ?_ | refine finQ_app ?_ | (rw [List.append_assoc]; refine finQ_app ?_)) <;> simp (disch := first | rfl | omega | exact lt_new _ | assumption | decide | (simp [tk_here, tk_app, tk_0, tk_S, gr_here, gr_app, gr_0, gr_S] <;> omega) | fail) only [go_sem, ↓reduceIte, Nat.reduceLT, Nat.reduceEqDiff, Nat.reduceAdd, Nat.reduceMul, Nat.reduceSub, Int.reduceAdd, Int.reduceSub, Nat.reduceLeDiff, Int.reduceLT, Int.reduceLE, Int.reduceEq, Int.reduceNeg, Int.reduceToNat, List.append_assoc, List.cons_append, List.nil_append, *]))
  all_goals (try first | rfl | (simp [*]; done) | grind)
set_option maxHeartbeats 8000000 in
theorem fn113 (c : Cp) (hc : CpOk c) (H : Hp) : callL Try.prog pr 113 [.agg (cpE.f c)] H = some (.bool (!wrongB c), H) := by
  obtain ⟨o0, o1, o1l, o2, o2l, o3, o3l, o4, o4l⟩ := hc
  have h149 := fn149 c.note (by omega)
  have hwr : ∀ {b : Bool}, wrongB c = b → (!wrongB c) = !b := fun h => by rw [h]
  refine run113 (Nat.le_of_ble_eq_true rfl) ?_
  by_cases h0 : txB c.note = true ∧ ¬ (c.faces.length : Int) < 1
  case neg =>
    have hW : wrongB c = true := by
      unfold wrongB
      by_cases h1 : txB c.note = true
      · have : (c.faces.length : Int) = 0 := by have : ¬ ¬ (c.faces.length : Int) < 1 := fun h => h0 ⟨h1, h⟩; omega
        simp only [this, decide_true, Bool.true_or]
      · simp [h1]
    have h1 : txB c.note = true → (c.faces.length : Int) < 1 := fun h => by
      by_cases h2 : (c.faces.length : Int) < 1
      · exact h2
      · exact absurd ⟨h, h2⟩ h0
    simp (disch := first | rfl | omega | exact lt_new _ | assumption | decide | (simp [tk_here, tk_app, tk_0, tk_S, gr_here, gr_app, gr_0, gr_S] <;> omega) | fail) only [r113_0, r113_1, r113_2, c113, rs113, gc113, loadV_ptr, storeV_ptr, List.append_assoc, List.length_append, List.length_cons, List.length_nil, List.set_cons_zero, List.set_cons_succ, tk_here, tk_app, gr_here, gr_app, st_here, st_app, h149, h1, go_sem, ↓reduceIte, Nat.reduceLT, Nat.reduceEqDiff, Nat.reduceAdd, Nat.reduceMul, Nat.reduceSub, Int.reduceAdd, Int.reduceSub, Nat.reduceLeDiff, Int.reduceLT, Int.reduceLE, Int.reduceEq, Int.reduceNeg, Int.reduceToNat]
    repeat' ((first | refine guardB_dec (fun hy => ?_) (fun hy => ?_) | refine guardB_bool (fun hy => ?_) (fun hy => ?_) | refine guardQ_ite (fun hy => ?_) (fun hy => ?_) | refine brQ_dec (fun hy => ?_) (fun hy => ?_) | refine brQ_bool (fun hy => ?_) (fun hy => ?_)) <;> (try simp only [Bool.not_eq_true', Bool.not_eq_false', Bool.and_eq_true, Bool.or_eq_false_iff, decide_eq_true_eq, decide_eq_false_iff_not] at hy) <;> simp (disch := first | rfl | omega | exact lt_new _ | assumption | decide | (simp [tk_here, tk_app, tk_0, tk_S, gr_here, gr_app, gr_0, gr_S] <;> omega) | fail) only [r113_0, r113_1, r113_2, c113, rs113, gc113, loadV_ptr, storeV_ptr, List.append_assoc, List.length_append, List.length_cons, List.length_nil, List.set_cons_zero, List.set_cons_succ, tk_here, tk_app, gr_here, gr_app, st_here, st_app, h149, h1, go_sem, ↓reduceIte, Nat.reduceLT, Nat.reduceEqDiff, Nat.reduceAdd, Nat.reduceMul, Nat.reduceSub, Int.reduceAdd, Int.reduceSub, Nat.reduceLeDiff, Int.reduceLT, Int.reduceLE, Int.reduceEq, Int.reduceNeg, Int.reduceToNat, hy])
    all_goals (refine finQ_app ?_; simp (disch := first | rfl | omega | exact lt_new _ | assumption | decide | (simp [tk_here, tk_app, tk_0, tk_S, gr_here, gr_app, gr_0, gr_S] <;> omega) | fail) only [go_sem, ↓reduceIte, Nat.reduceLT, Nat.reduceEqDiff, Nat.reduceAdd, Nat.reduceMul, Nat.reduceSub, Int.reduceAdd, Int.reduceSub, Nat.reduceLeDiff, Int.reduceLT, Int.reduceLE, Int.reduceEq, Int.reduceNeg, Int.reduceToNat, hW])
  obtain ⟨h1, h2⟩ := h0
  simp (disch := first | rfl | omega | exact lt_new _ | assumption | decide | (simp [tk_here, tk_app, tk_0, tk_S, gr_here, gr_app, gr_0, gr_S] <;> omega) | fail) only [r113_0, r113_1, r113_3, c113, loadV_ptr, storeV_ptr, List.append_assoc, List.length_append, List.length_cons, List.length_nil, List.set_cons_zero, List.set_cons_succ, tk_here, tk_app, gr_here, gr_app, st_here, st_app, h149, h1, h2, go_sem, ↓reduceIte, Nat.reduceLT, Nat.reduceEqDiff, Nat.reduceAdd, Nat.reduceMul, Nat.reduceSub, Int.reduceAdd, Int.reduceSub, Nat.reduceLeDiff, Int.reduceLT, Int.reduceLE, Int.reduceEq, Int.reduceNeg, Int.reduceToNat]
  repeat' ((first | refine guardB_dec (fun hy => ?_) (fun hy => ?_) | refine guardB_bool (fun hy => ?_) (fun hy => ?_) | refine guardQ_ite (fun hy => ?_) (fun hy => ?_) | refine brQ_dec (fun hy => ?_) (fun hy => ?_) | refine brQ_bool (fun hy => ?_) (fun hy => ?_)) <;> (try simp only [Bool.not_eq_true', Bool.not_eq_false', Bool.and_eq_true, Bool.or_eq_false_iff, decide_eq_true_eq, decide_eq_false_iff_not] at hy) <;> simp (disch := first | rfl | omega | exact lt_new _ | assumption | decide | (simp [tk_here, tk_app, tk_0, tk_S, gr_here, gr_app, gr_0, gr_S] <;> omega) | fail) only [r113_0, r113_1, r113_3, c113, loadV_ptr, storeV_ptr, List.append_assoc, List.length_append, List.length_cons, List.length_nil, List.set_cons_zero, List.set_cons_succ, tk_here, tk_app, gr_here, gr_app, st_here, st_app, h149, h1, h2, go_sem, ↓reduceIte, Nat.reduceLT, Nat.reduceEqDiff, Nat.reduceAdd, Nat.reduceMul, Nat.reduceSub, Int.reduceAdd, Int.reduceSub, Nat.reduceLeDiff, Int.reduceLT, Int.reduceLE, Int.reduceEq, Int.reduceNeg, Int.reduceToNat, hy])
  refine Wp_loop (fun m T D H' => ∃ i G, m = c.faces.length - i ∧ i ≤ c.faces.length ∧ D = [] ∧ H' = H ++ .row 0 (cpE.f c) true :: G ∧ get T 1 = .ptr H.length 0 0 ∧ get T 3 = .int .i64 i ∧ (c.faces.take i).any (fun x => !fcB x) = false) ?_ c.faces.length _ _ _ ?_
  case refine_2 =>
    refine ⟨0, _, rfl, by omega, rfl, rfl, ?_, ?_, rfl⟩
    all_goals simp (disch := first | rfl | omega | exact lt_new _ | assumption | decide | (simp [tk_here, tk_app, tk_0, tk_S, gr_here, gr_app, gr_0, gr_S] <;> omega) | fail) only [go_sem, ↓reduceIte, Nat.reduceLT, Nat.reduceEqDiff, Nat.reduceAdd, Nat.reduceMul, Nat.reduceSub, Int.reduceAdd, Int.reduceSub, Nat.reduceLeDiff, Int.reduceLT, Int.reduceLE, Int.reduceEq, Int.reduceNeg, Int.reduceToNat]
    all_goals first | rfl | (simp; done)
  rintro m T D H' ⟨i, G, rfl, hi, rfl, rfl, t1, tt, hb⟩
  by_cases hlt : i < c.faces.length
  · have hlt' : (i : Int) < c.faces.length := by omega
    have ld := fun H => ldF (H := H) hlt
    have hmem := fcE.at_mem hlt
    obtain ⟨x, hx⟩ : ∃ x, fcE.at c.faces i = x := ⟨_, rfl⟩
    rw [hx] at ld hmem
    have hs1 := fn149 x.name (by have := (o1 _ hmem).1; omega)
    by_cases hq : fcB x = true
    · have hn := any_none fcE hlt hb (by rw [hx]; simp [hq])
      obtain ⟨⟨⟨⟨g1, g2⟩, g3⟩, g4⟩, g5⟩ : (((txB x.name = true ∧ 0 ≤ x.link) ∧ x.link ≤ 65535) ∧ 0 ≤ x.snap) ∧ x.snap ≤ 400 := by simpa [fcB] using hq
      have n2 : ¬ x.link < 0 := by omega
      have n3 : ¬ 65535 < x.link := by omega
      have n4 : ¬ x.snap < 0 := by omega
      have n5 : ¬ 400 < x.snap := by omega
      simp (disch := first | rfl | omega | exact lt_new _ | assumption | decide | (simp [tk_here, tk_app, tk_0, tk_S, gr_here, gr_app, gr_0, gr_S] <;> omega) | fail) only [l113_9, r113_4, r113_5, r113_6, r113_8, loadV_ptr, storeV_ptr, List.append_assoc, List.length_append, List.length_cons, List.length_nil, List.set_cons_zero, List.set_cons_succ, tk_here, tk_app, gr_here, gr_app, st_here, st_app, t1, tt, hlt', ld, hs1, g1, n2, n3, n4, n5, go_sem, ↓reduceIte, Nat.reduceLT, Nat.reduceEqDiff, Nat.reduceAdd, Nat.reduceMul, Nat.reduceSub, Int.reduceAdd, Int.reduceSub, Nat.reduceLeDiff, Int.reduceLT, Int.reduceLE, Int.reduceEq, Int.reduceNeg, Int.reduceToNat]
      repeat' ((first | refine guardB_dec (fun hy => ?_) (fun hy => ?_) | refine guardB_bool (fun hy => ?_) (fun hy => ?_) | refine guardQ_ite (fun hy => ?_) (fun hy => ?_) | refine brQ_dec (fun hy => ?_) (fun hy => ?_) | refine brQ_bool (fun hy => ?_) (fun hy => ?_)) <;> (try simp only [Bool.not_eq_true', Bool.not_eq_false', Bool.and_eq_true, Bool.or_eq_false_iff, decide_eq_true_eq, decide_eq_false_iff_not] at hy) <;> simp (disch := first | rfl | omega | exact lt_new _ | assumption | decide | (simp [tk_here, tk_app, tk_0, tk_S, gr_here, gr_app, gr_0, gr_S] <;> omega) | fail) only [l113_9, r113_4, r113_5, r113_6, r113_8, loadV_ptr, storeV_ptr, List.append_assoc, List.length_append, List.length_cons, List.length_nil, List.set_cons_zero, List.set_cons_succ, tk_here, tk_app, gr_here, gr_app, st_here, st_app, t1, tt, hlt', ld, hs1, g1, n2, n3, n4, n5, go_sem, ↓reduceIte, Nat.reduceLT, Nat.reduceEqDiff, Nat.reduceAdd, Nat.reduceMul, Nat.reduceSub, Int.reduceAdd, Int.reduceSub, Nat.reduceLeDiff, Int.reduceLT, Int.reduceLE, Int.reduceEq, Int.reduceNeg, Int.reduceToNat, hy])
      exact ⟨_, by omega, i + 1, _, rfl, hlt, rfl, rfl, hn⟩
    · have hW : wrongB c = true := by unfold wrongB; rw [any_mem fcE (q := fun x => !fcB x) hlt (by rw [hx]; simp [hq])]; simp
      have n5 : txB x.name = true → ¬ x.link < 0 → ¬ 65535 < x.link → ¬ x.snap < 0 → 400 < x.snap := fun a b c d => by
        by_cases e : 400 < x.snap
        · exact e
        · exact absurd (by simp [fcB, a]; omega) hq
      simp (disch := first | rfl | omega | exact lt_new _ | assumption | decide | (simp [tk_here, tk_app, tk_0, tk_S, gr_here, gr_app, gr_0, gr_S] <;> omega) | fail) only [l113_9, r113_4, r113_5, r113_6, r113_8, r113_7, rs113, gc113, loadV_ptr, storeV_ptr, List.append_assoc, List.length_append, List.length_cons, List.length_nil, List.set_cons_zero, List.set_cons_succ, tk_here, tk_app, gr_here, gr_app, st_here, st_app, t1, tt, hlt', ld, hs1, n5, go_sem, ↓reduceIte, Nat.reduceLT, Nat.reduceEqDiff, Nat.reduceAdd, Nat.reduceMul, Nat.reduceSub, Int.reduceAdd, Int.reduceSub, Nat.reduceLeDiff, Int.reduceLT, Int.reduceLE, Int.reduceEq, Int.reduceNeg, Int.reduceToNat]
      repeat' ((first | refine guardB_dec (fun hy => ?_) (fun hy => ?_) | refine guardB_bool (fun hy => ?_) (fun hy => ?_) | refine guardQ_ite (fun hy => ?_) (fun hy => ?_) | refine brQ_dec (fun hy => ?_) (fun hy => ?_) | refine brQ_bool (fun hy => ?_) (fun hy => ?_)) <;> (try simp only [Bool.not_eq_true', Bool.not_eq_false', Bool.and_eq_true, Bool.or_eq_false_iff, decide_eq_true_eq, decide_eq_false_iff_not] at hy) <;> simp (disch := first | rfl | omega | exact lt_new _ | assumption | decide | (simp [tk_here, tk_app, tk_0, tk_S, gr_here, gr_app, gr_0, gr_S] <;> omega) | fail) only [l113_9, r113_4, r113_5, r113_6, r113_8, r113_7, rs113, gc113, loadV_ptr, storeV_ptr, List.append_assoc, List.length_append, List.length_cons, List.length_nil, List.set_cons_zero, List.set_cons_succ, tk_here, tk_app, gr_here, gr_app, st_here, st_app, t1, tt, hlt', ld, hs1, n5, go_sem, ↓reduceIte, Nat.reduceLT, Nat.reduceEqDiff, Nat.reduceAdd, Nat.reduceMul, Nat.reduceSub, Int.reduceAdd, Int.reduceSub, Nat.reduceLeDiff, Int.reduceLT, Int.reduceLE, Int.reduceEq, Int.reduceNeg, Int.reduceToNat, hy])
      all_goals (refine finQ_app ?_; simp (disch := first | rfl | omega | exact lt_new _ | assumption | decide | (simp [tk_here, tk_app, tk_0, tk_S, gr_here, gr_app, gr_0, gr_S] <;> omega) | fail) only [go_sem, ↓reduceIte, Nat.reduceLT, Nat.reduceEqDiff, Nat.reduceAdd, Nat.reduceMul, Nat.reduceSub, Int.reduceAdd, Int.reduceSub, Nat.reduceLeDiff, Int.reduceLT, Int.reduceLE, Int.reduceEq, Int.reduceNeg, Int.reduceToNat, hW])
  · obtain rfl : i = c.faces.length := by omega
    rw [List.take_length] at hb
    have hb0 := hb
    clear hb
    simp (disch := first | rfl | omega | exact lt_new _ | assumption | decide | (simp [tk_here, tk_app, tk_0, tk_S, gr_here, gr_app, gr_0, gr_S] <;> omega) | fail) only [l113_9, r113_4, r113_10, loadV_ptr, storeV_ptr, List.append_assoc, List.length_append, List.length_cons, List.length_nil, List.set_cons_zero, List.set_cons_succ, tk_here, tk_app, gr_here, gr_app, st_here, st_app, t1, tt, Int.lt_irrefl, go_sem, ↓reduceIte, Nat.reduceLT, Nat.reduceEqDiff, Nat.reduceAdd, Nat.reduceMul, Nat.reduceSub, Int.reduceAdd, Int.reduceSub, Nat.reduceLeDiff, Int.reduceLT, Int.reduceLE, Int.reduceEq, Int.reduceNeg, Int.reduceToNat]
    repeat' ((first | refine guardB_dec (fun hy => ?_) (fun hy => ?_) | refine guardB_bool (fun hy => ?_) (fun hy => ?_) | refine guardQ_ite (fun hy => ?_) (fun hy => ?_) | refine brQ_dec (fun hy => ?_) (fun hy => ?_) | refine brQ_bool (fun hy => ?_) (fun hy => ?_)) <;> (try simp only [Bool.not_eq_true', Bool.not_eq_false', Bool.and_eq_true, Bool.or_eq_false_iff, decide_eq_true_eq, decide_eq_false_iff_not] at hy) <;> simp (disch := first | rfl | omega | exact lt_new _ | assumption | decide | (simp [tk_here, tk_app, tk_0, tk_S, gr_here, gr_app, gr_0, gr_S] <;> omega) | fail) only [l113_9, r113_4, r113_10, loadV_ptr, storeV_ptr, List.append_assoc, List.length_append, List.length_cons, List.length_nil, List.set_cons_zero, List.set_cons_succ, tk_here, tk_app, gr_here, gr_app, st_here, st_app, t1, tt, Int.lt_irrefl, go_sem, ↓reduceIte, Nat.reduceLT, Nat.reduceEqDiff, Nat.reduceAdd, Nat.reduceMul, Nat.reduceSub, Int.reduceAdd, Int.reduceSub, Nat.reduceLeDiff, Int.reduceLT, Int.reduceLE, Int.reduceEq, Int.reduceNeg, Int.reduceToNat, hy])
    refine Wp_loop (fun m T D H' => ∃ i G, m = c.names.length - i ∧ i ≤ c.names.length ∧ D = [] ∧ H' = H ++ .row 0 (cpE.f c) true :: G ∧ get T 1 = .ptr H.length 0 0 ∧ get T 5 = .int .i64 i ∧ (c.names.take i).any (fun x => !nmB x) = false) ?_ c.names.length _ _ _ ?_
    case refine_2 =>
      refine ⟨0, _, rfl, by omega, rfl, rfl, ?_, ?_, rfl⟩
      all_goals simp (disch := first | rfl | omega | exact lt_new _ | assumption | decide | (simp [tk_here, tk_app, tk_0, tk_S, gr_here, gr_app, gr_0, gr_S] <;> omega) | fail) only [go_sem, ↓reduceIte, Nat.reduceLT, Nat.reduceEqDiff, Nat.reduceAdd, Nat.reduceMul, Nat.reduceSub, Int.reduceAdd, Int.reduceSub, Nat.reduceLeDiff, Int.reduceLT, Int.reduceLE, Int.reduceEq, Int.reduceNeg, Int.reduceToNat, t1]
      all_goals first | rfl | (simp; done)
    clear t1 tt
    rintro m T D H' ⟨i, G, rfl, hi, rfl, rfl, t1, tt, hb⟩
    by_cases hlt : i < c.names.length
    · have hlt' : (i : Int) < c.names.length := by omega
      have ld := fun H => ldN (H := H) hlt
      have hmem := nmE.at_mem hlt
      obtain ⟨x, hx⟩ : ∃ x, nmE.at c.names i = x := ⟨_, rfl⟩
      rw [hx] at ld hmem
      have hs1 := fn149 x.text (by have := (o2 _ hmem).2; omega)
      have hlb := (o2 _ hmem).1
      by_cases hq : nmB x = true
      · have hn := any_none nmE hlt hb (by rw [hx]; simp [hq])
        obtain ⟨⟨g1, g2⟩, g3⟩ : (txB x.text = true ∧ 1 ≤ x.addr.length) ∧ x.addr.length ≤ 16 := by simpa [nmB] using hq
        have n2 : ¬ (x.addr.length : Int) < 1 := by omega
        have n3 : ¬ (16 : Int) < x.addr.length := by omega
        simp (disch := first | rfl | omega | exact lt_new _ | assumption | decide | (simp [tk_here, tk_app, tk_0, tk_S, gr_here, gr_app, gr_0, gr_S] <;> omega) | fail) only [l113_16, r113_11, r113_12, r113_13, r113_15, loadV_ptr, storeV_ptr, List.append_assoc, List.length_append, List.length_cons, List.length_nil, List.set_cons_zero, List.set_cons_succ, tk_here, tk_app, gr_here, gr_app, st_here, st_app, t1, tt, hlt', ld, hs1, g1, n2, n3, go_sem, ↓reduceIte, Nat.reduceLT, Nat.reduceEqDiff, Nat.reduceAdd, Nat.reduceMul, Nat.reduceSub, Int.reduceAdd, Int.reduceSub, Nat.reduceLeDiff, Int.reduceLT, Int.reduceLE, Int.reduceEq, Int.reduceNeg, Int.reduceToNat]
        repeat' ((first | refine guardB_dec (fun hy => ?_) (fun hy => ?_) | refine guardB_bool (fun hy => ?_) (fun hy => ?_) | refine guardQ_ite (fun hy => ?_) (fun hy => ?_) | refine brQ_dec (fun hy => ?_) (fun hy => ?_) | refine brQ_bool (fun hy => ?_) (fun hy => ?_)) <;> (try simp only [Bool.not_eq_true', Bool.not_eq_false', Bool.and_eq_true, Bool.or_eq_false_iff, decide_eq_true_eq, decide_eq_false_iff_not] at hy) <;> simp (disch := first | rfl | omega | exact lt_new _ | assumption | decide | (simp [tk_here, tk_app, tk_0, tk_S, gr_here, gr_app, gr_0, gr_S] <;> omega) | fail) only [l113_16, r113_11, r113_12, r113_13, r113_15, loadV_ptr, storeV_ptr, List.append_assoc, List.length_append, List.length_cons, List.length_nil, List.set_cons_zero, List.set_cons_succ, tk_here, tk_app, gr_here, gr_app, st_here, st_app, t1, tt, hlt', ld, hs1, g1, n2, n3, go_sem, ↓reduceIte, Nat.reduceLT, Nat.reduceEqDiff, Nat.reduceAdd, Nat.reduceMul, Nat.reduceSub, Int.reduceAdd, Int.reduceSub, Nat.reduceLeDiff, Int.reduceLT, Int.reduceLE, Int.reduceEq, Int.reduceNeg, Int.reduceToNat, hy])
        exact ⟨_, by omega, i + 1, _, rfl, hlt, rfl, rfl, hn⟩
      · have hW : wrongB c = true := by unfold wrongB; rw [any_mem nmE (q := fun x => !nmB x) hlt (by rw [hx]; simp [hq])]; simp
        have n5 : ¬ (x.addr.length : Int) < 1 → ¬ (16 : Int) < x.addr.length → txB x.text = false := fun a b => by
          cases e : txB x.text with
          | false => rfl
          | true => exact absurd (by simp [nmB, e]; omega) hq
        simp (disch := first | rfl | omega | exact lt_new _ | assumption | decide | (simp [tk_here, tk_app, tk_0, tk_S, gr_here, gr_app, gr_0, gr_S] <;> omega) | fail) only [l113_16, r113_11, r113_12, r113_13, r113_15, r113_14, rs113, gc113, loadV_ptr, storeV_ptr, List.append_assoc, List.length_append, List.length_cons, List.length_nil, List.set_cons_zero, List.set_cons_succ, tk_here, tk_app, gr_here, gr_app, st_here, st_app, t1, tt, hlt', ld, hs1, n5, go_sem, ↓reduceIte, Nat.reduceLT, Nat.reduceEqDiff, Nat.reduceAdd, Nat.reduceMul, Nat.reduceSub, Int.reduceAdd, Int.reduceSub, Nat.reduceLeDiff, Int.reduceLT, Int.reduceLE, Int.reduceEq, Int.reduceNeg, Int.reduceToNat]
        repeat' ((first | refine guardB_dec (fun hy => ?_) (fun hy => ?_) | refine guardB_bool (fun hy => ?_) (fun hy => ?_) | refine guardQ_ite (fun hy => ?_) (fun hy => ?_) | refine brQ_dec (fun hy => ?_) (fun hy => ?_) | refine brQ_bool (fun hy => ?_) (fun hy => ?_)) <;> (try simp only [Bool.not_eq_true', Bool.not_eq_false', Bool.and_eq_true, Bool.or_eq_false_iff, decide_eq_true_eq, decide_eq_false_iff_not] at hy) <;> simp (disch := first | rfl | omega | exact lt_new _ | assumption | decide | (simp [tk_here, tk_app, tk_0, tk_S, gr_here, gr_app, gr_0, gr_S] <;> omega) | fail) only [l113_16, r113_11, r113_12, r113_13, r113_15, r113_14, rs113, gc113, loadV_ptr, storeV_ptr, List.append_assoc, List.length_append, List.length_cons, List.length_nil, List.set_cons_zero, List.set_cons_succ, tk_here, tk_app, gr_here, gr_app, st_here, st_app, t1, tt, hlt', ld, hs1, n5, go_sem, ↓reduceIte, Nat.reduceLT, Nat.reduceEqDiff, Nat.reduceAdd, Nat.reduceMul, Nat.reduceSub, Int.reduceAdd, Int.reduceSub, Nat.reduceLeDiff, Int.reduceLT, Int.reduceLE, Int.reduceEq, Int.reduceNeg, Int.reduceToNat, hy])
        all_goals (refine finQ_app ?_; simp (disch := first | rfl | omega | exact lt_new _ | assumption | decide | (simp [tk_here, tk_app, tk_0, tk_S, gr_here, gr_app, gr_0, gr_S] <;> omega) | fail) only [go_sem, ↓reduceIte, Nat.reduceLT, Nat.reduceEqDiff, Nat.reduceAdd, Nat.reduceMul, Nat.reduceSub, Int.reduceAdd, Int.reduceSub, Nat.reduceLeDiff, Int.reduceLT, Int.reduceLE, Int.reduceEq, Int.reduceNeg, Int.reduceToNat, hW])
    · obtain rfl : i = c.names.length := by omega
      rw [List.take_length] at hb
      have hb1 := hb
      clear hb
      simp (disch := first | rfl | omega | exact lt_new _ | assumption | decide | (simp [tk_here, tk_app, tk_0, tk_S, gr_here, gr_app, gr_0, gr_S] <;> omega) | fail) only [l113_16, r113_11, r113_17, loadV_ptr, storeV_ptr, List.append_assoc, List.length_append, List.length_cons, List.length_nil, List.set_cons_zero, List.set_cons_succ, tk_here, tk_app, gr_here, gr_app, st_here, st_app, t1, tt, Int.lt_irrefl, go_sem, ↓reduceIte, Nat.reduceLT, Nat.reduceEqDiff, Nat.reduceAdd, Nat.reduceMul, Nat.reduceSub, Int.reduceAdd, Int.reduceSub, Nat.reduceLeDiff, Int.reduceLT, Int.reduceLE, Int.reduceEq, Int.reduceNeg, Int.reduceToNat]
      repeat' ((first | refine guardB_dec (fun hy => ?_) (fun hy => ?_) | refine guardB_bool (fun hy => ?_) (fun hy => ?_) | refine guardQ_ite (fun hy => ?_) (fun hy => ?_) | refine brQ_dec (fun hy => ?_) (fun hy => ?_) | refine brQ_bool (fun hy => ?_) (fun hy => ?_)) <;> (try simp only [Bool.not_eq_true', Bool.not_eq_false', Bool.and_eq_true, Bool.or_eq_false_iff, decide_eq_true_eq, decide_eq_false_iff_not] at hy) <;> simp (disch := first | rfl | omega | exact lt_new _ | assumption | decide | (simp [tk_here, tk_app, tk_0, tk_S, gr_here, gr_app, gr_0, gr_S] <;> omega) | fail) only [l113_16, r113_11, r113_17, loadV_ptr, storeV_ptr, List.append_assoc, List.length_append, List.length_cons, List.length_nil, List.set_cons_zero, List.set_cons_succ, tk_here, tk_app, gr_here, gr_app, st_here, st_app, t1, tt, Int.lt_irrefl, go_sem, ↓reduceIte, Nat.reduceLT, Nat.reduceEqDiff, Nat.reduceAdd, Nat.reduceMul, Nat.reduceSub, Int.reduceAdd, Int.reduceSub, Nat.reduceLeDiff, Int.reduceLT, Int.reduceLE, Int.reduceEq, Int.reduceNeg, Int.reduceToNat, hy])
      refine Wp_loop (fun m T D H' => ∃ i G, m = c.secrets.length - i ∧ i ≤ c.secrets.length ∧ D = [] ∧ H' = H ++ .row 0 (cpE.f c) true :: G ∧ get T 1 = .ptr H.length 0 0 ∧ get T 7 = .int .i64 i ∧ (c.secrets.take i).any (fun x => !scB x) = false) ?_ c.secrets.length _ _ _ ?_
      case refine_2 =>
        refine ⟨0, _, rfl, by omega, rfl, rfl, ?_, ?_, rfl⟩
        all_goals simp (disch := first | rfl | omega | exact lt_new _ | assumption | decide | (simp [tk_here, tk_app, tk_0, tk_S, gr_here, gr_app, gr_0, gr_S] <;> omega) | fail) only [go_sem, ↓reduceIte, Nat.reduceLT, Nat.reduceEqDiff, Nat.reduceAdd, Nat.reduceMul, Nat.reduceSub, Int.reduceAdd, Int.reduceSub, Nat.reduceLeDiff, Int.reduceLT, Int.reduceLE, Int.reduceEq, Int.reduceNeg, Int.reduceToNat, t1]
        all_goals first | rfl | (simp; done)
      clear t1 tt
      rintro m T D H' ⟨i, G, rfl, hi, rfl, rfl, t1, tt, hb⟩
      by_cases hlt : i < c.secrets.length
      · have hlt' : (i : Int) < c.secrets.length := by omega
        have ld := fun H => ldS (H := H) hlt
        have hmem := scE.at_mem hlt
        obtain ⟨x, hx⟩ : ∃ x, scE.at c.secrets i = x := ⟨_, rfl⟩
        rw [hx] at ld hmem
        have hs1 := fn149 x.label (by have := (o3 _ hmem).1; omega)
        have hlb := (o3 _ hmem).2
        by_cases hq : scB x = true
        · have hn := any_none scE hlt hb (by rw [hx]; simp [hq])
          obtain ⟨⟨⟨g1, n2⟩, g3⟩, g4⟩ : ((txB x.label = true ∧ ¬ x.label = []) ∧ 1 ≤ x.key.length) ∧ x.key.length ≤ 200 := by simpa [scB] using hq
          have n3 : ¬ (x.key.length : Int) < 1 := by omega
          have n4 : ¬ (200 : Int) < x.key.length := by omega
          simp (disch := first | rfl | omega | exact lt_new _ | assumption | decide | (simp [tk_here, tk_app, tk_0, tk_S, gr_here, gr_app, gr_0, gr_S] <;> omega) | fail) only [l113_23, r113_18, r113_19, r113_20, r113_22, loadV_ptr, storeV_ptr, List.append_assoc, List.length_append, List.length_cons, List.length_nil, List.set_cons_zero, List.set_cons_succ, tk_here, tk_app, gr_here, gr_app, st_here, st_app, t1, tt, hlt', ld, hs1, g1, n2, n3, n4, go_sem, ↓reduceIte, Nat.reduceLT, Nat.reduceEqDiff, Nat.reduceAdd, Nat.reduceMul, Nat.reduceSub, Int.reduceAdd, Int.reduceSub, Nat.reduceLeDiff, Int.reduceLT, Int.reduceLE, Int.reduceEq, Int.reduceNeg, Int.reduceToNat]
          repeat' ((first | refine guardB_dec (fun hy => ?_) (fun hy => ?_) | refine guardB_bool (fun hy => ?_) (fun hy => ?_) | refine guardQ_ite (fun hy => ?_) (fun hy => ?_) | refine brQ_dec (fun hy => ?_) (fun hy => ?_) | refine brQ_bool (fun hy => ?_) (fun hy => ?_)) <;> (try simp only [Bool.not_eq_true', Bool.not_eq_false', Bool.and_eq_true, Bool.or_eq_false_iff, decide_eq_true_eq, decide_eq_false_iff_not] at hy) <;> simp (disch := first | rfl | omega | exact lt_new _ | assumption | decide | (simp [tk_here, tk_app, tk_0, tk_S, gr_here, gr_app, gr_0, gr_S] <;> omega) | fail) only [l113_23, r113_18, r113_19, r113_20, r113_22, loadV_ptr, storeV_ptr, List.append_assoc, List.length_append, List.length_cons, List.length_nil, List.set_cons_zero, List.set_cons_succ, tk_here, tk_app, gr_here, gr_app, st_here, st_app, t1, tt, hlt', ld, hs1, g1, n2, n3, n4, go_sem, ↓reduceIte, Nat.reduceLT, Nat.reduceEqDiff, Nat.reduceAdd, Nat.reduceMul, Nat.reduceSub, Int.reduceAdd, Int.reduceSub, Nat.reduceLeDiff, Int.reduceLT, Int.reduceLE, Int.reduceEq, Int.reduceNeg, Int.reduceToNat, hy])
          exact ⟨_, by omega, i + 1, _, rfl, hlt, rfl, rfl, hn⟩
        · have hW : wrongB c = true := by unfold wrongB; rw [any_mem scE (q := fun x => !scB x) hlt (by rw [hx]; simp [hq])]; simp
          have n5 : txB x.label = true → ¬ x.label = [] → ¬ (x.key.length : Int) < 1 → (200 : Int) < x.key.length := fun a b d => by
            by_cases e : (200 : Int) < x.key.length
            · exact e
            · exact absurd (by simp [scB, a, b]; omega) hq
          simp (disch := first | rfl | omega | exact lt_new _ | assumption | decide | (simp [tk_here, tk_app, tk_0, tk_S, gr_here, gr_app, gr_0, gr_S] <;> omega) | fail) only [l113_23, r113_18, r113_19, r113_20, r113_22, r113_21, rs113, gc113, loadV_ptr, storeV_ptr, List.append_assoc, List.length_append, List.length_cons, List.length_nil, List.set_cons_zero, List.set_cons_succ, tk_here, tk_app, gr_here, gr_app, st_here, st_app, t1, tt, hlt', ld, hs1, n5, go_sem, ↓reduceIte, Nat.reduceLT, Nat.reduceEqDiff, Nat.reduceAdd, Nat.reduceMul, Nat.reduceSub, Int.reduceAdd, Int.reduceSub, Nat.reduceLeDiff, Int.reduceLT, Int.reduceLE, Int.reduceEq, Int.reduceNeg, Int.reduceToNat]
          repeat' ((first | refine guardB_dec (fun hy => ?_) (fun hy => ?_) | refine guardB_bool (fun hy => ?_) (fun hy => ?_) | refine guardQ_ite (fun hy => ?_) (fun hy => ?_) | refine brQ_dec (fun hy => ?_) (fun hy => ?_) | refine brQ_bool (fun hy => ?_) (fun hy => ?_)) <;> (try simp only [Bool.not_eq_true', Bool.not_eq_false', Bool.and_eq_true, Bool.or_eq_false_iff, decide_eq_true_eq, decide_eq_false_iff_not] at hy) <;> simp (disch := first | rfl | omega | exact lt_new _ | assumption | decide | (simp [tk_here, tk_app, tk_0, tk_S, gr_here, gr_app, gr_0, gr_S] <;> omega) | fail) only [l113_23, r113_18, r113_19, r113_20, r113_22, r113_21, rs113, gc113, loadV_ptr, storeV_ptr, List.append_assoc, List.length_append, List.length_cons, List.length_nil, List.set_cons_zero, List.set_cons_succ, tk_here, tk_app, gr_here, gr_app, st_here, st_app, t1, tt, hlt', ld, hs1, n5, go_sem, ↓reduceIte, Nat.reduceLT, Nat.reduceEqDiff, Nat.reduceAdd, Nat.reduceMul, Nat.reduceSub, Int.reduceAdd, Int.reduceSub, Nat.reduceLeDiff, Int.reduceLT, Int.reduceLE, Int.reduceEq, Int.reduceNeg, Int.reduceToNat, hy])
          all_goals (refine finQ_app ?_; simp (disch := first | rfl | omega | exact lt_new _ | assumption | decide | (simp [tk_here, tk_app, tk_0, tk_S, gr_here, gr_app, gr_0, gr_S] <;> omega) | fail) only [go_sem, ↓reduceIte, Nat.reduceLT, Nat.reduceEqDiff, Nat.reduceAdd, Nat.reduceMul, Nat.reduceSub, Int.reduceAdd, Int.reduceSub, Nat.reduceLeDiff, Int.reduceLT, Int.reduceLE, Int.reduceEq, Int.reduceNeg, Int.reduceToNat, hW])
      · obtain rfl : i = c.secrets.length := by omega
        rw [List.take_length] at hb
        have hb2 := hb
        clear hb
        simp (disch := first | rfl | omega | exact lt_new _ | assumption | decide | (simp [tk_here, tk_app, tk_0, tk_S, gr_here, gr_app, gr_0, gr_S] <;> omega) | fail) only [l113_23, r113_18, r113_24, loadV_ptr, storeV_ptr, List.append_assoc, List.length_append, List.length_cons, List.length_nil, List.set_cons_zero, List.set_cons_succ, tk_here, tk_app, gr_here, gr_app, st_here, st_app, t1, tt, Int.lt_irrefl, go_sem, ↓reduceIte, Nat.reduceLT, Nat.reduceEqDiff, Nat.reduceAdd, Nat.reduceMul, Nat.reduceSub, Int.reduceAdd, Int.reduceSub, Nat.reduceLeDiff, Int.reduceLT, Int.reduceLE, Int.reduceEq, Int.reduceNeg, Int.reduceToNat]
        repeat' ((first | refine guardB_dec (fun hy => ?_) (fun hy => ?_) | refine guardB_bool (fun hy => ?_) (fun hy => ?_) | refine guardQ_ite (fun hy => ?_) (fun hy => ?_) | refine brQ_dec (fun hy => ?_) (fun hy => ?_) | refine brQ_bool (fun hy => ?_) (fun hy => ?_)) <;> (try simp only [Bool.not_eq_true', Bool.not_eq_false', Bool.and_eq_true, Bool.or_eq_false_iff, decide_eq_true_eq, decide_eq_false_iff_not] at hy) <;> simp (disch := first | rfl | omega | exact lt_new _ | assumption | decide | (simp [tk_here, tk_app, tk_0, tk_S, gr_here, gr_app, gr_0, gr_S] <;> omega) | fail) only [l113_23, r113_18, r113_24, loadV_ptr, storeV_ptr, List.append_assoc, List.length_append, List.length_cons, List.length_nil, List.set_cons_zero, List.set_cons_succ, tk_here, tk_app, gr_here, gr_app, st_here, st_app, t1, tt, Int.lt_irrefl, go_sem, ↓reduceIte, Nat.reduceLT, Nat.reduceEqDiff, Nat.reduceAdd, Nat.reduceMul, Nat.reduceSub, Int.reduceAdd, Int.reduceSub, Nat.reduceLeDiff, Int.reduceLT, Int.reduceLE, Int.reduceEq, Int.reduceNeg, Int.reduceToNat, hy])
        refine Wp_loop (fun m T D H' => ∃ i G, m = c.packets.length - i ∧ i ≤ c.packets.length ∧ D = [] ∧ H' = H ++ .row 0 (cpE.f c) true :: G ∧ get T 1 = .ptr H.length 0 0 ∧ get T 9 = .int .i64 i ∧ (c.packets.take i).any (fun x => !pfB x c.faces) = false) ?_ c.packets.length _ _ _ ?_
        case refine_2 =>
          refine ⟨0, _, rfl, by omega, rfl, rfl, ?_, ?_, rfl⟩
          all_goals simp (disch := first | rfl | omega | exact lt_new _ | assumption | decide | (simp [tk_here, tk_app, tk_0, tk_S, gr_here, gr_app, gr_0, gr_S] <;> omega) | fail) only [go_sem, ↓reduceIte, Nat.reduceLT, Nat.reduceEqDiff, Nat.reduceAdd, Nat.reduceMul, Nat.reduceSub, Int.reduceAdd, Int.reduceSub, Nat.reduceLeDiff, Int.reduceLT, Int.reduceLE, Int.reduceEq, Int.reduceNeg, Int.reduceToNat, t1]
          all_goals first | rfl | (simp; done)
        clear t1 tt
        rintro m T D H' ⟨i, G, rfl, hi, rfl, rfl, t1, tt, hb⟩
        by_cases hlt : i < c.packets.length
        · have hlt' : (i : Int) < c.packets.length := by omega
          have ld := fun H => ldP (H := H) hlt
          have hmem := pkE.at_mem hlt
          obtain ⟨x, hx⟩ : ∃ x, pkE.at c.packets i = x := ⟨_, rfl⟩
          rw [hx] at ld hmem
          have hs1 := fn150 x (o4 _ hmem)
          by_cases hq : pfB x c.faces = true
          · have hn := any_none pkE hlt hb (by rw [hx]; simp [hq])
            obtain ⟨⟨g1, g2⟩, g3⟩ : (0 ≤ x.face ∧ x.face < (c.faces.length : Int)) ∧ pkB x (fcE.at c.faces x.face.toNat).snap = true := by simpa [pfB] using hq
            have n2 : ¬ x.face < 0 := by omega
            have n3 : ¬ (c.faces.length : Int) ≤ x.face := by omega
            have l2 := fun H => ldF2 (H := H) (l := c.faces) (i := x.face.toNat) (by omega)
            simp (disch := first | rfl | omega | exact lt_new _ | assumption | decide | (simp [tk_here, tk_app, tk_0, tk_S, gr_here, gr_app, gr_0, gr_S] <;> omega) | fail) only [l113_30, r113_25, r113_26, r113_27, r113_29, loadV_ptr, storeV_ptr, List.append_assoc, List.length_append, List.length_cons, List.length_nil, List.set_cons_zero, List.set_cons_succ, tk_here, tk_app, gr_here, gr_app, st_here, st_app, t1, tt, hlt', ld, hs1, g3, n2, n3, g1, g2, l2, go_sem, ↓reduceIte, Nat.reduceLT, Nat.reduceEqDiff, Nat.reduceAdd, Nat.reduceMul, Nat.reduceSub, Int.reduceAdd, Int.reduceSub, Nat.reduceLeDiff, Int.reduceLT, Int.reduceLE, Int.reduceEq, Int.reduceNeg, Int.reduceToNat]
            repeat' ((first | refine guardB_dec (fun hy => ?_) (fun hy => ?_) | refine guardB_bool (fun hy => ?_) (fun hy => ?_) | refine guardQ_ite (fun hy => ?_) (fun hy => ?_) | refine brQ_dec (fun hy => ?_) (fun hy => ?_) | refine brQ_bool (fun hy => ?_) (fun hy => ?_)) <;> (try simp only [Bool.not_eq_true', Bool.not_eq_false', Bool.and_eq_true, Bool.or_eq_false_iff, decide_eq_true_eq, decide_eq_false_iff_not] at hy) <;> simp (disch := first | rfl | omega | exact lt_new _ | assumption | decide | (simp [tk_here, tk_app, tk_0, tk_S, gr_here, gr_app, gr_0, gr_S] <;> omega) | fail) only [l113_30, r113_25, r113_26, r113_27, r113_29, loadV_ptr, storeV_ptr, List.append_assoc, List.length_append, List.length_cons, List.length_nil, List.set_cons_zero, List.set_cons_succ, tk_here, tk_app, gr_here, gr_app, st_here, st_app, t1, tt, hlt', ld, hs1, g3, n2, n3, g1, g2, l2, go_sem, ↓reduceIte, Nat.reduceLT, Nat.reduceEqDiff, Nat.reduceAdd, Nat.reduceMul, Nat.reduceSub, Int.reduceAdd, Int.reduceSub, Nat.reduceLeDiff, Int.reduceLT, Int.reduceLE, Int.reduceEq, Int.reduceNeg, Int.reduceToNat, hy])
            exact ⟨_, by omega, i + 1, _, rfl, hlt, rfl, rfl, hn⟩
          · have hW : wrongB c = true := by unfold wrongB; rw [any_mem pkE (q := fun x => !pfB x c.faces) hlt (by rw [hx]; simp [hq])]; simp
            have n5 : ∀ (_ : ¬ x.face < 0) (_ : ¬ (c.faces.length : Int) ≤ x.face), pkB x (fcE.at c.faces x.face.toNat).snap = false := fun a b => by
              cases e : pkB x (fcE.at c.faces x.face.toNat).snap with
              | false => rfl
              | true => exact absurd (by simp [pfB, e]; omega) hq
            have l2 := fun H (a : ¬ x.face < 0) (b : ¬ (c.faces.length : Int) ≤ x.face) => ldF2 (H := H) (l := c.faces) (i := x.face.toNat) (by omega)
            simp (disch := first | rfl | omega | exact lt_new _ | assumption | decide | (simp [tk_here, tk_app, tk_0, tk_S, gr_here, gr_app, gr_0, gr_S] <;> omega) | fail) only [l113_30, r113_25, r113_26, r113_27, r113_29, r113_28, rs113, gc113, loadV_ptr, storeV_ptr, List.append_assoc, List.length_append, List.length_cons, List.length_nil, List.set_cons_zero, List.set_cons_succ, tk_here, tk_app, gr_here, gr_app, st_here, st_app, t1, tt, hlt', ld, hs1, n5, l2, go_sem, ↓reduceIte, Nat.reduceLT, Nat.reduceEqDiff, Nat.reduceAdd, Nat.reduceMul, Nat.reduceSub, Int.reduceAdd, Int.reduceSub, Nat.reduceLeDiff, Int.reduceLT, Int.reduceLE, Int.reduceEq, Int.reduceNeg, Int.reduceToNat]
            repeat' ((first | refine guardB_dec (fun hy => ?_) (fun hy => ?_) | refine guardB_bool (fun hy => ?_) (fun hy => ?_) | refine guardQ_ite (fun hy => ?_) (fun hy => ?_) | refine brQ_dec (fun hy => ?_) (fun hy => ?_) | refine brQ_bool (fun hy => ?_) (fun hy => ?_)) <;> (try simp only [Bool.not_eq_true', Bool.not_eq_false', Bool.and_eq_true, Bool.or_eq_false_iff, decide_eq_true_eq, decide_eq_false_iff_not] at hy) <;> simp (disch := first | rfl | omega | exact lt_new _ | assumption | decide | (simp [tk_here, tk_app, tk_0, tk_S, gr_here, gr_app, gr_0, gr_S] <;> omega) | fail) only [l113_30, r113_25, r113_26, r113_27, r113_29, r113_28, rs113, gc113, loadV_ptr, storeV_ptr, List.append_assoc, List.length_append, List.length_cons, List.length_nil, List.set_cons_zero, List.set_cons_succ, tk_here, tk_app, gr_here, gr_app, st_here, st_app, t1, tt, hlt', ld, hs1, n5, l2, go_sem, ↓reduceIte, Nat.reduceLT, Nat.reduceEqDiff, Nat.reduceAdd, Nat.reduceMul, Nat.reduceSub, Int.reduceAdd, Int.reduceSub, Nat.reduceLeDiff, Int.reduceLT, Int.reduceLE, Int.reduceEq, Int.reduceNeg, Int.reduceToNat, hy])
            all_goals (refine finQ_app ?_; simp (disch := first | rfl | omega | exact lt_new _ | assumption | decide | (simp [tk_here, tk_app, tk_0, tk_S, gr_here, gr_app, gr_0, gr_S] <;> omega) | fail) only [go_sem, ↓reduceIte, Nat.reduceLT, Nat.reduceEqDiff, Nat.reduceAdd, Nat.reduceMul, Nat.reduceSub, Int.reduceAdd, Int.reduceSub, Nat.reduceLeDiff, Int.reduceLT, Int.reduceLE, Int.reduceEq, Int.reduceNeg, Int.reduceToNat, hW])
        · obtain rfl : i = c.packets.length := by omega
          rw [List.take_length] at hb
          have hW : wrongB c = false := by
            have hz : ¬ (c.faces.length : Int) = 0 := by omega
            unfold wrongB
            rw [decide_eq_false hz, h1, hb0, hb1, hb2, hb]; rfl
          simp (disch := first | rfl | omega | exact lt_new _ | assumption | decide | (simp [tk_here, tk_app, tk_0, tk_S, gr_here, gr_app, gr_0, gr_S] <;> omega) | fail) only [l113_30, r113_25, r113_31, rs113, gc113, loadV_ptr, storeV_ptr, List.append_assoc, List.length_append, List.length_cons, List.length_nil, List.set_cons_zero, List.set_cons_succ, tk_here, tk_app, gr_here, gr_app, st_here, st_app, t1, tt, Int.lt_irrefl, go_sem, ↓reduceIte, Nat.reduceLT, Nat.reduceEqDiff, Nat.reduceAdd, Nat.reduceMul, Nat.reduceSub, Int.reduceAdd, Int.reduceSub, Nat.reduceLeDiff, Int.reduceLT, Int.reduceLE, Int.reduceEq, Int.reduceNeg, Int.reduceToNat]
          repeat' ((first | refine guardB_dec (fun hy => ?_) (fun hy => ?_) | refine guardB_bool (fun hy => ?_) (fun hy => ?_) | refine guardQ_ite (fun hy => ?_) (fun hy => ?_) | refine brQ_dec (fun hy => ?_) (fun hy => ?_) | refine brQ_bool (fun hy => ?_) (fun hy => ?_)) <;> (try simp only [Bool.not_eq_true', Bool.not_eq_false', Bool.and_eq_true, Bool.or_eq_false_iff, decide_eq_true_eq, decide_eq_false_iff_not] at hy) <;> simp (disch := first | rfl | omega | exact lt_new _ | assumption | decide | (simp [tk_here, tk_app, tk_0, tk_S, gr_here, gr_app, gr_0, gr_S] <;> omega) | fail) only [l113_30, r113_25, r113_31, rs113, gc113, loadV_ptr, storeV_ptr, List.append_assoc, List.length_append, List.length_cons, List.length_nil, List.set_cons_zero, List.set_cons_succ, tk_here, tk_app, gr_here, gr_app, st_here, st_app, t1, tt, Int.lt_irrefl, go_sem, ↓reduceIte, Nat.reduceLT, Nat.reduceEqDiff, Nat.reduceAdd, Nat.reduceMul, Nat.reduceSub, Int.reduceAdd, Int.reduceSub, Nat.reduceLeDiff, Int.reduceLT, Int.reduceLE, Int.reduceEq, Int.reduceNeg, Int.reduceToNat, hy])
          refine finQ_app ?_
          simp (disch := first | rfl | omega | exact lt_new _ | assumption | decide | (simp [tk_here, tk_app, tk_0, tk_S, gr_here, gr_app, gr_0, gr_S] <;> omega) | fail) only [go_sem, ↓reduceIte, Nat.reduceLT, Nat.reduceEqDiff, Nat.reduceAdd, Nat.reduceMul, Nat.reduceSub, Int.reduceAdd, Int.reduceSub, Nat.reduceLeDiff, Int.reduceLT, Int.reduceLE, Int.reduceEq, Int.reduceNeg, Int.reduceToNat, hW]
theorem fn63 (c : Cp) (hc : CpOk c) (H : Hp) : callL Try.prog pr 63 [.agg (cpE.f c)] H = some (.int .i64 (valE c), H) := by
  have h113 := fn113 c hc
  refine pur_eq rfl rfl (by simp [go_sem]) rfl ?_
  clear H
  intro H
  refine run63 (Nat.le_of_ble_eq_true rfl) ?_
  unfold valE
  by_cases hL : largeB c = true
  · rw [if_pos hL]
    unfold largeB at hL
    simp only [Bool.or_eq_true, decide_eq_true_eq] at hL
    simp (disch := first | rfl | omega | exact lt_new _ | assumption | decide | (simp [tk_here, tk_app, tk_0, tk_S, gr_here, gr_app, gr_0, gr_S] <;> omega) | fail) only [r63_0, r63_1, r63_2, r63_3, r63_4, r63_5, c63, rs63, gc63, loadV_ptr, storeV_ptr, List.append_assoc, List.length_append, List.length_cons, List.length_nil, List.set_cons_zero, List.set_cons_succ, tk_here, tk_app, gr_here, gr_app, st_here, st_app, h113, go_sem, ↓reduceIte, Nat.reduceLT, Nat.reduceEqDiff, Nat.reduceAdd, Nat.reduceMul, Nat.reduceSub, Int.reduceAdd, Int.reduceSub, Nat.reduceLeDiff, Int.reduceLT, Int.reduceLE, Int.reduceEq, Int.reduceNeg, Int.reduceToNat]
    repeat' ((first | refine guardB_dec (fun hy => ?_) (fun hy => ?_) | refine guardB_bool (fun hy => ?_) (fun hy => ?_) | refine guardQ_ite (fun hy => ?_) (fun hy => ?_) | refine brQ_dec (fun hy => ?_) (fun hy => ?_) | refine brQ_bool (fun hy => ?_) (fun hy => ?_)) <;> (try simp only [Bool.not_eq_true', Bool.not_eq_false', Bool.and_eq_true, Bool.or_eq_false_iff, decide_eq_true_eq, decide_eq_false_iff_not] at hy) <;> simp (disch := first | rfl | omega | exact lt_new _ | assumption | decide | (simp [tk_here, tk_app, tk_0, tk_S, gr_here, gr_app, gr_0, gr_S] <;> omega) | fail) only [r63_0, r63_1, r63_2, r63_3, r63_4, r63_5, c63, rs63, gc63, loadV_ptr, storeV_ptr, List.append_assoc, List.length_append, List.length_cons, List.length_nil, List.set_cons_zero, List.set_cons_succ, tk_here, tk_app, gr_here, gr_app, st_here, st_app, h113, go_sem, ↓reduceIte, Nat.reduceLT, Nat.reduceEqDiff, Nat.reduceAdd, Nat.reduceMul, Nat.reduceSub, Int.reduceAdd, Int.reduceSub, Nat.reduceLeDiff, Int.reduceLT, Int.reduceLE, Int.reduceEq, Int.reduceNeg, Int.reduceToNat, hy])
    all_goals first | (refine finQ_app ?_; simp (disch := first | rfl | omega | exact lt_new _ | assumption | decide | (simp [tk_here, tk_app, tk_0, tk_S, gr_here, gr_app, gr_0, gr_S] <;> omega) | fail) only [go_sem, ↓reduceIte, Nat.reduceLT, Nat.reduceEqDiff, Nat.reduceAdd, Nat.reduceMul, Nat.reduceSub, Int.reduceAdd, Int.reduceSub, Nat.reduceLeDiff, Int.reduceLT, Int.reduceLE, Int.reduceEq, Int.reduceNeg, Int.reduceToNat]; done) | omega
  · rw [if_neg hL]
    unfold largeB at hL
    simp only [Bool.or_eq_true, decide_eq_true_eq, not_or] at hL
    obtain ⟨⟨⟨q1, q2⟩, q3⟩, q4⟩ := hL
    cases hw : wrongB c
    all_goals
      simp (disch := first | rfl | omega | exact lt_new _ | assumption | decide | (simp [tk_here, tk_app, tk_0, tk_S, gr_here, gr_app, gr_0, gr_S] <;> omega) | fail) only [r63_0, r63_1, r63_2, r63_3, r63_4, r63_5, c63, rs63, gc63, loadV_ptr, storeV_ptr, List.append_assoc, List.length_append, List.length_cons, List.length_nil, List.set_cons_zero, List.set_cons_succ, tk_here, tk_app, gr_here, gr_app, st_here, st_app, q1, q2, q3, q4, h113, hw, go_sem, ↓reduceIte, Nat.reduceLT, Nat.reduceEqDiff, Nat.reduceAdd, Nat.reduceMul, Nat.reduceSub, Int.reduceAdd, Int.reduceSub, Nat.reduceLeDiff, Int.reduceLT, Int.reduceLE, Int.reduceEq, Int.reduceNeg, Int.reduceToNat]
      repeat' ((first | refine guardB_dec (fun hy => ?_) (fun hy => ?_) | refine guardB_bool (fun hy => ?_) (fun hy => ?_) | refine guardQ_ite (fun hy => ?_) (fun hy => ?_) | refine brQ_dec (fun hy => ?_) (fun hy => ?_) | refine brQ_bool (fun hy => ?_) (fun hy => ?_)) <;> (try simp only [Bool.not_eq_true', Bool.not_eq_false', Bool.and_eq_true, Bool.or_eq_false_iff, decide_eq_true_eq, decide_eq_false_iff_not] at hy) <;> simp (disch := first | rfl | omega | exact lt_new _ | assumption | decide | (simp [tk_here, tk_app, tk_0, tk_S, gr_here, gr_app, gr_0, gr_S] <;> omega) | fail) only [r63_0, r63_1, r63_2, r63_3, r63_4, r63_5, c63, rs63, gc63, loadV_ptr, storeV_ptr, List.append_assoc, List.length_append, List.length_cons, List.length_nil, List.set_cons_zero, List.set_cons_succ, tk_here, tk_app, gr_here, gr_app, st_here, st_app, q1, q2, q3, q4, h113, hw, go_sem, ↓reduceIte, Nat.reduceLT, Nat.reduceEqDiff, Nat.reduceAdd, Nat.reduceMul, Nat.reduceSub, Int.reduceAdd, Int.reduceSub, Nat.reduceLeDiff, Int.reduceLT, Int.reduceLE, Int.reduceEq, Int.reduceNeg, Int.reduceToNat, hy])
      refine finQ_app ?_
      simp (disch := first | rfl | omega | exact lt_new _ | assumption | decide | (simp [tk_here, tk_app, tk_0, tk_S, gr_here, gr_app, gr_0, gr_S] <;> omega) | fail) only [go_sem, ↓reduceIte, Nat.reduceLT, Nat.reduceEqDiff, Nat.reduceAdd, Nat.reduceMul, Nat.reduceSub, Int.reduceAdd, Int.reduceSub, Nat.reduceLeDiff, Int.reduceLT, Int.reduceLE, Int.reduceEq, Int.reduceNeg, Int.reduceToNat]
end Go.Proofs.Ytejkgnmjdaohdaa
/-
  How much captures weigh, and whether captures are equal, for the reference; walked. No statement of the seat stands here.
-/
namespace Go.Proofs.Ytejkgnmjdaohdaa
open Go Go.An
set_option maxRecDepth 4000
set_option linter.unusedSimpArgs false
set_option linter.unusedVariables false

theorem fn21 (c : Cp) (hc : CpOk c) (H : Hp) : ∃ n, callL Try.prog pr 21 [.agg (cpE.f c)] H = some (.int .i64 n, H) := by
  suffices h : ∃ r, callL Try.prog pr 21 [.agg (cpE.f c)] H = some r ∧ ∃ n, r = (.int .i64 n, H) by
    obtain ⟨r, h1, n, rfl⟩ := h; exact ⟨n, h1⟩
  obtain ⟨o0, o1, o1l, o2, o2l, o3, o3l, o4, o4l⟩ := hc
  refine ex21 (Nat.le_of_ble_eq_true rfl) ?_
  simp (disch := first | rfl | omega | exact lt_new _ | assumption | decide | (simp [tk_here, tk_app, tk_0, tk_S, gr_here, gr_app, gr_0, gr_S] <;> omega) | fail) only [r21_0, r21_1, r21_2, c21, loadV_ptr, storeV_ptr, List.append_assoc, List.length_append, List.length_cons, List.length_nil, List.set_cons_zero, List.set_cons_succ, tk_here, tk_app, gr_here, gr_app, st_here, st_app, go_sem, ↓reduceIte, Nat.reduceLT, Nat.reduceEqDiff, Nat.reduceAdd, Nat.reduceMul, Nat.reduceSub, Int.reduceAdd, Int.reduceSub, Nat.reduceLeDiff, Int.reduceLT, Int.reduceLE, Int.reduceEq, Int.reduceNeg, Int.reduceToNat]
  refine Wp_loop (fun m T D H' => ∃ i n, m = c.faces.length - i ∧ i ≤ c.faces.length ∧ D = [] ∧ H' = H ++ [.row 0 (cpE.f c) true] ∧ get T 1 = .ptr H.length 0 0 ∧ get T 4 = .int .i64 i ∧ get T 3 = .int .i64 n) ?_ c.faces.length _ _ _ ?_
  case refine_2 => exact ⟨0, _, by simp (disch := first | rfl | omega | exact lt_new _ | assumption | decide | (simp [tk_here, tk_app, tk_0, tk_S, gr_here, gr_app, gr_0, gr_S] <;> omega) | fail) only [go_sem, ↓reduceIte, Nat.reduceLT, Nat.reduceEqDiff, Nat.reduceAdd, Nat.reduceMul, Nat.reduceSub, Int.reduceAdd, Int.reduceSub, Nat.reduceLeDiff, Int.reduceLT, Int.reduceLE, Int.reduceEq, Int.reduceNeg, Int.reduceToNat]; simp; rfl⟩
  rintro m T D H' ⟨i, n, rfl, hi, rfl, rfl, t1, ti, t3⟩
  by_cases hlt : i < c.faces.length
  · have hlt' : (i : Int) < c.faces.length := by omega
    have q1 := (o1 _ (fcE.at_mem hlt)).1
    simp (disch := first | rfl | omega | exact lt_new _ | assumption | decide | (simp [tk_here, tk_app, tk_0, tk_S, gr_here, gr_app, gr_0, gr_S] <;> omega) | fail) only [l21_6, r21_3, r21_4, r21_5, loadV_ptr, storeV_ptr, List.append_assoc, List.length_append, List.length_cons, List.length_nil, List.set_cons_zero, List.set_cons_succ, tk_here, tk_app, gr_here, gr_app, st_here, st_app, t1, ti, t3, hlt', go_sem, ↓reduceIte, Nat.reduceLT, Nat.reduceEqDiff, Nat.reduceAdd, Nat.reduceMul, Nat.reduceSub, Int.reduceAdd, Int.reduceSub, Nat.reduceLeDiff, Int.reduceLT, Int.reduceLE, Int.reduceEq, Int.reduceNeg, Int.reduceToNat]
    exact ⟨_, by omega, i + 1, _, rfl, hlt, rfl, rfl⟩
  · obtain rfl : i = c.faces.length := by omega
    simp (disch := first | rfl | omega | exact lt_new _ | assumption | decide | (simp [tk_here, tk_app, tk_0, tk_S, gr_here, gr_app, gr_0, gr_S] <;> omega) | fail) only [l21_6, r21_3, r21_7, loadV_ptr, storeV_ptr, List.append_assoc, List.length_append, List.length_cons, List.length_nil, List.set_cons_zero, List.set_cons_succ, tk_here, tk_app, gr_here, gr_app, st_here, st_app, t1, ti, t3, Int.lt_irrefl, go_sem, ↓reduceIte, Nat.reduceLT, Nat.reduceEqDiff, Nat.reduceAdd, Nat.reduceMul, Nat.reduceSub, Int.reduceAdd, Int.reduceSub, Nat.reduceLeDiff, Int.reduceLT, Int.reduceLE, Int.reduceEq, Int.reduceNeg, Int.reduceToNat]
    refine Wp_loop (fun m T D H' => ∃ i n, m = c.names.length - i ∧ i ≤ c.names.length ∧ D = [] ∧ H' = H ++ [.row 0 (cpE.f c) true] ∧ get T 1 = .ptr H.length 0 0 ∧ get T 5 = .int .i64 i ∧ get T 3 = .int .i64 n) ?_ c.names.length _ _ _ ?_
    case refine_2 => exact ⟨0, _, by simp (disch := first | rfl | omega | exact lt_new _ | assumption | decide | (simp [tk_here, tk_app, tk_0, tk_S, gr_here, gr_app, gr_0, gr_S] <;> omega) | fail) only [go_sem, ↓reduceIte, Nat.reduceLT, Nat.reduceEqDiff, Nat.reduceAdd, Nat.reduceMul, Nat.reduceSub, Int.reduceAdd, Int.reduceSub, Nat.reduceLeDiff, Int.reduceLT, Int.reduceLE, Int.reduceEq, Int.reduceNeg, Int.reduceToNat, t1, t3]; simp; rfl⟩
    clear t1 t3 ti
    rintro m T D H' ⟨i, n, rfl, hi, rfl, rfl, t1, ti, t3⟩
    by_cases hlt : i < c.names.length
    · have hlt' : (i : Int) < c.names.length := by omega
      have q1 := o2 _ (nmE.at_mem hlt)
      have q2 := q1.2
      simp (disch := first | rfl | omega | exact lt_new _ | assumption | decide | (simp [tk_here, tk_app, tk_0, tk_S, gr_here, gr_app, gr_0, gr_S] <;> omega) | fail) only [l21_11, r21_8, r21_9, r21_10, loadV_ptr, storeV_ptr, List.append_assoc, List.length_append, List.length_cons, List.length_nil, List.set_cons_zero, List.set_cons_succ, tk_here, tk_app, gr_here, gr_app, st_here, st_app, t1, ti, t3, hlt', go_sem, ↓reduceIte, Nat.reduceLT, Nat.reduceEqDiff, Nat.reduceAdd, Nat.reduceMul, Nat.reduceSub, Int.reduceAdd, Int.reduceSub, Nat.reduceLeDiff, Int.reduceLT, Int.reduceLE, Int.reduceEq, Int.reduceNeg, Int.reduceToNat]
      exact ⟨_, by omega, i + 1, _, rfl, hlt, rfl, rfl⟩
    · obtain rfl : i = c.names.length := by omega
      simp (disch := first | rfl | omega | exact lt_new _ | assumption | decide | (simp [tk_here, tk_app, tk_0, tk_S, gr_here, gr_app, gr_0, gr_S] <;> omega) | fail) only [l21_11, r21_8, r21_12, loadV_ptr, storeV_ptr, List.append_assoc, List.length_append, List.length_cons, List.length_nil, List.set_cons_zero, List.set_cons_succ, tk_here, tk_app, gr_here, gr_app, st_here, st_app, t1, ti, t3, Int.lt_irrefl, go_sem, ↓reduceIte, Nat.reduceLT, Nat.reduceEqDiff, Nat.reduceAdd, Nat.reduceMul, Nat.reduceSub, Int.reduceAdd, Int.reduceSub, Nat.reduceLeDiff, Int.reduceLT, Int.reduceLE, Int.reduceEq, Int.reduceNeg, Int.reduceToNat]
      refine Wp_loop (fun m T D H' => ∃ i n, m = c.secrets.length - i ∧ i ≤ c.secrets.length ∧ D = [] ∧ H' = H ++ [.row 0 (cpE.f c) true] ∧ get T 1 = .ptr H.length 0 0 ∧ get T 6 = .int .i64 i ∧ get T 3 = .int .i64 n) ?_ c.secrets.length _ _ _ ?_
      case refine_2 => exact ⟨0, _, by simp (disch := first | rfl | omega | exact lt_new _ | assumption | decide | (simp [tk_here, tk_app, tk_0, tk_S, gr_here, gr_app, gr_0, gr_S] <;> omega) | fail) only [go_sem, ↓reduceIte, Nat.reduceLT, Nat.reduceEqDiff, Nat.reduceAdd, Nat.reduceMul, Nat.reduceSub, Int.reduceAdd, Int.reduceSub, Nat.reduceLeDiff, Int.reduceLT, Int.reduceLE, Int.reduceEq, Int.reduceNeg, Int.reduceToNat, t1, t3]; simp; rfl⟩
      clear t1 t3 ti
      rintro m T D H' ⟨i, n, rfl, hi, rfl, rfl, t1, ti, t3⟩
      by_cases hlt : i < c.secrets.length
      · have hlt' : (i : Int) < c.secrets.length := by omega
        have q1 := (o3 _ (scE.at_mem hlt)).1
        simp (disch := first | rfl | omega | exact lt_new _ | assumption | decide | (simp [tk_here, tk_app, tk_0, tk_S, gr_here, gr_app, gr_0, gr_S] <;> omega) | fail) only [l21_16, r21_13, r21_14, r21_15, loadV_ptr, storeV_ptr, List.append_assoc, List.length_append, List.length_cons, List.length_nil, List.set_cons_zero, List.set_cons_succ, tk_here, tk_app, gr_here, gr_app, st_here, st_app, t1, ti, t3, hlt', go_sem, ↓reduceIte, Nat.reduceLT, Nat.reduceEqDiff, Nat.reduceAdd, Nat.reduceMul, Nat.reduceSub, Int.reduceAdd, Int.reduceSub, Nat.reduceLeDiff, Int.reduceLT, Int.reduceLE, Int.reduceEq, Int.reduceNeg, Int.reduceToNat]
        exact ⟨_, by omega, i + 1, _, rfl, hlt, rfl, rfl⟩
      · obtain rfl : i = c.secrets.length := by omega
        simp (disch := first | rfl | omega | exact lt_new _ | assumption | decide | (simp [tk_here, tk_app, tk_0, tk_S, gr_here, gr_app, gr_0, gr_S] <;> omega) | fail) only [l21_16, r21_13, r21_17, loadV_ptr, storeV_ptr, List.append_assoc, List.length_append, List.length_cons, List.length_nil, List.set_cons_zero, List.set_cons_succ, tk_here, tk_app, gr_here, gr_app, st_here, st_app, t1, ti, t3, Int.lt_irrefl, go_sem, ↓reduceIte, Nat.reduceLT, Nat.reduceEqDiff, Nat.reduceAdd, Nat.reduceMul, Nat.reduceSub, Int.reduceAdd, Int.reduceSub, Nat.reduceLeDiff, Int.reduceLT, Int.reduceLE, Int.reduceEq, Int.reduceNeg, Int.reduceToNat]
        refine Wp_loop (fun m T D H' => ∃ i n, m = c.packets.length - i ∧ i ≤ c.packets.length ∧ D = [] ∧ H' = H ++ [.row 0 (cpE.f c) true] ∧ get T 1 = .ptr H.length 0 0 ∧ get T 7 = .int .i64 i ∧ get T 3 = .int .i64 n) ?_ c.packets.length _ _ _ ?_
        case refine_2 => exact ⟨0, _, by simp (disch := first | rfl | omega | exact lt_new _ | assumption | decide | (simp [tk_here, tk_app, tk_0, tk_S, gr_here, gr_app, gr_0, gr_S] <;> omega) | fail) only [go_sem, ↓reduceIte, Nat.reduceLT, Nat.reduceEqDiff, Nat.reduceAdd, Nat.reduceMul, Nat.reduceSub, Int.reduceAdd, Int.reduceSub, Nat.reduceLeDiff, Int.reduceLT, Int.reduceLE, Int.reduceEq, Int.reduceNeg, Int.reduceToNat, t1, t3]; simp; rfl⟩
        clear t1 t3 ti
        rintro m T D H' ⟨i, n, rfl, hi, rfl, rfl, t1, ti, t3⟩
        by_cases hlt : i < c.packets.length
        · have hlt' : (i : Int) < c.packets.length := by omega
          have q1 := (o4 _ (pkE.at_mem hlt)).2.2.2.2
          simp (disch := first | rfl | omega | exact lt_new _ | assumption | decide | (simp [tk_here, tk_app, tk_0, tk_S, gr_here, gr_app, gr_0, gr_S] <;> omega) | fail) only [l21_21, r21_18, r21_19, r21_20, loadV_ptr, storeV_ptr, List.append_assoc, List.length_append, List.length_cons, List.length_nil, List.set_cons_zero, List.set_cons_succ, tk_here, tk_app, gr_here, gr_app, st_here, st_app, t1, ti, t3, hlt', go_sem, ↓reduceIte, Nat.reduceLT, Nat.reduceEqDiff, Nat.reduceAdd, Nat.reduceMul, Nat.reduceSub, Int.reduceAdd, Int.reduceSub, Nat.reduceLeDiff, Int.reduceLT, Int.reduceLE, Int.reduceEq, Int.reduceNeg, Int.reduceToNat]
          exact ⟨_, by omega, i + 1, _, rfl, hlt, rfl, rfl⟩
        · obtain rfl : i = c.packets.length := by omega
          simp (disch := first | rfl | omega | exact lt_new _ | assumption | decide | (simp [tk_here, tk_app, tk_0, tk_S, gr_here, gr_app, gr_0, gr_S] <;> omega) | fail) only [l21_21, r21_18, r21_22, rs21, gc21, loadV_ptr, storeV_ptr, List.append_assoc, List.length_append, List.length_cons, List.length_nil, List.set_cons_zero, List.set_cons_succ, tk_here, tk_app, gr_here, gr_app, st_here, st_app, t1, ti, t3, Int.lt_irrefl, go_sem, ↓reduceIte, Nat.reduceLT, Nat.reduceEqDiff, Nat.reduceAdd, Nat.reduceMul, Nat.reduceSub, Int.reduceAdd, Int.reduceSub, Nat.reduceLeDiff, Int.reduceLT, Int.reduceLE, Int.reduceEq, Int.reduceNeg, Int.reduceToNat]
          exact ⟨n, finQ_app (by simp (disch := first | rfl | omega | exact lt_new _ | assumption | decide | (simp [tk_here, tk_app, tk_0, tk_S, gr_here, gr_app, gr_0, gr_S] <;> omega) | fail) only [go_sem, ↓reduceIte, Nat.reduceLT, Nat.reduceEqDiff, Nat.reduceAdd, Nat.reduceMul, Nat.reduceSub, Int.reduceAdd, Int.reduceSub, Nat.reduceLeDiff, Int.reduceLT, Int.reduceLE, Int.reduceEq, Int.reduceNeg, Int.reduceToNat])⟩
theorem fn64 {b b' : Bool} {l l' : List UInt8} (H : Hp) : callL Try.prog pr 64 [slV b byE l, slV b' byE l'] H = some (.bool (decide (l = l')), H) := by
  refine run64 (Nat.le_of_ble_eq_true rfl) ?_
  simp (disch := first | rfl | omega | exact lt_new _ | assumption | decide | (simp [tk_here, tk_app, tk_0, tk_S, gr_here, gr_app, gr_0, gr_S] <;> omega) | fail) only [r64_0, r64_1, c64, rs64, gc64, go_sem, ↓reduceIte, Nat.reduceLT, Nat.reduceEqDiff, Nat.reduceAdd, Nat.reduceMul, Nat.reduceSub, Int.reduceAdd, Int.reduceSub, Nat.reduceLeDiff, Int.reduceLT, Int.reduceLE, Int.reduceEq, Int.reduceNeg, Int.reduceToNat]
  repeat' ((first | refine guardB_dec (fun hy => ?_) (fun hy => ?_) | refine guardB_bool (fun hy => ?_) (fun hy => ?_) | refine guardQ_ite (fun hy => ?_) (fun hy => ?_) | refine brQ_dec (fun hy => ?_) (fun hy => ?_) | refine brQ_bool (fun hy => ?_) (fun hy => ?_)) <;> (try simp only [Bool.not_eq_true', Bool.not_eq_false', Bool.and_eq_true, Bool.or_eq_false_iff, decide_eq_true_eq, decide_eq_false_iff_not] at hy) <;> simp (disch := first | rfl | omega | exact lt_new _ | assumption | decide | (simp [tk_here, tk_app, tk_0, tk_S, gr_here, gr_app, gr_0, gr_S] <;> omega) | fail) only [r64_0, r64_1, c64, rs64, gc64, go_sem, ↓reduceIte, Nat.reduceLT, Nat.reduceEqDiff, Nat.reduceAdd, Nat.reduceMul, Nat.reduceSub, Int.reduceAdd, Int.reduceSub, Nat.reduceLeDiff, Int.reduceLT, Int.reduceLE, Int.reduceEq, Int.reduceNeg, Int.reduceToNat, hy])
  all_goals (try ((first | refine finQ_same ?_ | refine finQ_app ?_ | (rw [List.append_assoc]; refine finQ_app ?_)) <;> simp (disch := first | rfl | omega | exact lt_new _ | assumption | decide | (simp [tk_here, tk_app, tk_0, tk_S, gr_here, gr_app, gr_0, gr_S] <;> omega) | fail) only [go_sem, ↓reduceIte, Nat.reduceLT, Nat.reduceEqDiff, Nat.reduceAdd, Nat.reduceMul, Nat.reduceSub, Int.reduceAdd, Int.reduceSub, Nat.reduceLeDiff, Int.reduceLT, Int.reduceLE, Int.reduceEq, Int.reduceNeg, Int.reduceToNat, List.append_assoc, List.cons_append, List.nil_append, *]))
  all_goals (try first | rfl | (simp [*]; done) | grind)
def pkS (p q : Pk) : Bool := decide (p.time = q.time) && decide (p.face = q.face) && decide (p.real = q.real) && decide (p.note = q.note) && decide (p.data = q.data)
def nmS (p q : Nm) : Bool := decide (p.text = q.text) && decide (p.addr = q.addr)
def scS (p q : Sc) : Bool := decide (p.label = q.label) && decide (p.key = q.key)
def fcS (p q : Fc) : Bool := decide (p = q)
def sameB (c d : Cp) : Bool := decide (c.note = d.note) && sameL fcS c.faces d.faces && sameL nmS c.names d.names && sameL scS c.secrets d.secrets && sameL pkS c.packets d.packets
theorem fn65 (p q : Pk) (H : Hp) : callL Try.prog pr 65 [.agg (pkE.f p), .agg (pkE.f q)] H = some (.bool (pkS p q), H) := by
  have h64 := fun H => fn64 (b := p.dataN) (b' := q.dataN) (l := p.data) (l' := q.data) H
  refine run65 (Nat.le_of_ble_eq_true rfl) ?_
  unfold pkS
  simp (disch := first | rfl | omega | exact lt_new _ | assumption | decide | (simp [tk_here, tk_app, tk_0, tk_S, gr_here, gr_app, gr_0, gr_S] <;> omega) | fail) only [r65_0, r65_1, c65, rs65, gc65, h64, go_sem, ↓reduceIte, Nat.reduceLT, Nat.reduceEqDiff, Nat.reduceAdd, Nat.reduceMul, Nat.reduceSub, Int.reduceAdd, Int.reduceSub, Nat.reduceLeDiff, Int.reduceLT, Int.reduceLE, Int.reduceEq, Int.reduceNeg, Int.reduceToNat]
  repeat' ((first | refine guardB_dec (fun hy => ?_) (fun hy => ?_) | refine guardB_bool (fun hy => ?_) (fun hy => ?_) | refine guardQ_ite (fun hy => ?_) (fun hy => ?_) | refine brQ_dec (fun hy => ?_) (fun hy => ?_) | refine brQ_bool (fun hy => ?_) (fun hy => ?_)) <;> (try simp only [Bool.not_eq_true', Bool.not_eq_false', Bool.and_eq_true, Bool.or_eq_false_iff, decide_eq_true_eq, decide_eq_false_iff_not] at hy) <;> simp (disch := first | rfl | omega | exact lt_new _ | assumption | decide | (simp [tk_here, tk_app, tk_0, tk_S, gr_here, gr_app, gr_0, gr_S] <;> omega) | fail) only [r65_0, r65_1, c65, rs65, gc65, h64, go_sem, ↓reduceIte, Nat.reduceLT, Nat.reduceEqDiff, Nat.reduceAdd, Nat.reduceMul, Nat.reduceSub, Int.reduceAdd, Int.reduceSub, Nat.reduceLeDiff, Int.reduceLT, Int.reduceLE, Int.reduceEq, Int.reduceNeg, Int.reduceToNat, hy])
  all_goals (try ((first | refine finQ_same ?_ | refine finQ_app ?_ | (rw [List.append_assoc]; refine finQ_app ?_)) <;> simp (disch := first | rfl | omega | exact lt_new _ | assumption | decide | (simp [tk_here, tk_app, tk_0, tk_S, gr_here, gr_app, gr_0, gr_S] <;> omega) | fail) only [go_sem, ↓reduceIte, Nat.reduceLT, Nat.reduceEqDiff, Nat.reduceAdd, Nat.reduceMul, Nat.reduceSub, Int.reduceAdd, Int.reduceSub, Nat.reduceLeDiff, Int.reduceLT, Int.reduceLE, Int.reduceEq, Int.reduceNeg, Int.reduceToNat, List.append_assoc, List.cons_append, List.nil_append, *]))
  all_goals (try first | rfl | (simp [*]; done) | grind)
@[go_sem] theorem ck_fcE (x : Fc) : ckOks [.str, .int .i64, .int .i64] (fcE.f x) = true := rfl
@[go_sem] theorem eq_fcE (x y : Fc) : eqCells (fcE.f x) (fcE.f y) = fcS x y := by
  obtain ⟨a, b, c⟩ := x
  obtain ⟨a', b', c'⟩ := y
  simp only [fcE_f, fcS, eqCells_cons, eqCells_nil, eqCell_str, eqCell_int, Fc.mk.injEq, Bool.decide_and, Bool.and_true]
def Fits (c : Cp) : Prop := c.faces.length ≤ 2 ^ 62 ∧ c.names.length ≤ 2 ^ 62 ∧ c.secrets.length ≤ 2 ^ 62 ∧ c.packets.length ≤ 2 ^ 62
theorem CpOk.fits {c : Cp} (h : CpOk c) : Fits c := by
  obtain ⟨o0, o1, o1l, o2, o2l, o3, o3l, o4, o4l⟩ := h
  exact ⟨by omega, by omega, by omega, by omega⟩
set_option maxHeartbeats 8000000 in
theorem fn18 (c d : Cp) (hF : Fits c) (H : Hp) : callL Try.prog pr 18 [.agg (cpE.f c), .agg (cpE.f d)] H = some (.bool (sameB c d), H) := by
  obtain ⟨f1, f2, f3, f4⟩ := hF
  refine pur_eq rfl rfl (by simp [go_sem]) rfl ?_
  clear H
  intro H
  refine run18 (Nat.le_of_ble_eq_true rfl) ?_
  by_cases hg : c.note = d.note ∧ (c.faces.length : Int) = d.faces.length ∧ (c.names.length : Int) = d.names.length ∧ (c.secrets.length : Int) = d.secrets.length ∧ (c.packets.length : Int) = d.packets.length
  case neg =>
    have hS : sameB c d = false := by
      unfold sameB
      by_cases h0 : c.note = d.note
      · by_cases h1 : c.faces.length = d.faces.length
        · by_cases h2 : c.names.length = d.names.length
          · by_cases h3 : c.secrets.length = d.secrets.length
            · rw [sameL_len (l := c.packets) (fun e => hg ⟨h0, by omega, by omega, by omega, by omega⟩)]; simp
            · rw [sameL_len (l := c.secrets) h3]; simp
          · rw [sameL_len (l := c.names) h2]; simp
        · rw [sameL_len (l := c.faces) h1]; simp
      · simp [h0]
    rw [hS]
    have g5 : c.note = d.note → (c.faces.length : Int) = d.faces.length → (c.names.length : Int) = d.names.length → (c.secrets.length : Int) = d.secrets.length → ¬ (c.packets.length : Int) = d.packets.length := fun a b e f g => hg ⟨a, b, e, f, g⟩
    simp (disch := first | rfl | omega | exact lt_new _ | assumption | decide | (simp [tk_here, tk_app, tk_0, tk_S, gr_here, gr_app, gr_0, gr_S] <;> omega) | fail) only [r18_0, r18_1, r18_2, c18, rs18, gc18, loadV_ptr, storeV_ptr, List.append_assoc, List.length_append, List.length_cons, List.length_nil, List.set_cons_zero, List.set_cons_succ, tk_here, tk_app, gr_here, gr_app, st_here, st_app, g5, go_sem, ↓reduceIte, Nat.reduceLT, Nat.reduceEqDiff, Nat.reduceAdd, Nat.reduceMul, Nat.reduceSub, Int.reduceAdd, Int.reduceSub, Nat.reduceLeDiff, Int.reduceLT, Int.reduceLE, Int.reduceEq, Int.reduceNeg, Int.reduceToNat]
    repeat' ((first | refine guardB_dec (fun hy => ?_) (fun hy => ?_) | refine guardB_bool (fun hy => ?_) (fun hy => ?_) | refine guardQ_ite (fun hy => ?_) (fun hy => ?_) | refine brQ_dec (fun hy => ?_) (fun hy => ?_) | refine brQ_bool (fun hy => ?_) (fun hy => ?_)) <;> (try simp only [Bool.not_eq_true', Bool.not_eq_false', Bool.and_eq_true, Bool.or_eq_false_iff, decide_eq_true_eq, decide_eq_false_iff_not] at hy) <;> simp (disch := first | rfl | omega | exact lt_new _ | assumption | decide | (simp [tk_here, tk_app, tk_0, tk_S, gr_here, gr_app, gr_0, gr_S] <;> omega) | fail) only [r18_0, r18_1, r18_2, c18, rs18, gc18, loadV_ptr, storeV_ptr, List.append_assoc, List.length_append, List.length_cons, List.length_nil, List.set_cons_zero, List.set_cons_succ, tk_here, tk_app, gr_here, gr_app, st_here, st_app, g5, go_sem, ↓reduceIte, Nat.reduceLT, Nat.reduceEqDiff, Nat.reduceAdd, Nat.reduceMul, Nat.reduceSub, Int.reduceAdd, Int.reduceSub, Nat.reduceLeDiff, Int.reduceLT, Int.reduceLE, Int.reduceEq, Int.reduceNeg, Int.reduceToNat, hy])
    all_goals (refine finQ_app ?_; simp (disch := first | rfl | omega | exact lt_new _ | assumption | decide | (simp [tk_here, tk_app, tk_0, tk_S, gr_here, gr_app, gr_0, gr_S] <;> omega) | fail) only [go_sem, ↓reduceIte, Nat.reduceLT, Nat.reduceEqDiff, Nat.reduceAdd, Nat.reduceMul, Nat.reduceSub, Int.reduceAdd, Int.reduceSub, Nat.reduceLeDiff, Int.reduceLT, Int.reduceLE, Int.reduceEq, Int.reduceNeg, Int.reduceToNat])
  obtain ⟨g1, g2, g3, g4, g5⟩ := hg
  simp (disch := first | rfl | omega | exact lt_new _ | assumption | decide | (simp [tk_here, tk_app, tk_0, tk_S, gr_here, gr_app, gr_0, gr_S] <;> omega) | fail) only [r18_0, r18_1, r18_3, c18, loadV_ptr, storeV_ptr, List.append_assoc, List.length_append, List.length_cons, List.length_nil, List.set_cons_zero, List.set_cons_succ, tk_here, tk_app, gr_here, gr_app, st_here, st_app, g1, g2, g3, g4, g5, go_sem, ↓reduceIte, Nat.reduceLT, Nat.reduceEqDiff, Nat.reduceAdd, Nat.reduceMul, Nat.reduceSub, Int.reduceAdd, Int.reduceSub, Nat.reduceLeDiff, Int.reduceLT, Int.reduceLE, Int.reduceEq, Int.reduceNeg, Int.reduceToNat]
  repeat' ((first | refine guardB_dec (fun hy => ?_) (fun hy => ?_) | refine guardB_bool (fun hy => ?_) (fun hy => ?_) | refine guardQ_ite (fun hy => ?_) (fun hy => ?_) | refine brQ_dec (fun hy => ?_) (fun hy => ?_) | refine brQ_bool (fun hy => ?_) (fun hy => ?_)) <;> (try simp only [Bool.not_eq_true', Bool.not_eq_false', Bool.and_eq_true, Bool.or_eq_false_iff, decide_eq_true_eq, decide_eq_false_iff_not] at hy) <;> simp (disch := first | rfl | omega | exact lt_new _ | assumption | decide | (simp [tk_here, tk_app, tk_0, tk_S, gr_here, gr_app, gr_0, gr_S] <;> omega) | fail) only [r18_0, r18_1, r18_3, c18, loadV_ptr, storeV_ptr, List.append_assoc, List.length_append, List.length_cons, List.length_nil, List.set_cons_zero, List.set_cons_succ, tk_here, tk_app, gr_here, gr_app, st_here, st_app, g1, g2, g3, g4, g5, go_sem, ↓reduceIte, Nat.reduceLT, Nat.reduceEqDiff, Nat.reduceAdd, Nat.reduceMul, Nat.reduceSub, Int.reduceAdd, Int.reduceSub, Nat.reduceLeDiff, Int.reduceLT, Int.reduceLE, Int.reduceEq, Int.reduceNeg, Int.reduceToNat, hy])
  refine Wp_loop (fun m T D H' => ∃ i, m = c.faces.length - i ∧ i ≤ c.faces.length ∧ D = [] ∧ H' = H ++ [.row 0 (cpE.f c) true] ∧ get T 2 = .ptr H.length 0 0 ∧ get T 3 = .ipt (cpE.f d) 0 ∧ get T 5 = .int .i64 i ∧ sameL fcS c.faces d.faces = sameL fcS (c.faces.drop i) (d.faces.drop i)) ?_ c.faces.length _ _ _ ?_
  case refine_2 => exact ⟨0, by simp (disch := first | rfl | omega | exact lt_new _ | assumption | decide | (simp [tk_here, tk_app, tk_0, tk_S, gr_here, gr_app, gr_0, gr_S] <;> omega) | fail) only [go_sem, ↓reduceIte, Nat.reduceLT, Nat.reduceEqDiff, Nat.reduceAdd, Nat.reduceMul, Nat.reduceSub, Int.reduceAdd, Int.reduceSub, Nat.reduceLeDiff, Int.reduceLT, Int.reduceLE, Int.reduceEq, Int.reduceNeg, Int.reduceToNat]; simp⟩
  rintro m T D H' ⟨i, rfl, hi, rfl, rfl, t2, t3, ti, hs⟩
  by_cases hlt : i < c.faces.length
  · have hlt' : (i : Int) < c.faces.length := by omega
    have hlt2 : (i : Int) < d.faces.length := by omega
    have hlt3 : i < d.faces.length := by omega
    rw [sameL_drop fcE hlt hlt3] at hs
    obtain ⟨x, hx⟩ : ∃ x, fcE.at c.faces i = x := ⟨_, rfl⟩
    obtain ⟨y, hy2⟩ : ∃ x, fcE.at d.faces i = x := ⟨_, rfl⟩
    rw [hx, hy2] at hs
    by_cases hq : fcS x y = true
    · rw [hq, Bool.true_and] at hs
      simp (disch := first | rfl | omega | exact lt_new _ | assumption | decide | (simp [tk_here, tk_app, tk_0, tk_S, gr_here, gr_app, gr_0, gr_S] <;> omega) | fail) only [l18_8, r18_4, r18_5, r18_7, loadV_ptr, storeV_ptr, List.append_assoc, List.length_append, List.length_cons, List.length_nil, List.set_cons_zero, List.set_cons_succ, tk_here, tk_app, gr_here, gr_app, st_here, st_app, t2, t3, ti, hlt', hx, hy2, hq, go_sem, ↓reduceIte, Nat.reduceLT, Nat.reduceEqDiff, Nat.reduceAdd, Nat.reduceMul, Nat.reduceSub, Int.reduceAdd, Int.reduceSub, Nat.reduceLeDiff, Int.reduceLT, Int.reduceLE, Int.reduceEq, Int.reduceNeg, Int.reduceToNat]
      repeat' ((first | refine guardB_dec (fun hy => ?_) (fun hy => ?_) | refine guardB_bool (fun hy => ?_) (fun hy => ?_) | refine guardQ_ite (fun hy => ?_) (fun hy => ?_) | refine brQ_dec (fun hy => ?_) (fun hy => ?_) | refine brQ_bool (fun hy => ?_) (fun hy => ?_)) <;> (try simp only [Bool.not_eq_true', Bool.not_eq_false', Bool.and_eq_true, Bool.or_eq_false_iff, decide_eq_true_eq, decide_eq_false_iff_not] at hy) <;> simp (disch := first | rfl | omega | exact lt_new _ | assumption | decide | (simp [tk_here, tk_app, tk_0, tk_S, gr_here, gr_app, gr_0, gr_S] <;> omega) | fail) only [l18_8, r18_4, r18_5, r18_7, loadV_ptr, storeV_ptr, List.append_assoc, List.length_append, List.length_cons, List.length_nil, List.set_cons_zero, List.set_cons_succ, tk_here, tk_app, gr_here, gr_app, st_here, st_app, t2, t3, ti, hlt', hx, hy2, hq, go_sem, ↓reduceIte, Nat.reduceLT, Nat.reduceEqDiff, Nat.reduceAdd, Nat.reduceMul, Nat.reduceSub, Int.reduceAdd, Int.reduceSub, Nat.reduceLeDiff, Int.reduceLT, Int.reduceLE, Int.reduceEq, Int.reduceNeg, Int.reduceToNat, hy])
      exact ⟨_, by omega, i + 1, rfl, hlt, rfl, hs⟩
    · have hS : sameB c d = false := by unfold sameB; rw [hs, Bool.eq_false_iff.2 hq]; simp
      simp (disch := first | rfl | omega | exact lt_new _ | assumption | decide | (simp [tk_here, tk_app, tk_0, tk_S, gr_here, gr_app, gr_0, gr_S] <;> omega) | fail) only [l18_8, r18_4, r18_5, r18_7, r18_6, rs18, gc18, loadV_ptr, storeV_ptr, List.append_assoc, List.length_append, List.length_cons, List.length_nil, List.set_cons_zero, List.set_cons_succ, tk_here, tk_app, gr_here, gr_app, st_here, st_app, t2, t3, ti, hlt', hx, hy2, hq, go_sem, ↓reduceIte, Nat.reduceLT, Nat.reduceEqDiff, Nat.reduceAdd, Nat.reduceMul, Nat.reduceSub, Int.reduceAdd, Int.reduceSub, Nat.reduceLeDiff, Int.reduceLT, Int.reduceLE, Int.reduceEq, Int.reduceNeg, Int.reduceToNat]
      repeat' ((first | refine guardB_dec (fun hy => ?_) (fun hy => ?_) | refine guardB_bool (fun hy => ?_) (fun hy => ?_) | refine guardQ_ite (fun hy => ?_) (fun hy => ?_) | refine brQ_dec (fun hy => ?_) (fun hy => ?_) | refine brQ_bool (fun hy => ?_) (fun hy => ?_)) <;> (try simp only [Bool.not_eq_true', Bool.not_eq_false', Bool.and_eq_true, Bool.or_eq_false_iff, decide_eq_true_eq, decide_eq_false_iff_not] at hy) <;> simp (disch := first | rfl | omega | exact lt_new _ | assumption | decide | (simp [tk_here, tk_app, tk_0, tk_S, gr_here, gr_app, gr_0, gr_S] <;> omega) | fail) only [l18_8, r18_4, r18_5, r18_7, r18_6, rs18, gc18, loadV_ptr, storeV_ptr, List.append_assoc, List.length_append, List.length_cons, List.length_nil, List.set_cons_zero, List.set_cons_succ, tk_here, tk_app, gr_here, gr_app, st_here, st_app, t2, t3, ti, hlt', hx, hy2, hq, go_sem, ↓reduceIte, Nat.reduceLT, Nat.reduceEqDiff, Nat.reduceAdd, Nat.reduceMul, Nat.reduceSub, Int.reduceAdd, Int.reduceSub, Nat.reduceLeDiff, Int.reduceLT, Int.reduceLE, Int.reduceEq, Int.reduceNeg, Int.reduceToNat, hy])
      all_goals (refine finQ_app ?_; simp (disch := first | rfl | omega | exact lt_new _ | assumption | decide | (simp [tk_here, tk_app, tk_0, tk_S, gr_here, gr_app, gr_0, gr_S] <;> omega) | fail) only [go_sem, ↓reduceIte, Nat.reduceLT, Nat.reduceEqDiff, Nat.reduceAdd, Nat.reduceMul, Nat.reduceSub, Int.reduceAdd, Int.reduceSub, Nat.reduceLeDiff, Int.reduceLT, Int.reduceLE, Int.reduceEq, Int.reduceNeg, Int.reduceToNat, hS])
  · obtain rfl : i = c.faces.length := by omega
    have hs0 : sameL fcS c.faces d.faces = true := by rw [hs, List.drop_length, List.drop_eq_nil_of_le (by omega)]; rfl
    clear hs
    simp (disch := first | rfl | omega | exact lt_new _ | assumption | decide | (simp [tk_here, tk_app, tk_0, tk_S, gr_here, gr_app, gr_0, gr_S] <;> omega) | fail) only [l18_8, r18_4, r18_9, loadV_ptr, storeV_ptr, List.append_assoc, List.length_append, List.length_cons, List.length_nil, List.set_cons_zero, List.set_cons_succ, tk_here, tk_app, gr_here, gr_app, st_here, st_app, t2, t3, ti, Int.lt_irrefl, go_sem, ↓reduceIte, Nat.reduceLT, Nat.reduceEqDiff, Nat.reduceAdd, Nat.reduceMul, Nat.reduceSub, Int.reduceAdd, Int.reduceSub, Nat.reduceLeDiff, Int.reduceLT, Int.reduceLE, Int.reduceEq, Int.reduceNeg, Int.reduceToNat]
    refine Wp_loop (fun m T D H' => ∃ i, m = c.names.length - i ∧ i ≤ c.names.length ∧ D = [] ∧ H' = H ++ [.row 0 (cpE.f c) true] ∧ get T 2 = .ptr H.length 0 0 ∧ get T 3 = .ipt (cpE.f d) 0 ∧ get T 6 = .int .i64 i ∧ sameL nmS c.names d.names = sameL nmS (c.names.drop i) (d.names.drop i)) ?_ c.names.length _ _ _ ?_
    case refine_2 => exact ⟨0, by simp (disch := first | rfl | omega | exact lt_new _ | assumption | decide | (simp [tk_here, tk_app, tk_0, tk_S, gr_here, gr_app, gr_0, gr_S] <;> omega) | fail) only [go_sem, ↓reduceIte, Nat.reduceLT, Nat.reduceEqDiff, Nat.reduceAdd, Nat.reduceMul, Nat.reduceSub, Int.reduceAdd, Int.reduceSub, Nat.reduceLeDiff, Int.reduceLT, Int.reduceLE, Int.reduceEq, Int.reduceNeg, Int.reduceToNat, t2, t3]; simp⟩
    clear t2 t3 ti
    rintro m T D H' ⟨i, rfl, hi, rfl, rfl, t2, t3, ti, hs⟩
    by_cases hlt : i < c.names.length
    · have hlt' : (i : Int) < c.names.length := by omega
      have hlt2 : (i : Int) < d.names.length := by omega
      have hlt3 : i < d.names.length := by omega
      rw [sameL_drop nmE hlt hlt3] at hs
      obtain ⟨x, hx⟩ : ∃ x, nmE.at c.names i = x := ⟨_, rfl⟩
      obtain ⟨y, hy2⟩ : ∃ x, nmE.at d.names i = x := ⟨_, rfl⟩
      rw [hx, hy2] at hs
      by_cases hq : nmS x y = true
      · rw [hq, Bool.true_and] at hs
        obtain ⟨q1, q2⟩ : x.text = y.text ∧ x.addr = y.addr := by simpa [nmS] using hq
        simp (disch := first | rfl | omega | exact lt_new _ | assumption | decide | (simp [tk_here, tk_app, tk_0, tk_S, gr_here, gr_app, gr_0, gr_S] <;> omega) | fail) only [l18_14, r18_10, r18_11, r18_13, loadV_ptr, storeV_ptr, List.append_assoc, List.length_append, List.length_cons, List.length_nil, List.set_cons_zero, List.set_cons_succ, tk_here, tk_app, gr_here, gr_app, st_here, st_app, t2, t3, ti, hlt', hx, hy2, q1, q2, fn64, go_sem, ↓reduceIte, Nat.reduceLT, Nat.reduceEqDiff, Nat.reduceAdd, Nat.reduceMul, Nat.reduceSub, Int.reduceAdd, Int.reduceSub, Nat.reduceLeDiff, Int.reduceLT, Int.reduceLE, Int.reduceEq, Int.reduceNeg, Int.reduceToNat]
        repeat' ((first | refine guardB_dec (fun hy => ?_) (fun hy => ?_) | refine guardB_bool (fun hy => ?_) (fun hy => ?_) | refine guardQ_ite (fun hy => ?_) (fun hy => ?_) | refine brQ_dec (fun hy => ?_) (fun hy => ?_) | refine brQ_bool (fun hy => ?_) (fun hy => ?_)) <;> (try simp only [Bool.not_eq_true', Bool.not_eq_false', Bool.and_eq_true, Bool.or_eq_false_iff, decide_eq_true_eq, decide_eq_false_iff_not] at hy) <;> simp (disch := first | rfl | omega | exact lt_new _ | assumption | decide | (simp [tk_here, tk_app, tk_0, tk_S, gr_here, gr_app, gr_0, gr_S] <;> omega) | fail) only [l18_14, r18_10, r18_11, r18_13, loadV_ptr, storeV_ptr, List.append_assoc, List.length_append, List.length_cons, List.length_nil, List.set_cons_zero, List.set_cons_succ, tk_here, tk_app, gr_here, gr_app, st_here, st_app, t2, t3, ti, hlt', hx, hy2, q1, q2, fn64, go_sem, ↓reduceIte, Nat.reduceLT, Nat.reduceEqDiff, Nat.reduceAdd, Nat.reduceMul, Nat.reduceSub, Int.reduceAdd, Int.reduceSub, Nat.reduceLeDiff, Int.reduceLT, Int.reduceLE, Int.reduceEq, Int.reduceNeg, Int.reduceToNat, hy])
        exact ⟨_, by omega, i + 1, rfl, hlt, rfl, hs⟩
      · have hS : sameB c d = false := by unfold sameB; rw [hs, Bool.eq_false_iff.2 hq]; simp
        have q2 : x.text = y.text → ¬ x.addr = y.addr := fun a b => hq (by simp [nmS, a, b])
        simp (disch := first | rfl | omega | exact lt_new _ | assumption | decide | (simp [tk_here, tk_app, tk_0, tk_S, gr_here, gr_app, gr_0, gr_S] <;> omega) | fail) only [l18_14, r18_10, r18_11, r18_13, r18_12, rs18, gc18, loadV_ptr, storeV_ptr, List.append_assoc, List.length_append, List.length_cons, List.length_nil, List.set_cons_zero, List.set_cons_succ, tk_here, tk_app, gr_here, gr_app, st_here, st_app, t2, t3, ti, hlt', hx, hy2, q2, fn64, go_sem, ↓reduceIte, Nat.reduceLT, Nat.reduceEqDiff, Nat.reduceAdd, Nat.reduceMul, Nat.reduceSub, Int.reduceAdd, Int.reduceSub, Nat.reduceLeDiff, Int.reduceLT, Int.reduceLE, Int.reduceEq, Int.reduceNeg, Int.reduceToNat]
        repeat' ((first | refine guardB_dec (fun hy => ?_) (fun hy => ?_) | refine guardB_bool (fun hy => ?_) (fun hy => ?_) | refine guardQ_ite (fun hy => ?_) (fun hy => ?_) | refine brQ_dec (fun hy => ?_) (fun hy => ?_) | refine brQ_bool (fun hy => ?_) (fun hy => ?_)) <;> (try simp only [Bool.not_eq_true', Bool.not_eq_false', Bool.and_eq_true, Bool.or_eq_false_iff, decide_eq_true_eq, decide_eq_false_iff_not] at hy) <;> simp (disch := first | rfl | omega | exact lt_new _ | assumption | decide | (simp [tk_here, tk_app, tk_0, tk_S, gr_here, gr_app, gr_0, gr_S] <;> omega) | fail) only [l18_14, r18_10, r18_11, r18_13, r18_12, rs18, gc18, loadV_ptr, storeV_ptr, List.append_assoc, List.length_append, List.length_cons, List.length_nil, List.set_cons_zero, List.set_cons_succ, tk_here, tk_app, gr_here, gr_app, st_here, st_app, t2, t3, ti, hlt', hx, hy2, q2, fn64, go_sem, ↓reduceIte, Nat.reduceLT, Nat.reduceEqDiff, Nat.reduceAdd, Nat.reduceMul, Nat.reduceSub, Int.reduceAdd, Int.reduceSub, Nat.reduceLeDiff, Int.reduceLT, Int.reduceLE, Int.reduceEq, Int.reduceNeg, Int.reduceToNat, hy])
        all_goals (refine finQ_app ?_; simp (disch := first | rfl | omega | exact lt_new _ | assumption | decide | (simp [tk_here, tk_app, tk_0, tk_S, gr_here, gr_app, gr_0, gr_S] <;> omega) | fail) only [go_sem, ↓reduceIte, Nat.reduceLT, Nat.reduceEqDiff, Nat.reduceAdd, Nat.reduceMul, Nat.reduceSub, Int.reduceAdd, Int.reduceSub, Nat.reduceLeDiff, Int.reduceLT, Int.reduceLE, Int.reduceEq, Int.reduceNeg, Int.reduceToNat, hS])
    · obtain rfl : i = c.names.length := by omega
      have hs1 : sameL nmS c.names d.names = true := by rw [hs, List.drop_length, List.drop_eq_nil_of_le (by omega)]; rfl
      clear hs
      simp (disch := first | rfl | omega | exact lt_new _ | assumption | decide | (simp [tk_here, tk_app, tk_0, tk_S, gr_here, gr_app, gr_0, gr_S] <;> omega) | fail) only [l18_14, r18_10, r18_15, loadV_ptr, storeV_ptr, List.append_assoc, List.length_append, List.length_cons, List.length_nil, List.set_cons_zero, List.set_cons_succ, tk_here, tk_app, gr_here, gr_app, st_here, st_app, t2, t3, ti, Int.lt_irrefl, go_sem, ↓reduceIte, Nat.reduceLT, Nat.reduceEqDiff, Nat.reduceAdd, Nat.reduceMul, Nat.reduceSub, Int.reduceAdd, Int.reduceSub, Nat.reduceLeDiff, Int.reduceLT, Int.reduceLE, Int.reduceEq, Int.reduceNeg, Int.reduceToNat]
      refine Wp_loop (fun m T D H' => ∃ i, m = c.secrets.length - i ∧ i ≤ c.secrets.length ∧ D = [] ∧ H' = H ++ [.row 0 (cpE.f c) true] ∧ get T 2 = .ptr H.length 0 0 ∧ get T 3 = .ipt (cpE.f d) 0 ∧ get T 7 = .int .i64 i ∧ sameL scS c.secrets d.secrets = sameL scS (c.secrets.drop i) (d.secrets.drop i)) ?_ c.secrets.length _ _ _ ?_
      case refine_2 => exact ⟨0, by simp (disch := first | rfl | omega | exact lt_new _ | assumption | decide | (simp [tk_here, tk_app, tk_0, tk_S, gr_here, gr_app, gr_0, gr_S] <;> omega) | fail) only [go_sem, ↓reduceIte, Nat.reduceLT, Nat.reduceEqDiff, Nat.reduceAdd, Nat.reduceMul, Nat.reduceSub, Int.reduceAdd, Int.reduceSub, Nat.reduceLeDiff, Int.reduceLT, Int.reduceLE, Int.reduceEq, Int.reduceNeg, Int.reduceToNat, t2, t3]; simp⟩
      clear t2 t3 ti
      rintro m T D H' ⟨i, rfl, hi, rfl, rfl, t2, t3, ti, hs⟩
      by_cases hlt : i < c.secrets.length
      · have hlt' : (i : Int) < c.secrets.length := by omega
        have hlt2 : (i : Int) < d.secrets.length := by omega
        have hlt3 : i < d.secrets.length := by omega
        rw [sameL_drop scE hlt hlt3] at hs
        obtain ⟨x, hx⟩ : ∃ x, scE.at c.secrets i = x := ⟨_, rfl⟩
        obtain ⟨y, hy2⟩ : ∃ x, scE.at d.secrets i = x := ⟨_, rfl⟩
        rw [hx, hy2] at hs
        by_cases hq : scS x y = true
        · rw [hq, Bool.true_and] at hs
          obtain ⟨q1, q2⟩ : x.label = y.label ∧ x.key = y.key := by simpa [scS] using hq
          simp (disch := first | rfl | omega | exact lt_new _ | assumption | decide | (simp [tk_here, tk_app, tk_0, tk_S, gr_here, gr_app, gr_0, gr_S] <;> omega) | fail) only [l18_20, r18_16, r18_17, r18_19, loadV_ptr, storeV_ptr, List.append_assoc, List.length_append, List.length_cons, List.length_nil, List.set_cons_zero, List.set_cons_succ, tk_here, tk_app, gr_here, gr_app, st_here, st_app, t2, t3, ti, hlt', hx, hy2, q1, q2, fn64, go_sem, ↓reduceIte, Nat.reduceLT, Nat.reduceEqDiff, Nat.reduceAdd, Nat.reduceMul, Nat.reduceSub, Int.reduceAdd, Int.reduceSub, Nat.reduceLeDiff, Int.reduceLT, Int.reduceLE, Int.reduceEq, Int.reduceNeg, Int.reduceToNat]
          repeat' ((first | refine guardB_dec (fun hy => ?_) (fun hy => ?_) | refine guardB_bool (fun hy => ?_) (fun hy => ?_) | refine guardQ_ite (fun hy => ?_) (fun hy => ?_) | refine brQ_dec (fun hy => ?_) (fun hy => ?_) | refine brQ_bool (fun hy => ?_) (fun hy => ?_)) <;> (try simp only [Bool.not_eq_true', Bool.not_eq_false', Bool.and_eq_true, Bool.or_eq_false_iff, decide_eq_true_eq, decide_eq_false_iff_not] at hy) <;> simp (disch := first | rfl | omega | exact lt_new _ | assumption | decide | (simp [tk_here, tk_app, tk_0, tk_S, gr_here, gr_app, gr_0, gr_S] <;> omega) | fail) only [l18_20, r18_16, r18_17, r18_19, loadV_ptr, storeV_ptr, List.append_assoc, List.length_append, List.length_cons, List.length_nil, List.set_cons_zero, List.set_cons_succ, tk_here, tk_app, gr_here, gr_app, st_here, st_app, t2, t3, ti, hlt', hx, hy2, q1, q2, fn64, go_sem, ↓reduceIte, Nat.reduceLT, Nat.reduceEqDiff, Nat.reduceAdd, Nat.reduceMul, Nat.reduceSub, Int.reduceAdd, Int.reduceSub, Nat.reduceLeDiff, Int.reduceLT, Int.reduceLE, Int.reduceEq, Int.reduceNeg, Int.reduceToNat, hy])
          exact ⟨_, by omega, i + 1, rfl, hlt, rfl, hs⟩
        · have hS : sameB c d = false := by unfold sameB; rw [hs, Bool.eq_false_iff.2 hq]; simp
          have q2 : x.label = y.label → ¬ x.key = y.key := fun a b => hq (by simp [scS, a, b])
          simp (disch := first | rfl | omega | exact lt_new _ | assumption | decide | (simp [tk_here, tk_app, tk_0, tk_S, gr_here, gr_app, gr_0, gr_S] <;> omega) | fail) only [l18_20, r18_16, r18_17, r18_19, r18_18, rs18, gc18, loadV_ptr, storeV_ptr, List.append_assoc, List.length_append, List.length_cons, List.length_nil, List.set_cons_zero, List.set_cons_succ, tk_here, tk_app, gr_here, gr_app, st_here, st_app, t2, t3, ti, hlt', hx, hy2, q2, fn64, go_sem, ↓reduceIte, Nat.reduceLT, Nat.reduceEqDiff, Nat.reduceAdd, Nat.reduceMul, Nat.reduceSub, Int.reduceAdd, Int.reduceSub, Nat.reduceLeDiff, Int.reduceLT, Int.reduceLE, Int.reduceEq, Int.reduceNeg, Int.reduceToNat]
          repeat' ((first | refine guardB_dec (fun hy => ?_) (fun hy => ?_) | refine guardB_bool (fun hy => ?_) (fun hy => ?_) | refine guardQ_ite (fun hy => ?_) (fun hy => ?_) | refine brQ_dec (fun hy => ?_) (fun hy => ?_) | refine brQ_bool (fun hy => ?_) (fun hy => ?_)) <;> (try simp only [Bool.not_eq_true', Bool.not_eq_false', Bool.and_eq_true, Bool.or_eq_false_iff, decide_eq_true_eq, decide_eq_false_iff_not] at hy) <;> simp (disch := first | rfl | omega | exact lt_new _ | assumption | decide | (simp [tk_here, tk_app, tk_0, tk_S, gr_here, gr_app, gr_0, gr_S] <;> omega) | fail) only [l18_20, r18_16, r18_17, r18_19, r18_18, rs18, gc18, loadV_ptr, storeV_ptr, List.append_assoc, List.length_append, List.length_cons, List.length_nil, List.set_cons_zero, List.set_cons_succ, tk_here, tk_app, gr_here, gr_app, st_here, st_app, t2, t3, ti, hlt', hx, hy2, q2, fn64, go_sem, ↓reduceIte, Nat.reduceLT, Nat.reduceEqDiff, Nat.reduceAdd, Nat.reduceMul, Nat.reduceSub, Int.reduceAdd, Int.reduceSub, Nat.reduceLeDiff, Int.reduceLT, Int.reduceLE, Int.reduceEq, Int.reduceNeg, Int.reduceToNat, hy])
          all_goals (refine finQ_app ?_; simp (disch := first | rfl | omega | exact lt_new _ | assumption | decide | (simp [tk_here, tk_app, tk_0, tk_S, gr_here, gr_app, gr_0, gr_S] <;> omega) | fail) only [go_sem, ↓reduceIte, Nat.reduceLT, Nat.reduceEqDiff, Nat.reduceAdd, Nat.reduceMul, Nat.reduceSub, Int.reduceAdd, Int.reduceSub, Nat.reduceLeDiff, Int.reduceLT, Int.reduceLE, Int.reduceEq, Int.reduceNeg, Int.reduceToNat, hS])
      · obtain rfl : i = c.secrets.length := by omega
        have hs2 : sameL scS c.secrets d.secrets = true := by rw [hs, List.drop_length, List.drop_eq_nil_of_le (by omega)]; rfl
        clear hs
        simp (disch := first | rfl | omega | exact lt_new _ | assumption | decide | (simp [tk_here, tk_app, tk_0, tk_S, gr_here, gr_app, gr_0, gr_S] <;> omega) | fail) only [l18_20, r18_16, r18_21, loadV_ptr, storeV_ptr, List.append_assoc, List.length_append, List.length_cons, List.length_nil, List.set_cons_zero, List.set_cons_succ, tk_here, tk_app, gr_here, gr_app, st_here, st_app, t2, t3, ti, Int.lt_irrefl, go_sem, ↓reduceIte, Nat.reduceLT, Nat.reduceEqDiff, Nat.reduceAdd, Nat.reduceMul, Nat.reduceSub, Int.reduceAdd, Int.reduceSub, Nat.reduceLeDiff, Int.reduceLT, Int.reduceLE, Int.reduceEq, Int.reduceNeg, Int.reduceToNat]
        refine Wp_loop (fun m T D H' => ∃ i, m = c.packets.length - i ∧ i ≤ c.packets.length ∧ D = [] ∧ H' = H ++ [.row 0 (cpE.f c) true] ∧ get T 2 = .ptr H.length 0 0 ∧ get T 3 = .ipt (cpE.f d) 0 ∧ get T 8 = .int .i64 i ∧ sameL pkS c.packets d.packets = sameL pkS (c.packets.drop i) (d.packets.drop i)) ?_ c.packets.length _ _ _ ?_
        case refine_2 => exact ⟨0, by simp (disch := first | rfl | omega | exact lt_new _ | assumption | decide | (simp [tk_here, tk_app, tk_0, tk_S, gr_here, gr_app, gr_0, gr_S] <;> omega) | fail) only [go_sem, ↓reduceIte, Nat.reduceLT, Nat.reduceEqDiff, Nat.reduceAdd, Nat.reduceMul, Nat.reduceSub, Int.reduceAdd, Int.reduceSub, Nat.reduceLeDiff, Int.reduceLT, Int.reduceLE, Int.reduceEq, Int.reduceNeg, Int.reduceToNat, t2, t3]; simp⟩
        clear t2 t3 ti
        rintro m T D H' ⟨i, rfl, hi, rfl, rfl, t2, t3, ti, hs⟩
        by_cases hlt : i < c.packets.length
        · have hlt' : (i : Int) < c.packets.length := by omega
          have hlt2 : (i : Int) < d.packets.length := by omega
          have hlt3 : i < d.packets.length := by omega
          rw [sameL_drop pkE hlt hlt3] at hs
          obtain ⟨x, hx⟩ : ∃ x, pkE.at c.packets i = x := ⟨_, rfl⟩
          obtain ⟨y, hy2⟩ : ∃ x, pkE.at d.packets i = x := ⟨_, rfl⟩
          rw [hx, hy2] at hs
          by_cases hq : pkS x y = true
          · rw [hq, Bool.true_and] at hs
            simp (disch := first | rfl | omega | exact lt_new _ | assumption | decide | (simp [tk_here, tk_app, tk_0, tk_S, gr_here, gr_app, gr_0, gr_S] <;> omega) | fail) only [l18_26, r18_22, r18_23, r18_25, loadV_ptr, storeV_ptr, List.append_assoc, List.length_append, List.length_cons, List.length_nil, List.set_cons_zero, List.set_cons_succ, tk_here, tk_app, gr_here, gr_app, st_here, st_app, t2, t3, ti, hlt', hx, hy2, hq, fn65, go_sem, ↓reduceIte, Nat.reduceLT, Nat.reduceEqDiff, Nat.reduceAdd, Nat.reduceMul, Nat.reduceSub, Int.reduceAdd, Int.reduceSub, Nat.reduceLeDiff, Int.reduceLT, Int.reduceLE, Int.reduceEq, Int.reduceNeg, Int.reduceToNat]
            repeat' ((first | refine guardB_dec (fun hy => ?_) (fun hy => ?_) | refine guardB_bool (fun hy => ?_) (fun hy => ?_) | refine guardQ_ite (fun hy => ?_) (fun hy => ?_) | refine brQ_dec (fun hy => ?_) (fun hy => ?_) | refine brQ_bool (fun hy => ?_) (fun hy => ?_)) <;> (try simp only [Bool.not_eq_true', Bool.not_eq_false', Bool.and_eq_true, Bool.or_eq_false_iff, decide_eq_true_eq, decide_eq_false_iff_not] at hy) <;> simp (disch := first | rfl | omega | exact lt_new _ | assumption | decide | (simp [tk_here, tk_app, tk_0, tk_S, gr_here, gr_app, gr_0, gr_S] <;> omega) | fail) only [l18_26, r18_22, r18_23, r18_25, loadV_ptr, storeV_ptr, List.append_assoc, List.length_append, List.length_cons, List.length_nil, List.set_cons_zero, List.set_cons_succ, tk_here, tk_app, gr_here, gr_app, st_here, st_app, t2, t3, ti, hlt', hx, hy2, hq, fn65, go_sem, ↓reduceIte, Nat.reduceLT, Nat.reduceEqDiff, Nat.reduceAdd, Nat.reduceMul, Nat.reduceSub, Int.reduceAdd, Int.reduceSub, Nat.reduceLeDiff, Int.reduceLT, Int.reduceLE, Int.reduceEq, Int.reduceNeg, Int.reduceToNat, hy])
            exact ⟨_, by omega, i + 1, rfl, hlt, rfl, hs⟩
          · have hS : sameB c d = false := by unfold sameB; rw [hs, Bool.eq_false_iff.2 hq]; simp
            simp (disch := first | rfl | omega | exact lt_new _ | assumption | decide | (simp [tk_here, tk_app, tk_0, tk_S, gr_here, gr_app, gr_0, gr_S] <;> omega) | fail) only [l18_26, r18_22, r18_23, r18_25, r18_24, rs18, gc18, loadV_ptr, storeV_ptr, List.append_assoc, List.length_append, List.length_cons, List.length_nil, List.set_cons_zero, List.set_cons_succ, tk_here, tk_app, gr_here, gr_app, st_here, st_app, t2, t3, ti, hlt', hx, hy2, hq, fn65, go_sem, ↓reduceIte, Nat.reduceLT, Nat.reduceEqDiff, Nat.reduceAdd, Nat.reduceMul, Nat.reduceSub, Int.reduceAdd, Int.reduceSub, Nat.reduceLeDiff, Int.reduceLT, Int.reduceLE, Int.reduceEq, Int.reduceNeg, Int.reduceToNat]
            repeat' ((first | refine guardB_dec (fun hy => ?_) (fun hy => ?_) | refine guardB_bool (fun hy => ?_) (fun hy => ?_) | refine guardQ_ite (fun hy => ?_) (fun hy => ?_) | refine brQ_dec (fun hy => ?_) (fun hy => ?_) | refine brQ_bool (fun hy => ?_) (fun hy => ?_)) <;> (try simp only [Bool.not_eq_true', Bool.not_eq_false', Bool.and_eq_true, Bool.or_eq_false_iff, decide_eq_true_eq, decide_eq_false_iff_not] at hy) <;> simp (disch := first | rfl | omega | exact lt_new _ | assumption | decide | (simp [tk_here, tk_app, tk_0, tk_S, gr_here, gr_app, gr_0, gr_S] <;> omega) | fail) only [l18_26, r18_22, r18_23, r18_25, r18_24, rs18, gc18, loadV_ptr, storeV_ptr, List.append_assoc, List.length_append, List.length_cons, List.length_nil, List.set_cons_zero, List.set_cons_succ, tk_here, tk_app, gr_here, gr_app, st_here, st_app, t2, t3, ti, hlt', hx, hy2, hq, fn65, go_sem, ↓reduceIte, Nat.reduceLT, Nat.reduceEqDiff, Nat.reduceAdd, Nat.reduceMul, Nat.reduceSub, Int.reduceAdd, Int.reduceSub, Nat.reduceLeDiff, Int.reduceLT, Int.reduceLE, Int.reduceEq, Int.reduceNeg, Int.reduceToNat, hy])
            all_goals (refine finQ_app ?_; simp (disch := first | rfl | omega | exact lt_new _ | assumption | decide | (simp [tk_here, tk_app, tk_0, tk_S, gr_here, gr_app, gr_0, gr_S] <;> omega) | fail) only [go_sem, ↓reduceIte, Nat.reduceLT, Nat.reduceEqDiff, Nat.reduceAdd, Nat.reduceMul, Nat.reduceSub, Int.reduceAdd, Int.reduceSub, Nat.reduceLeDiff, Int.reduceLT, Int.reduceLE, Int.reduceEq, Int.reduceNeg, Int.reduceToNat, hS])
        · obtain rfl : i = c.packets.length := by omega
          have hs3 : sameL pkS c.packets d.packets = true := by rw [hs, List.drop_length, List.drop_eq_nil_of_le (by omega)]; rfl
          clear hs
          have hS : sameB c d = true := by unfold sameB; rw [hs0, hs1, hs2, hs3, decide_eq_true g1]; rfl
          simp (disch := first | rfl | omega | exact lt_new _ | assumption | decide | (simp [tk_here, tk_app, tk_0, tk_S, gr_here, gr_app, gr_0, gr_S] <;> omega) | fail) only [l18_26, r18_22, r18_27, rs18, gc18, loadV_ptr, storeV_ptr, List.append_assoc, List.length_append, List.length_cons, List.length_nil, List.set_cons_zero, List.set_cons_succ, tk_here, tk_app, gr_here, gr_app, st_here, st_app, t2, t3, ti, Int.lt_irrefl, go_sem, ↓reduceIte, Nat.reduceLT, Nat.reduceEqDiff, Nat.reduceAdd, Nat.reduceMul, Nat.reduceSub, Int.reduceAdd, Int.reduceSub, Nat.reduceLeDiff, Int.reduceLT, Int.reduceLE, Int.reduceEq, Int.reduceNeg, Int.reduceToNat]
          refine finQ_app ?_
          simp (disch := first | rfl | omega | exact lt_new _ | assumption | decide | (simp [tk_here, tk_app, tk_0, tk_S, gr_here, gr_app, gr_0, gr_S] <;> omega) | fail) only [go_sem, ↓reduceIte, Nat.reduceLT, Nat.reduceEqDiff, Nat.reduceAdd, Nat.reduceMul, Nat.reduceSub, Int.reduceAdd, Int.reduceSub, Nat.reduceLeDiff, Int.reduceLT, Int.reduceLE, Int.reduceEq, Int.reduceNeg, Int.reduceToNat, hS]
theorem fn24 {b b' : Bool} {l l' : List Int} (hl : l.length ≤ 2 ^ 62) (H : Hp) : callL Try.prog pr 24 [slV b inE l, slV b' inE l'] H = some (.bool (decide (l = l')), H) := by
  have hd : ∀ {l l' : List Int}, sameL (fun x y => decide (x = y)) l l' = decide (l = l') := by
    intro l
    induction l with
    | nil => intro l'; cases l' <;> simp [sameL]
    | cons x l ih => intro l'; cases l' with
      | nil => simp [sameL]
      | cons y l' => simp [sameL, ih, Bool.decide_and]
  rw [← hd]
  refine run24 (Nat.le_of_ble_eq_true rfl) ?_
  by_cases hg : (l.length : Int) = l'.length
  case neg =>
    rw [sameL_len (by omega)]
    simp (disch := first | rfl | omega | exact lt_new _ | assumption | decide | (simp [tk_here, tk_app, tk_0, tk_S, gr_here, gr_app, gr_0, gr_S] <;> omega) | fail) only [r24_0, r24_1, r24_2, r24_3, r24_4, r24_5, r24_6, r24_7, l24_8, r24_9, c24, rs24, gc24, hg, go_sem, ↓reduceIte, Nat.reduceLT, Nat.reduceEqDiff, Nat.reduceAdd, Nat.reduceMul, Nat.reduceSub, Int.reduceAdd, Int.reduceSub, Nat.reduceLeDiff, Int.reduceLT, Int.reduceLE, Int.reduceEq, Int.reduceNeg, Int.reduceToNat]
    repeat' ((first | refine guardB_dec (fun hy => ?_) (fun hy => ?_) | refine guardB_bool (fun hy => ?_) (fun hy => ?_) | refine guardQ_ite (fun hy => ?_) (fun hy => ?_) | refine brQ_dec (fun hy => ?_) (fun hy => ?_) | refine brQ_bool (fun hy => ?_) (fun hy => ?_)) <;> (try simp only [Bool.not_eq_true', Bool.not_eq_false', Bool.and_eq_true, Bool.or_eq_false_iff, decide_eq_true_eq, decide_eq_false_iff_not] at hy) <;> simp (disch := first | rfl | omega | exact lt_new _ | assumption | decide | (simp [tk_here, tk_app, tk_0, tk_S, gr_here, gr_app, gr_0, gr_S] <;> omega) | fail) only [r24_0, r24_1, r24_2, r24_3, r24_4, r24_5, r24_6, r24_7, l24_8, r24_9, c24, rs24, gc24, hg, go_sem, ↓reduceIte, Nat.reduceLT, Nat.reduceEqDiff, Nat.reduceAdd, Nat.reduceMul, Nat.reduceSub, Int.reduceAdd, Int.reduceSub, Nat.reduceLeDiff, Int.reduceLT, Int.reduceLE, Int.reduceEq, Int.reduceNeg, Int.reduceToNat, hy])
    all_goals (try ((first | refine finQ_same ?_ | refine finQ_app ?_ | (rw [List.append_assoc]; refine finQ_app ?_)) <;> simp (disch := first | rfl | omega | exact lt_new _ | assumption | decide | (simp [tk_here, tk_app, tk_0, tk_S, gr_here, gr_app, gr_0, gr_S] <;> omega) | fail) only [go_sem, ↓reduceIte, Nat.reduceLT, Nat.reduceEqDiff, Nat.reduceAdd, Nat.reduceMul, Nat.reduceSub, Int.reduceAdd, Int.reduceSub, Nat.reduceLeDiff, Int.reduceLT, Int.reduceLE, Int.reduceEq, Int.reduceNeg, Int.reduceToNat, List.append_assoc, List.cons_append, List.nil_append, *]))
    all_goals (try first | rfl | (simp [*]; done) | grind)
  simp (disch := first | rfl | omega | exact lt_new _ | assumption | decide | (simp [tk_here, tk_app, tk_0, tk_S, gr_here, gr_app, gr_0, gr_S] <;> omega) | fail) only [r24_0, r24_1, r24_2, r24_3, r24_4, r24_5, r24_6, r24_7, r24_9, c24, rs24, gc24, hg, go_sem, ↓reduceIte, Nat.reduceLT, Nat.reduceEqDiff, Nat.reduceAdd, Nat.reduceMul, Nat.reduceSub, Int.reduceAdd, Int.reduceSub, Nat.reduceLeDiff, Int.reduceLT, Int.reduceLE, Int.reduceEq, Int.reduceNeg, Int.reduceToNat]
  repeat' ((first | refine guardB_dec (fun hy => ?_) (fun hy => ?_) | refine guardB_bool (fun hy => ?_) (fun hy => ?_) | refine guardQ_ite (fun hy => ?_) (fun hy => ?_) | refine brQ_dec (fun hy => ?_) (fun hy => ?_) | refine brQ_bool (fun hy => ?_) (fun hy => ?_)) <;> (try simp only [Bool.not_eq_true', Bool.not_eq_false', Bool.and_eq_true, Bool.or_eq_false_iff, decide_eq_true_eq, decide_eq_false_iff_not] at hy) <;> simp (disch := first | rfl | omega | exact lt_new _ | assumption | decide | (simp [tk_here, tk_app, tk_0, tk_S, gr_here, gr_app, gr_0, gr_S] <;> omega) | fail) only [r24_0, r24_1, r24_2, r24_3, r24_4, r24_5, r24_6, r24_7, r24_9, c24, rs24, gc24, hg, go_sem, ↓reduceIte, Nat.reduceLT, Nat.reduceEqDiff, Nat.reduceAdd, Nat.reduceMul, Nat.reduceSub, Int.reduceAdd, Int.reduceSub, Nat.reduceLeDiff, Int.reduceLT, Int.reduceLE, Int.reduceEq, Int.reduceNeg, Int.reduceToNat, hy])
  refine Wp_loop (fun m T D H' => ∃ i, m = l.length - i ∧ i ≤ l.length ∧ D = [] ∧ H' = H ∧ get T 0 = slV b inE l ∧ get T 1 = slV b' inE l' ∧ get T 5 = .int .i64 i ∧ sameL (fun x y => decide (x = y)) l l' = sameL (fun x y => decide (x = y)) (l.drop i) (l'.drop i)) ?_ l.length _ _ _ ?_
  case refine_2 => exact ⟨0, by simp [go_sem]⟩
  rintro m T D H' ⟨i, rfl, hi, rfl, rfl, t0, t1, t5, hs⟩
  by_cases hlt : i < l.length
  · have hlt' : (i : Int) < l.length := by omega
    have hlt2 : (i : Int) < l'.length := by omega
    have hlt3 : i < l'.length := by omega
    rw [sameL_drop inE hlt hlt3] at hs
    by_cases hq : inE.at l i = inE.at l' i
    · rw [decide_eq_true hq, Bool.true_and] at hs
      simp (disch := first | rfl | omega | exact lt_new _ | assumption | decide | (simp [tk_here, tk_app, tk_0, tk_S, gr_here, gr_app, gr_0, gr_S] <;> omega) | fail) only [r24_0, r24_1, r24_2, r24_3, r24_4, r24_5, r24_6, r24_7, l24_8, r24_9, c24, rs24, gc24, t0, t1, t5, hlt', hq, go_sem, ↓reduceIte, Nat.reduceLT, Nat.reduceEqDiff, Nat.reduceAdd, Nat.reduceMul, Nat.reduceSub, Int.reduceAdd, Int.reduceSub, Nat.reduceLeDiff, Int.reduceLT, Int.reduceLE, Int.reduceEq, Int.reduceNeg, Int.reduceToNat]
      repeat' ((first | refine guardB_dec (fun hy => ?_) (fun hy => ?_) | refine guardB_bool (fun hy => ?_) (fun hy => ?_) | refine guardQ_ite (fun hy => ?_) (fun hy => ?_) | refine brQ_dec (fun hy => ?_) (fun hy => ?_) | refine brQ_bool (fun hy => ?_) (fun hy => ?_)) <;> (try simp only [Bool.not_eq_true', Bool.not_eq_false', Bool.and_eq_true, Bool.or_eq_false_iff, decide_eq_true_eq, decide_eq_false_iff_not] at hy) <;> simp (disch := first | rfl | omega | exact lt_new _ | assumption | decide | (simp [tk_here, tk_app, tk_0, tk_S, gr_here, gr_app, gr_0, gr_S] <;> omega) | fail) only [r24_0, r24_1, r24_2, r24_3, r24_4, r24_5, r24_6, r24_7, l24_8, r24_9, c24, rs24, gc24, t0, t1, t5, hlt', hq, go_sem, ↓reduceIte, Nat.reduceLT, Nat.reduceEqDiff, Nat.reduceAdd, Nat.reduceMul, Nat.reduceSub, Int.reduceAdd, Int.reduceSub, Nat.reduceLeDiff, Int.reduceLT, Int.reduceLE, Int.reduceEq, Int.reduceNeg, Int.reduceToNat, hy])
      exact ⟨_, by omega, i + 1, rfl, hlt, rfl, hs⟩
    · rw [decide_eq_false hq, Bool.false_and] at hs
      simp (disch := first | rfl | omega | exact lt_new _ | assumption | decide | (simp [tk_here, tk_app, tk_0, tk_S, gr_here, gr_app, gr_0, gr_S] <;> omega) | fail) only [r24_0, r24_1, r24_2, r24_3, r24_4, r24_5, r24_6, r24_7, l24_8, r24_9, c24, rs24, gc24, t0, t1, t5, hlt', hq, go_sem, ↓reduceIte, Nat.reduceLT, Nat.reduceEqDiff, Nat.reduceAdd, Nat.reduceMul, Nat.reduceSub, Int.reduceAdd, Int.reduceSub, Nat.reduceLeDiff, Int.reduceLT, Int.reduceLE, Int.reduceEq, Int.reduceNeg, Int.reduceToNat]
      repeat' ((first | refine guardB_dec (fun hy => ?_) (fun hy => ?_) | refine guardB_bool (fun hy => ?_) (fun hy => ?_) | refine guardQ_ite (fun hy => ?_) (fun hy => ?_) | refine brQ_dec (fun hy => ?_) (fun hy => ?_) | refine brQ_bool (fun hy => ?_) (fun hy => ?_)) <;> (try simp only [Bool.not_eq_true', Bool.not_eq_false', Bool.and_eq_true, Bool.or_eq_false_iff, decide_eq_true_eq, decide_eq_false_iff_not] at hy) <;> simp (disch := first | rfl | omega | exact lt_new _ | assumption | decide | (simp [tk_here, tk_app, tk_0, tk_S, gr_here, gr_app, gr_0, gr_S] <;> omega) | fail) only [r24_0, r24_1, r24_2, r24_3, r24_4, r24_5, r24_6, r24_7, l24_8, r24_9, c24, rs24, gc24, t0, t1, t5, hlt', hq, go_sem, ↓reduceIte, Nat.reduceLT, Nat.reduceEqDiff, Nat.reduceAdd, Nat.reduceMul, Nat.reduceSub, Int.reduceAdd, Int.reduceSub, Nat.reduceLeDiff, Int.reduceLT, Int.reduceLE, Int.reduceEq, Int.reduceNeg, Int.reduceToNat, hy])
      all_goals (refine finQ_same ?_; simp (disch := first | rfl | omega | exact lt_new _ | assumption | decide | (simp [tk_here, tk_app, tk_0, tk_S, gr_here, gr_app, gr_0, gr_S] <;> omega) | fail) only [go_sem, ↓reduceIte, Nat.reduceLT, Nat.reduceEqDiff, Nat.reduceAdd, Nat.reduceMul, Nat.reduceSub, Int.reduceAdd, Int.reduceSub, Nat.reduceLeDiff, Int.reduceLT, Int.reduceLE, Int.reduceEq, Int.reduceNeg, Int.reduceToNat, hs])
  · obtain rfl : i = l.length := by omega
    have hs1 : sameL (fun x y => decide (x = y)) l l' = true := by rw [hs, List.drop_length, List.drop_eq_nil_of_le (by omega)]; rfl
    simp (disch := first | rfl | omega | exact lt_new _ | assumption | decide | (simp [tk_here, tk_app, tk_0, tk_S, gr_here, gr_app, gr_0, gr_S] <;> omega) | fail) only [r24_0, r24_1, r24_2, r24_3, r24_4, r24_5, r24_6, r24_7, l24_8, r24_9, c24, rs24, gc24, t0, t1, t5, Int.lt_irrefl, go_sem, ↓reduceIte, Nat.reduceLT, Nat.reduceEqDiff, Nat.reduceAdd, Nat.reduceMul, Nat.reduceSub, Int.reduceAdd, Int.reduceSub, Nat.reduceLeDiff, Int.reduceLT, Int.reduceLE, Int.reduceEq, Int.reduceNeg, Int.reduceToNat]
    repeat' ((first | refine guardB_dec (fun hy => ?_) (fun hy => ?_) | refine guardB_bool (fun hy => ?_) (fun hy => ?_) | refine guardQ_ite (fun hy => ?_) (fun hy => ?_) | refine brQ_dec (fun hy => ?_) (fun hy => ?_) | refine brQ_bool (fun hy => ?_) (fun hy => ?_)) <;> (try simp only [Bool.not_eq_true', Bool.not_eq_false', Bool.and_eq_true, Bool.or_eq_false_iff, decide_eq_true_eq, decide_eq_false_iff_not] at hy) <;> simp (disch := first | rfl | omega | exact lt_new _ | assumption | decide | (simp [tk_here, tk_app, tk_0, tk_S, gr_here, gr_app, gr_0, gr_S] <;> omega) | fail) only [r24_0, r24_1, r24_2, r24_3, r24_4, r24_5, r24_6, r24_7, l24_8, r24_9, c24, rs24, gc24, t0, t1, t5, Int.lt_irrefl, go_sem, ↓reduceIte, Nat.reduceLT, Nat.reduceEqDiff, Nat.reduceAdd, Nat.reduceMul, Nat.reduceSub, Int.reduceAdd, Int.reduceSub, Nat.reduceLeDiff, Int.reduceLT, Int.reduceLE, Int.reduceEq, Int.reduceNeg, Int.reduceToNat, hy])
    refine finQ_same ?_
    simp (disch := first | rfl | omega | exact lt_new _ | assumption | decide | (simp [tk_here, tk_app, tk_0, tk_S, gr_here, gr_app, gr_0, gr_S] <;> omega) | fail) only [go_sem, ↓reduceIte, Nat.reduceLT, Nat.reduceEqDiff, Nat.reduceAdd, Nat.reduceMul, Nat.reduceSub, Int.reduceAdd, Int.reduceSub, Nat.reduceLeDiff, Int.reduceLT, Int.reduceLE, Int.reduceEq, Int.reduceNeg, Int.reduceToNat, hs1]
end Go.Proofs.Ytejkgnmjdaohdaa
/-
  Library functions at this program's types; all captures asked. No statement of the seat stands here.
-/
namespace Go.Proofs.Ytejkgnmjdaohdaa
open Go Go.An
set_option maxRecDepth 4000
set_option linter.unusedSimpArgs false
set_option linter.unusedVariables false

theorem fn71 {b b' : Bool} {l l' : List UInt8} (hl : l.length ≤ 2 ^ 62) (H : Hp) : callL Try.prog pr 71 [slV b byE l, slV b' byE l'] H = some (.bool (decide (l = l')), H) := by
  rw [← sameL_eq]
  refine run71 (Nat.le_of_ble_eq_true rfl) ?_
  by_cases hg : (l.length : Int) = l'.length
  case neg =>
    rw [sameL_len (by omega)]
    simp (disch := first | rfl | omega | exact lt_new _ | assumption | decide | (simp [tk_here, tk_app, tk_0, tk_S, gr_here, gr_app, gr_0, gr_S] <;> omega) | fail) only [r71_0, r71_1, r71_2, r71_3, r71_4, r71_5, r71_6, r71_7, r71_8, l71_9, r71_10, c71, rs71, gc71, go_sem, ↓reduceIte, Nat.reduceLT, Nat.reduceEqDiff, Nat.reduceAdd, Nat.reduceMul, Nat.reduceSub, Int.reduceAdd, Int.reduceSub, Nat.reduceLeDiff, Int.reduceLT, Int.reduceLE, Int.reduceEq, Int.reduceNeg, Int.reduceToNat, hg]
    exact finQ_same (by simp (disch := first | rfl | omega | exact lt_new _ | assumption | decide | (simp [tk_here, tk_app, tk_0, tk_S, gr_here, gr_app, gr_0, gr_S] <;> omega) | fail) only [go_sem, ↓reduceIte, Nat.reduceLT, Nat.reduceEqDiff, Nat.reduceAdd, Nat.reduceMul, Nat.reduceSub, Int.reduceAdd, Int.reduceSub, Nat.reduceLeDiff, Int.reduceLT, Int.reduceLE, Int.reduceEq, Int.reduceNeg, Int.reduceToNat])
  simp (disch := first | rfl | omega | exact lt_new _ | assumption | decide | (simp [tk_here, tk_app, tk_0, tk_S, gr_here, gr_app, gr_0, gr_S] <;> omega) | fail) only [r71_0, r71_1, r71_2, r71_3, r71_4, r71_5, r71_6, r71_7, r71_8, r71_10, c71, rs71, gc71, go_sem, ↓reduceIte, Nat.reduceLT, Nat.reduceEqDiff, Nat.reduceAdd, Nat.reduceMul, Nat.reduceSub, Int.reduceAdd, Int.reduceSub, Nat.reduceLeDiff, Int.reduceLT, Int.reduceLE, Int.reduceEq, Int.reduceNeg, Int.reduceToNat, hg]
  refine Wp_loop (fun m T D H' => ∃ i, m = l.length - i ∧ i ≤ l.length ∧ D = [] ∧ H' = H ∧ get T 0 = slV b byE l ∧ get T 1 = slV b' byE l' ∧ get T 12 = .int .i64 l.length ∧ get T 13 = .int .i64 i ∧ sameL (fun x y => decide (x = y)) l l' = sameL (fun x y => decide (x = y)) (l.drop i) (l'.drop i)) ?_ l.length _ _ _ ?_
  case refine_2 => exact ⟨0, by simp [go_sem, hg]⟩
  rintro m T D H' ⟨i, rfl, hi, rfl, rfl, t0, t1, t12, t13, hs⟩
  by_cases hlt : i < l.length
  · have hlt' : (i : Int) < l.length := by omega
    have hlt3 : i < l'.length := by omega
    have hlt2 : (i : Int) < l'.length := by omega
    rw [sameL_drop byE hlt hlt3] at hs
    by_cases hq : byE.at l i = byE.at l' i
    · rw [decide_eq_true hq, Bool.true_and] at hs
      simp (disch := first | rfl | omega | exact lt_new _ | assumption | decide | (simp [tk_here, tk_app, tk_0, tk_S, gr_here, gr_app, gr_0, gr_S] <;> omega) | fail) only [r71_0, r71_1, r71_2, r71_3, r71_4, r71_5, r71_6, r71_7, r71_8, l71_9, r71_10, c71, rs71, gc71, go_sem, ↓reduceIte, Nat.reduceLT, Nat.reduceEqDiff, Nat.reduceAdd, Nat.reduceMul, Nat.reduceSub, Int.reduceAdd, Int.reduceSub, Nat.reduceLeDiff, Int.reduceLT, Int.reduceLE, Int.reduceEq, Int.reduceNeg, Int.reduceToNat, t0, t1, t12, t13, hlt', hq]
      exact ⟨_, by omega, i + 1, rfl, hlt, rfl, hs⟩
    · rw [decide_eq_false hq, Bool.false_and] at hs
      have hq2 := hq
      rw [← UInt8.toNat_inj, ← Int.natCast_inj] at hq2
      simp (disch := first | rfl | omega | exact lt_new _ | assumption | decide | (simp [tk_here, tk_app, tk_0, tk_S, gr_here, gr_app, gr_0, gr_S] <;> omega) | fail) only [r71_0, r71_1, r71_2, r71_3, r71_4, r71_5, r71_6, r71_7, r71_8, l71_9, r71_10, c71, rs71, gc71, go_sem, ↓reduceIte, Nat.reduceLT, Nat.reduceEqDiff, Nat.reduceAdd, Nat.reduceMul, Nat.reduceSub, Int.reduceAdd, Int.reduceSub, Nat.reduceLeDiff, Int.reduceLT, Int.reduceLE, Int.reduceEq, Int.reduceNeg, Int.reduceToNat, t0, t1, t12, t13, hlt', hq2]
      exact finQ_same (by simp (disch := first | rfl | omega | exact lt_new _ | assumption | decide | (simp [tk_here, tk_app, tk_0, tk_S, gr_here, gr_app, gr_0, gr_S] <;> omega) | fail) only [go_sem, ↓reduceIte, Nat.reduceLT, Nat.reduceEqDiff, Nat.reduceAdd, Nat.reduceMul, Nat.reduceSub, Int.reduceAdd, Int.reduceSub, Nat.reduceLeDiff, Int.reduceLT, Int.reduceLE, Int.reduceEq, Int.reduceNeg, Int.reduceToNat, hs])
  · obtain rfl : i = l.length := by omega
    have hs1 : sameL (fun x y => decide (x = y)) l l' = true := by rw [hs, List.drop_length, List.drop_eq_nil_of_le (by omega)]; rfl
    simp (disch := first | rfl | omega | exact lt_new _ | assumption | decide | (simp [tk_here, tk_app, tk_0, tk_S, gr_here, gr_app, gr_0, gr_S] <;> omega) | fail) only [r71_0, r71_1, r71_2, r71_3, r71_4, r71_5, r71_6, r71_7, r71_8, l71_9, r71_10, c71, rs71, gc71, go_sem, ↓reduceIte, Nat.reduceLT, Nat.reduceEqDiff, Nat.reduceAdd, Nat.reduceMul, Nat.reduceSub, Int.reduceAdd, Int.reduceSub, Nat.reduceLeDiff, Int.reduceLT, Int.reduceLE, Int.reduceEq, Int.reduceNeg, Int.reduceToNat, t0, t1, t12, t13, Int.lt_irrefl]
    exact finQ_same (by simp (disch := first | rfl | omega | exact lt_new _ | assumption | decide | (simp [tk_here, tk_app, tk_0, tk_S, gr_here, gr_app, gr_0, gr_S] <;> omega) | fail) only [go_sem, ↓reduceIte, Nat.reduceLT, Nat.reduceEqDiff, Nat.reduceAdd, Nat.reduceMul, Nat.reduceSub, Int.reduceAdd, Int.reduceSub, Nat.reduceLeDiff, Int.reduceLT, Int.reduceLE, Int.reduceEq, Int.reduceNeg, Int.reduceToNat, hs1])

theorem fn128 {b b' : Bool} {l l' : List Fc} (hl : l.length ≤ 2 ^ 62) (H : Hp) : callL Try.prog pr 128 [slV b fcE l, slV b' fcE l'] H = some (.bool (decide (l = l')), H) := by
  rw [← sameL_eq]
  refine run128 (Nat.le_of_ble_eq_true rfl) ?_
  by_cases hg : (l.length : Int) = l'.length
  case neg =>
    rw [sameL_len (by omega)]
    simp (disch := first | rfl | omega | exact lt_new _ | assumption | decide | (simp [tk_here, tk_app, tk_0, tk_S, gr_here, gr_app, gr_0, gr_S] <;> omega) | fail) only [r128_0, r128_1, r128_2, r128_3, r128_4, r128_5, r128_6, r128_7, r128_8, l128_9, r128_10, c128, rs128, gc128, go_sem, ↓reduceIte, Nat.reduceLT, Nat.reduceEqDiff, Nat.reduceAdd, Nat.reduceMul, Nat.reduceSub, Int.reduceAdd, Int.reduceSub, Nat.reduceLeDiff, Int.reduceLT, Int.reduceLE, Int.reduceEq, Int.reduceNeg, Int.reduceToNat, hg]
    exact finQ_same (by simp (disch := first | rfl | omega | exact lt_new _ | assumption | decide | (simp [tk_here, tk_app, tk_0, tk_S, gr_here, gr_app, gr_0, gr_S] <;> omega) | fail) only [go_sem, ↓reduceIte, Nat.reduceLT, Nat.reduceEqDiff, Nat.reduceAdd, Nat.reduceMul, Nat.reduceSub, Int.reduceAdd, Int.reduceSub, Nat.reduceLeDiff, Int.reduceLT, Int.reduceLE, Int.reduceEq, Int.reduceNeg, Int.reduceToNat])
  simp (disch := first | rfl | omega | exact lt_new _ | assumption | decide | (simp [tk_here, tk_app, tk_0, tk_S, gr_here, gr_app, gr_0, gr_S] <;> omega) | fail) only [r128_0, r128_1, r128_2, r128_3, r128_4, r128_5, r128_6, r128_7, r128_8, r128_10, c128, rs128, gc128, go_sem, ↓reduceIte, Nat.reduceLT, Nat.reduceEqDiff, Nat.reduceAdd, Nat.reduceMul, Nat.reduceSub, Int.reduceAdd, Int.reduceSub, Nat.reduceLeDiff, Int.reduceLT, Int.reduceLE, Int.reduceEq, Int.reduceNeg, Int.reduceToNat, hg]
  refine Wp_loop (fun m T D H' => ∃ i, m = l.length - i ∧ i ≤ l.length ∧ D = [] ∧ H' = H ∧ get T 0 = slV b fcE l ∧ get T 1 = slV b' fcE l' ∧ get T 12 = .int .i64 l.length ∧ get T 13 = .int .i64 i ∧ sameL (fun x y => decide (x = y)) l l' = sameL (fun x y => decide (x = y)) (l.drop i) (l'.drop i)) ?_ l.length _ _ _ ?_
  case refine_2 => exact ⟨0, by simp [go_sem, hg]⟩
  rintro m T D H' ⟨i, rfl, hi, rfl, rfl, t0, t1, t12, t13, hs⟩
  by_cases hlt : i < l.length
  · have hlt' : (i : Int) < l.length := by omega
    have hlt3 : i < l'.length := by omega
    have hlt2 : (i : Int) < l'.length := by omega
    rw [sameL_drop fcE hlt hlt3] at hs
    by_cases hq : fcE.at l i = fcE.at l' i
    · rw [decide_eq_true hq, Bool.true_and] at hs
      simp (disch := first | rfl | omega | exact lt_new _ | assumption | decide | (simp [tk_here, tk_app, tk_0, tk_S, gr_here, gr_app, gr_0, gr_S] <;> omega) | fail) only [r128_0, r128_1, r128_2, r128_3, r128_4, r128_5, r128_6, r128_7, r128_8, l128_9, r128_10, c128, rs128, gc128, go_sem, ↓reduceIte, Nat.reduceLT, Nat.reduceEqDiff, Nat.reduceAdd, Nat.reduceMul, Nat.reduceSub, Int.reduceAdd, Int.reduceSub, Nat.reduceLeDiff, Int.reduceLT, Int.reduceLE, Int.reduceEq, Int.reduceNeg, Int.reduceToNat, t0, t1, t12, t13, hlt', hq, fcS]
      exact ⟨_, by omega, i + 1, rfl, hlt, rfl, hs⟩
    · rw [decide_eq_false hq, Bool.false_and] at hs
      have hq2 := hq
      try simp only [fcS, decide_eq_false_iff_not] at hq2
      simp (disch := first | rfl | omega | exact lt_new _ | assumption | decide | (simp [tk_here, tk_app, tk_0, tk_S, gr_here, gr_app, gr_0, gr_S] <;> omega) | fail) only [r128_0, r128_1, r128_2, r128_3, r128_4, r128_5, r128_6, r128_7, r128_8, l128_9, r128_10, c128, rs128, gc128, go_sem, ↓reduceIte, Nat.reduceLT, Nat.reduceEqDiff, Nat.reduceAdd, Nat.reduceMul, Nat.reduceSub, Int.reduceAdd, Int.reduceSub, Nat.reduceLeDiff, Int.reduceLT, Int.reduceLE, Int.reduceEq, Int.reduceNeg, Int.reduceToNat, t0, t1, t12, t13, hlt', hq2, fcS]
      exact finQ_same (by simp (disch := first | rfl | omega | exact lt_new _ | assumption | decide | (simp [tk_here, tk_app, tk_0, tk_S, gr_here, gr_app, gr_0, gr_S] <;> omega) | fail) only [go_sem, ↓reduceIte, Nat.reduceLT, Nat.reduceEqDiff, Nat.reduceAdd, Nat.reduceMul, Nat.reduceSub, Int.reduceAdd, Int.reduceSub, Nat.reduceLeDiff, Int.reduceLT, Int.reduceLE, Int.reduceEq, Int.reduceNeg, Int.reduceToNat, hs])
  · obtain rfl : i = l.length := by omega
    have hs1 : sameL (fun x y => decide (x = y)) l l' = true := by rw [hs, List.drop_length, List.drop_eq_nil_of_le (by omega)]; rfl
    simp (disch := first | rfl | omega | exact lt_new _ | assumption | decide | (simp [tk_here, tk_app, tk_0, tk_S, gr_here, gr_app, gr_0, gr_S] <;> omega) | fail) only [r128_0, r128_1, r128_2, r128_3, r128_4, r128_5, r128_6, r128_7, r128_8, l128_9, r128_10, c128, rs128, gc128, go_sem, ↓reduceIte, Nat.reduceLT, Nat.reduceEqDiff, Nat.reduceAdd, Nat.reduceMul, Nat.reduceSub, Int.reduceAdd, Int.reduceSub, Nat.reduceLeDiff, Int.reduceLT, Int.reduceLE, Int.reduceEq, Int.reduceNeg, Int.reduceToNat, t0, t1, t12, t13, Int.lt_irrefl]
    exact finQ_same (by simp (disch := first | rfl | omega | exact lt_new _ | assumption | decide | (simp [tk_here, tk_app, tk_0, tk_S, gr_here, gr_app, gr_0, gr_S] <;> omega) | fail) only [go_sem, ↓reduceIte, Nat.reduceLT, Nat.reduceEqDiff, Nat.reduceAdd, Nat.reduceMul, Nat.reduceSub, Int.reduceAdd, Int.reduceSub, Nat.reduceLeDiff, Int.reduceLT, Int.reduceLE, Int.reduceEq, Int.reduceNeg, Int.reduceToNat, hs1])

theorem fn122 {b b' : Bool} {l l' : List Nm} (hl : l.length ≤ 2 ^ 62) (S : Nm → Nm → Bool) (f : Nat) (hk : ∀ v, demK f v = v.dem) (hf : ∀ x ∈ l, ∀ y ∈ l', ∀ H, callL Try.prog pr f [.agg (nmE.f x), .agg (nmE.f y)] H = some (.bool (S x y), H)) (H : Hp) : callL Try.prog pr 122 [slV b nmE l, slV b' nmE l', .fn f [] []] H = some (.bool (sameL S l l'), H) := by
  have hfy := ne_demK hk
  refine run122 (Nat.le_of_ble_eq_true rfl) ?_
  by_cases hg : (l.length : Int) = l'.length
  case neg =>
    rw [sameL_len (by omega)]
    simp (disch := first | rfl | omega | exact lt_new _ | assumption | decide | (simp [tk_here, tk_app, tk_0, tk_S, gr_here, gr_app, gr_0, gr_S] <;> omega) | fail) only [r122_0, r122_1, r122_2, r122_3, r122_4, r122_5, r122_6, r122_7, r122_8, r122_9, l122_10, r122_11, c122, rs122, gc122, go_sem, ↓reduceIte, Nat.reduceLT, Nat.reduceEqDiff, Nat.reduceAdd, Nat.reduceMul, Nat.reduceSub, Int.reduceAdd, Int.reduceSub, Nat.reduceLeDiff, Int.reduceLT, Int.reduceLE, Int.reduceEq, Int.reduceNeg, Int.reduceToNat, hg]
    exact finQ_same (by simp (disch := first | rfl | omega | exact lt_new _ | assumption | decide | (simp [tk_here, tk_app, tk_0, tk_S, gr_here, gr_app, gr_0, gr_S] <;> omega) | fail) only [go_sem, ↓reduceIte, Nat.reduceLT, Nat.reduceEqDiff, Nat.reduceAdd, Nat.reduceMul, Nat.reduceSub, Int.reduceAdd, Int.reduceSub, Nat.reduceLeDiff, Int.reduceLT, Int.reduceLE, Int.reduceEq, Int.reduceNeg, Int.reduceToNat])
  simp (disch := first | rfl | omega | exact lt_new _ | assumption | decide | (simp [tk_here, tk_app, tk_0, tk_S, gr_here, gr_app, gr_0, gr_S] <;> omega) | fail) only [r122_0, r122_1, r122_2, r122_3, r122_4, r122_5, r122_6, r122_7, r122_8, r122_9, r122_11, c122, rs122, gc122, go_sem, ↓reduceIte, Nat.reduceLT, Nat.reduceEqDiff, Nat.reduceAdd, Nat.reduceMul, Nat.reduceSub, Int.reduceAdd, Int.reduceSub, Nat.reduceLeDiff, Int.reduceLT, Int.reduceLE, Int.reduceEq, Int.reduceNeg, Int.reduceToNat, hg]
  refine Wp_loop (fun m T D H' => ∃ i G, m = l.length - i ∧ i ≤ l.length ∧ D = [] ∧ H' = H ++ G ∧ get T 1 = slV b' nmE l' ∧ get T 2 = .fn f [] [] ∧ get T 15 = slV b nmE l ∧ get T 16 = .int .i64 l.length ∧ get T 17 = .int .i64 i ∧ sameL S l l' = sameL S (l.drop i) (l'.drop i)) ?_ l.length _ _ _ ?_
  case refine_2 => exact ⟨0, [], by simp [go_sem, hg]⟩
  rintro m T D H' ⟨i, G, rfl, hi, rfl, rfl, t1, t2, t15, t16, t17, hs⟩
  by_cases hlt : i < l.length
  · have hlt' : (i : Int) < l.length := by omega
    have hlt3 : i < l'.length := by omega
    have hlt2 : (i : Int) < l'.length := by omega
    rw [sameL_drop nmE hlt hlt3] at hs
    have hfi := hf _ (nmE.at_mem hlt) _ (nmE.at_mem hlt3)
    by_cases hq : S (nmE.at l i) (nmE.at l' i) = true
    · rw [hq, Bool.true_and] at hs
      simp (disch := first | rfl | omega | exact lt_new _ | assumption | decide | (simp [tk_here, tk_app, tk_0, tk_S, gr_here, gr_app, gr_0, gr_S] <;> omega) | fail) only [r122_0, r122_1, r122_2, r122_3, r122_4, r122_5, r122_6, r122_7, r122_8, r122_9, l122_10, r122_11, c122, rs122, gc122, go_sem, ↓reduceIte, Nat.reduceLT, Nat.reduceEqDiff, Nat.reduceAdd, Nat.reduceMul, Nat.reduceSub, Int.reduceAdd, Int.reduceSub, Nat.reduceLeDiff, Int.reduceLT, Int.reduceLE, Int.reduceEq, Int.reduceNeg, Int.reduceToNat, loadV_ptr, storeV_ptr, List.append_assoc, List.length_append, List.length_cons, List.length_nil, List.set_cons_zero, List.set_cons_succ, tk_here, tk_app, gr_here, gr_app, st_here, st_app, t1, t2, t15, t16, t17, hlt', hq, hk, hfi]
      exact ⟨_, by omega, i + 1, _, rfl, hlt, rfl, rfl, hs⟩
    · rw [Bool.not_eq_true] at hq
      rw [hq, Bool.false_and] at hs
      simp (disch := first | rfl | omega | exact lt_new _ | assumption | decide | (simp [tk_here, tk_app, tk_0, tk_S, gr_here, gr_app, gr_0, gr_S] <;> omega) | fail) only [r122_0, r122_1, r122_2, r122_3, r122_4, r122_5, r122_6, r122_7, r122_8, r122_9, l122_10, r122_11, c122, rs122, gc122, go_sem, ↓reduceIte, Nat.reduceLT, Nat.reduceEqDiff, Nat.reduceAdd, Nat.reduceMul, Nat.reduceSub, Int.reduceAdd, Int.reduceSub, Nat.reduceLeDiff, Int.reduceLT, Int.reduceLE, Int.reduceEq, Int.reduceNeg, Int.reduceToNat, loadV_ptr, storeV_ptr, List.append_assoc, List.length_append, List.length_cons, List.length_nil, List.set_cons_zero, List.set_cons_succ, tk_here, tk_app, gr_here, gr_app, st_here, st_app, t1, t2, t15, t16, t17, hlt', hq, hk, hfi]
      exact finQ_app (by simp (disch := first | rfl | omega | exact lt_new _ | assumption | decide | (simp [tk_here, tk_app, tk_0, tk_S, gr_here, gr_app, gr_0, gr_S] <;> omega) | fail) only [go_sem, ↓reduceIte, Nat.reduceLT, Nat.reduceEqDiff, Nat.reduceAdd, Nat.reduceMul, Nat.reduceSub, Int.reduceAdd, Int.reduceSub, Nat.reduceLeDiff, Int.reduceLT, Int.reduceLE, Int.reduceEq, Int.reduceNeg, Int.reduceToNat, hs])
  · obtain rfl : i = l.length := by omega
    have hs1 : sameL S l l' = true := by rw [hs, List.drop_length, List.drop_eq_nil_of_le (by omega)]; rfl
    simp (disch := first | rfl | omega | exact lt_new _ | assumption | decide | (simp [tk_here, tk_app, tk_0, tk_S, gr_here, gr_app, gr_0, gr_S] <;> omega) | fail) only [r122_0, r122_1, r122_2, r122_3, r122_4, r122_5, r122_6, r122_7, r122_8, r122_9, l122_10, r122_11, c122, rs122, gc122, go_sem, ↓reduceIte, Nat.reduceLT, Nat.reduceEqDiff, Nat.reduceAdd, Nat.reduceMul, Nat.reduceSub, Int.reduceAdd, Int.reduceSub, Nat.reduceLeDiff, Int.reduceLT, Int.reduceLE, Int.reduceEq, Int.reduceNeg, Int.reduceToNat, t1, t2, t15, t16, t17, Int.lt_irrefl]
    exact finQ_app (by simp (disch := first | rfl | omega | exact lt_new _ | assumption | decide | (simp [tk_here, tk_app, tk_0, tk_S, gr_here, gr_app, gr_0, gr_S] <;> omega) | fail) only [go_sem, ↓reduceIte, Nat.reduceLT, Nat.reduceEqDiff, Nat.reduceAdd, Nat.reduceMul, Nat.reduceSub, Int.reduceAdd, Int.reduceSub, Nat.reduceLeDiff, Int.reduceLT, Int.reduceLE, Int.reduceEq, Int.reduceNeg, Int.reduceToNat, hs1])

theorem fn124 {b b' : Bool} {l l' : List Sc} (hl : l.length ≤ 2 ^ 62) (S : Sc → Sc → Bool) (f : Nat) (hk : ∀ v, demK f v = v.dem) (hf : ∀ x ∈ l, ∀ y ∈ l', ∀ H, callL Try.prog pr f [.agg (scE.f x), .agg (scE.f y)] H = some (.bool (S x y), H)) (H : Hp) : callL Try.prog pr 124 [slV b scE l, slV b' scE l', .fn f [] []] H = some (.bool (sameL S l l'), H) := by
  have hfy := ne_demK hk
  refine run124 (Nat.le_of_ble_eq_true rfl) ?_
  by_cases hg : (l.length : Int) = l'.length
  case neg =>
    rw [sameL_len (by omega)]
    simp (disch := first | rfl | omega | exact lt_new _ | assumption | decide | (simp [tk_here, tk_app, tk_0, tk_S, gr_here, gr_app, gr_0, gr_S] <;> omega) | fail) only [r124_0, r124_1, r124_2, r124_3, r124_4, r124_5, r124_6, r124_7, r124_8, r124_9, l124_10, r124_11, c124, rs124, gc124, go_sem, ↓reduceIte, Nat.reduceLT, Nat.reduceEqDiff, Nat.reduceAdd, Nat.reduceMul, Nat.reduceSub, Int.reduceAdd, Int.reduceSub, Nat.reduceLeDiff, Int.reduceLT, Int.reduceLE, Int.reduceEq, Int.reduceNeg, Int.reduceToNat, hg]
    exact finQ_same (by simp (disch := first | rfl | omega | exact lt_new _ | assumption | decide | (simp [tk_here, tk_app, tk_0, tk_S, gr_here, gr_app, gr_0, gr_S] <;> omega) | fail) only [go_sem, ↓reduceIte, Nat.reduceLT, Nat.reduceEqDiff, Nat.reduceAdd, Nat.reduceMul, Nat.reduceSub, Int.reduceAdd, Int.reduceSub, Nat.reduceLeDiff, Int.reduceLT, Int.reduceLE, Int.reduceEq, Int.reduceNeg, Int.reduceToNat])
  simp (disch := first | rfl | omega | exact lt_new _ | assumption | decide | (simp [tk_here, tk_app, tk_0, tk_S, gr_here, gr_app, gr_0, gr_S] <;> omega) | fail) only [r124_0, r124_1, r124_2, r124_3, r124_4, r124_5, r124_6, r124_7, r124_8, r124_9, r124_11, c124, rs124, gc124, go_sem, ↓reduceIte, Nat.reduceLT, Nat.reduceEqDiff, Nat.reduceAdd, Nat.reduceMul, Nat.reduceSub, Int.reduceAdd, Int.reduceSub, Nat.reduceLeDiff, Int.reduceLT, Int.reduceLE, Int.reduceEq, Int.reduceNeg, Int.reduceToNat, hg]
  refine Wp_loop (fun m T D H' => ∃ i G, m = l.length - i ∧ i ≤ l.length ∧ D = [] ∧ H' = H ++ G ∧ get T 1 = slV b' scE l' ∧ get T 2 = .fn f [] [] ∧ get T 15 = slV b scE l ∧ get T 16 = .int .i64 l.length ∧ get T 17 = .int .i64 i ∧ sameL S l l' = sameL S (l.drop i) (l'.drop i)) ?_ l.length _ _ _ ?_
  case refine_2 => exact ⟨0, [], by simp [go_sem, hg]⟩
  rintro m T D H' ⟨i, G, rfl, hi, rfl, rfl, t1, t2, t15, t16, t17, hs⟩
  by_cases hlt : i < l.length
  · have hlt' : (i : Int) < l.length := by omega
    have hlt3 : i < l'.length := by omega
    have hlt2 : (i : Int) < l'.length := by omega
    rw [sameL_drop scE hlt hlt3] at hs
    have hfi := hf _ (scE.at_mem hlt) _ (scE.at_mem hlt3)
    by_cases hq : S (scE.at l i) (scE.at l' i) = true
    · rw [hq, Bool.true_and] at hs
      simp (disch := first | rfl | omega | exact lt_new _ | assumption | decide | (simp [tk_here, tk_app, tk_0, tk_S, gr_here, gr_app, gr_0, gr_S] <;> omega) | fail) only [r124_0, r124_1, r124_2, r124_3, r124_4, r124_5, r124_6, r124_7, r124_8, r124_9, l124_10, r124_11, c124, rs124, gc124, go_sem, ↓reduceIte, Nat.reduceLT, Nat.reduceEqDiff, Nat.reduceAdd, Nat.reduceMul, Nat.reduceSub, Int.reduceAdd, Int.reduceSub, Nat.reduceLeDiff, Int.reduceLT, Int.reduceLE, Int.reduceEq, Int.reduceNeg, Int.reduceToNat, loadV_ptr, storeV_ptr, List.append_assoc, List.length_append, List.length_cons, List.length_nil, List.set_cons_zero, List.set_cons_succ, tk_here, tk_app, gr_here, gr_app, st_here, st_app, t1, t2, t15, t16, t17, hlt', hq, hk, hfi]
      exact ⟨_, by omega, i + 1, _, rfl, hlt, rfl, rfl, hs⟩
    · rw [Bool.not_eq_true] at hq
      rw [hq, Bool.false_and] at hs
      simp (disch := first | rfl | omega | exact lt_new _ | assumption | decide | (simp [tk_here, tk_app, tk_0, tk_S, gr_here, gr_app, gr_0, gr_S] <;> omega) | fail) only [r124_0, r124_1, r124_2, r124_3, r124_4, r124_5, r124_6, r124_7, r124_8, r124_9, l124_10, r124_11, c124, rs124, gc124, go_sem, ↓reduceIte, Nat.reduceLT, Nat.reduceEqDiff, Nat.reduceAdd, Nat.reduceMul, Nat.reduceSub, Int.reduceAdd, Int.reduceSub, Nat.reduceLeDiff, Int.reduceLT, Int.reduceLE, Int.reduceEq, Int.reduceNeg, Int.reduceToNat, loadV_ptr, storeV_ptr, List.append_assoc, List.length_append, List.length_cons, List.length_nil, List.set_cons_zero, List.set_cons_succ, tk_here, tk_app, gr_here, gr_app, st_here, st_app, t1, t2, t15, t16, t17, hlt', hq, hk, hfi]
      exact finQ_app (by simp (disch := first | rfl | omega | exact lt_new _ | assumption | decide | (simp [tk_here, tk_app, tk_0, tk_S, gr_here, gr_app, gr_0, gr_S] <;> omega) | fail) only [go_sem, ↓reduceIte, Nat.reduceLT, Nat.reduceEqDiff, Nat.reduceAdd, Nat.reduceMul, Nat.reduceSub, Int.reduceAdd, Int.reduceSub, Nat.reduceLeDiff, Int.reduceLT, Int.reduceLE, Int.reduceEq, Int.reduceNeg, Int.reduceToNat, hs])
  · obtain rfl : i = l.length := by omega
    have hs1 : sameL S l l' = true := by rw [hs, List.drop_length, List.drop_eq_nil_of_le (by omega)]; rfl
    simp (disch := first | rfl | omega | exact lt_new _ | assumption | decide | (simp [tk_here, tk_app, tk_0, tk_S, gr_here, gr_app, gr_0, gr_S] <;> omega) | fail) only [r124_0, r124_1, r124_2, r124_3, r124_4, r124_5, r124_6, r124_7, r124_8, r124_9, l124_10, r124_11, c124, rs124, gc124, go_sem, ↓reduceIte, Nat.reduceLT, Nat.reduceEqDiff, Nat.reduceAdd, Nat.reduceMul, Nat.reduceSub, Int.reduceAdd, Int.reduceSub, Nat.reduceLeDiff, Int.reduceLT, Int.reduceLE, Int.reduceEq, Int.reduceNeg, Int.reduceToNat, t1, t2, t15, t16, t17, Int.lt_irrefl]
    exact finQ_app (by simp (disch := first | rfl | omega | exact lt_new _ | assumption | decide | (simp [tk_here, tk_app, tk_0, tk_S, gr_here, gr_app, gr_0, gr_S] <;> omega) | fail) only [go_sem, ↓reduceIte, Nat.reduceLT, Nat.reduceEqDiff, Nat.reduceAdd, Nat.reduceMul, Nat.reduceSub, Int.reduceAdd, Int.reduceSub, Nat.reduceLeDiff, Int.reduceLT, Int.reduceLE, Int.reduceEq, Int.reduceNeg, Int.reduceToNat, hs1])

theorem fn126 {b b' : Bool} {l l' : List Pk} (hl : l.length ≤ 2 ^ 62) (S : Pk → Pk → Bool) (f : Nat) (hk : ∀ v, demK f v = v.dem) (hf : ∀ x ∈ l, ∀ y ∈ l', ∀ H, callL Try.prog pr f [.agg (pkE.f x), .agg (pkE.f y)] H = some (.bool (S x y), H)) (H : Hp) : callL Try.prog pr 126 [slV b pkE l, slV b' pkE l', .fn f [] []] H = some (.bool (sameL S l l'), H) := by
  have hfy := ne_demK hk
  refine run126 (Nat.le_of_ble_eq_true rfl) ?_
  by_cases hg : (l.length : Int) = l'.length
  case neg =>
    rw [sameL_len (by omega)]
    simp (disch := first | rfl | omega | exact lt_new _ | assumption | decide | (simp [tk_here, tk_app, tk_0, tk_S, gr_here, gr_app, gr_0, gr_S] <;> omega) | fail) only [r126_0, r126_1, r126_2, r126_3, r126_4, r126_5, r126_6, r126_7, r126_8, r126_9, l126_10, r126_11, c126, rs126, gc126, go_sem, ↓reduceIte, Nat.reduceLT, Nat.reduceEqDiff, Nat.reduceAdd, Nat.reduceMul, Nat.reduceSub, Int.reduceAdd, Int.reduceSub, Nat.reduceLeDiff, Int.reduceLT, Int.reduceLE, Int.reduceEq, Int.reduceNeg, Int.reduceToNat, hg]
    exact finQ_same (by simp (disch := first | rfl | omega | exact lt_new _ | assumption | decide | (simp [tk_here, tk_app, tk_0, tk_S, gr_here, gr_app, gr_0, gr_S] <;> omega) | fail) only [go_sem, ↓reduceIte, Nat.reduceLT, Nat.reduceEqDiff, Nat.reduceAdd, Nat.reduceMul, Nat.reduceSub, Int.reduceAdd, Int.reduceSub, Nat.reduceLeDiff, Int.reduceLT, Int.reduceLE, Int.reduceEq, Int.reduceNeg, Int.reduceToNat])
  simp (disch := first | rfl | omega | exact lt_new _ | assumption | decide | (simp [tk_here, tk_app, tk_0, tk_S, gr_here, gr_app, gr_0, gr_S] <;> omega) | fail) only [r126_0, r126_1, r126_2, r126_3, r126_4, r126_5, r126_6, r126_7, r126_8, r126_9, r126_11, c126, rs126, gc126, go_sem, ↓reduceIte, Nat.reduceLT, Nat.reduceEqDiff, Nat.reduceAdd, Nat.reduceMul, Nat.reduceSub, Int.reduceAdd, Int.reduceSub, Nat.reduceLeDiff, Int.reduceLT, Int.reduceLE, Int.reduceEq, Int.reduceNeg, Int.reduceToNat, hg]
  refine Wp_loop (fun m T D H' => ∃ i G, m = l.length - i ∧ i ≤ l.length ∧ D = [] ∧ H' = H ++ G ∧ get T 1 = slV b' pkE l' ∧ get T 2 = .fn f [] [] ∧ get T 15 = slV b pkE l ∧ get T 16 = .int .i64 l.length ∧ get T 17 = .int .i64 i ∧ sameL S l l' = sameL S (l.drop i) (l'.drop i)) ?_ l.length _ _ _ ?_
  case refine_2 => exact ⟨0, [], by simp [go_sem, hg]⟩
  rintro m T D H' ⟨i, G, rfl, hi, rfl, rfl, t1, t2, t15, t16, t17, hs⟩
  by_cases hlt : i < l.length
  · have hlt' : (i : Int) < l.length := by omega
    have hlt3 : i < l'.length := by omega
    have hlt2 : (i : Int) < l'.length := by omega
    rw [sameL_drop pkE hlt hlt3] at hs
    have hfi := hf _ (pkE.at_mem hlt) _ (pkE.at_mem hlt3)
    by_cases hq : S (pkE.at l i) (pkE.at l' i) = true
    · rw [hq, Bool.true_and] at hs
      simp (disch := first | rfl | omega | exact lt_new _ | assumption | decide | (simp [tk_here, tk_app, tk_0, tk_S, gr_here, gr_app, gr_0, gr_S] <;> omega) | fail) only [r126_0, r126_1, r126_2, r126_3, r126_4, r126_5, r126_6, r126_7, r126_8, r126_9, l126_10, r126_11, c126, rs126, gc126, go_sem, ↓reduceIte, Nat.reduceLT, Nat.reduceEqDiff, Nat.reduceAdd, Nat.reduceMul, Nat.reduceSub, Int.reduceAdd, Int.reduceSub, Nat.reduceLeDiff, Int.reduceLT, Int.reduceLE, Int.reduceEq, Int.reduceNeg, Int.reduceToNat, loadV_ptr, storeV_ptr, List.append_assoc, List.length_append, List.length_cons, List.length_nil, List.set_cons_zero, List.set_cons_succ, tk_here, tk_app, gr_here, gr_app, st_here, st_app, t1, t2, t15, t16, t17, hlt', hq, hk, hfi]
      exact ⟨_, by omega, i + 1, _, rfl, hlt, rfl, rfl, hs⟩
    · rw [Bool.not_eq_true] at hq
      rw [hq, Bool.false_and] at hs
      simp (disch := first | rfl | omega | exact lt_new _ | assumption | decide | (simp [tk_here, tk_app, tk_0, tk_S, gr_here, gr_app, gr_0, gr_S] <;> omega) | fail) only [r126_0, r126_1, r126_2, r126_3, r126_4, r126_5, r126_6, r126_7, r126_8, r126_9, l126_10, r126_11, c126, rs126, gc126, go_sem, ↓reduceIte, Nat.reduceLT, Nat.reduceEqDiff, Nat.reduceAdd, Nat.reduceMul, Nat.reduceSub, Int.reduceAdd, Int.reduceSub, Nat.reduceLeDiff, Int.reduceLT, Int.reduceLE, Int.reduceEq, Int.reduceNeg, Int.reduceToNat, loadV_ptr, storeV_ptr, List.append_assoc, List.length_append, List.length_cons, List.length_nil, List.set_cons_zero, List.set_cons_succ, tk_here, tk_app, gr_here, gr_app, st_here, st_app, t1, t2, t15, t16, t17, hlt', hq, hk, hfi]
      exact finQ_app (by simp (disch := first | rfl | omega | exact lt_new _ | assumption | decide | (simp [tk_here, tk_app, tk_0, tk_S, gr_here, gr_app, gr_0, gr_S] <;> omega) | fail) only [go_sem, ↓reduceIte, Nat.reduceLT, Nat.reduceEqDiff, Nat.reduceAdd, Nat.reduceMul, Nat.reduceSub, Int.reduceAdd, Int.reduceSub, Nat.reduceLeDiff, Int.reduceLT, Int.reduceLE, Int.reduceEq, Int.reduceNeg, Int.reduceToNat, hs])
  · obtain rfl : i = l.length := by omega
    have hs1 : sameL S l l' = true := by rw [hs, List.drop_length, List.drop_eq_nil_of_le (by omega)]; rfl
    simp (disch := first | rfl | omega | exact lt_new _ | assumption | decide | (simp [tk_here, tk_app, tk_0, tk_S, gr_here, gr_app, gr_0, gr_S] <;> omega) | fail) only [r126_0, r126_1, r126_2, r126_3, r126_4, r126_5, r126_6, r126_7, r126_8, r126_9, l126_10, r126_11, c126, rs126, gc126, go_sem, ↓reduceIte, Nat.reduceLT, Nat.reduceEqDiff, Nat.reduceAdd, Nat.reduceMul, Nat.reduceSub, Int.reduceAdd, Int.reduceSub, Nat.reduceLeDiff, Int.reduceLT, Int.reduceLE, Int.reduceEq, Int.reduceNeg, Int.reduceToNat, t1, t2, t15, t16, t17, Int.lt_irrefl]
    exact finQ_app (by simp (disch := first | rfl | omega | exact lt_new _ | assumption | decide | (simp [tk_here, tk_app, tk_0, tk_S, gr_here, gr_app, gr_0, gr_S] <;> omega) | fail) only [go_sem, ↓reduceIte, Nat.reduceLT, Nat.reduceEqDiff, Nat.reduceAdd, Nat.reduceMul, Nat.reduceSub, Int.reduceAdd, Int.reduceSub, Nat.reduceLeDiff, Int.reduceLT, Int.reduceLE, Int.reduceEq, Int.reduceNeg, Int.reduceToNat, hs1])

theorem fn114L {α : Type} {E : Enc α} {b : Bool} {l : List α} {H : Hp} (hw : E.w = 5) (hlen : l.length < 2 ^ 62) (p : α → Bool) (f : Nat) (ca cb : List V) (hk : ∀ v, demK f v = v.dem) (hf : ∀ x ∈ l, callL Try.prog pr f (ca ++ [.agg (E.f x)] ++ cb) H = some (.bool (p x), H)) : callL Try.prog pr 114 [slV b E l, .fn f ca cb] H = some (.int .i64 (findI p l 0), H) := by
  have hfy := ne_demK hk
  refine run114 (Nat.le_of_ble_eq_true rfl) ?_
  simp (disch := first | rfl | omega | exact lt_new _ | assumption | decide | (simp [tk_here, tk_app, tk_0, tk_S, gr_here, gr_app, gr_0, gr_S] <;> omega) | fail) only [r114_0, r114_1, r114_2, r114_3, r114_4, r114_5, r114_6, r114_8, c114, rs114, gc114, go_sem, ↓reduceIte, Nat.reduceLT, Nat.reduceEqDiff, Nat.reduceAdd, Nat.reduceMul, Nat.reduceSub, Int.reduceAdd, Int.reduceSub, Nat.reduceLeDiff, Int.reduceLT, Int.reduceLE, Int.reduceEq, Int.reduceNeg, Int.reduceToNat]
  refine Wp_loop (fun m T D H' => ∃ i, m = l.length - i ∧ i ≤ l.length ∧ D = [] ∧ H' = H ∧ get T 0 = slV b E l ∧ get T 1 = .fn f ca cb ∧ get T 7 = .int .i64 l.length ∧ get T 8 = .int .i64 i ∧ findI p l 0 = findI p (l.drop i) i) ?_ l.length _ _ _ ?_
  · rintro m T D H' ⟨i, rfl, hi, rfl, rfl, h0, h1, h7, h8, hp⟩
    by_cases hlt : i < l.length
    · have hlt' : (i : Int) < l.length := by omega
      have hpi := findI_drop p (E.at_some hlt) i
      have hfi := hf _ (E.at_mem hlt)
      have hld := fun H => @ld_agg _ Try.prog H α E l 56 5 i g56 z56 hw hlt
      simp (disch := first | rfl | omega | exact lt_new _ | assumption | decide | (simp [tk_here, tk_app, tk_0, tk_S, gr_here, gr_app, gr_0, gr_S] <;> omega) | fail) only [r114_0, r114_1, r114_2, r114_3, r114_4, r114_5, r114_6, l114_7, r114_8, c114, rs114, gc114, go_sem, ↓reduceIte, Nat.reduceLT, Nat.reduceEqDiff, Nat.reduceAdd, Nat.reduceMul, Nat.reduceSub, Int.reduceAdd, Int.reduceSub, Nat.reduceLeDiff, Int.reduceLT, Int.reduceLE, Int.reduceEq, Int.reduceNeg, Int.reduceToNat, h0, h1, h7, h8, hld, hk, hfi, hlt', decide_true]
      refine brQ_bool (fun hy => ?_) (fun hy => ?_)
      · rw [if_pos hy] at hpi
        simp (disch := first | rfl | omega | exact lt_new _ | assumption | decide | (simp [tk_here, tk_app, tk_0, tk_S, gr_here, gr_app, gr_0, gr_S] <;> omega) | fail) only [r114_0, r114_1, r114_2, r114_3, r114_4, r114_5, r114_6, l114_7, r114_8, c114, rs114, gc114, go_sem, ↓reduceIte, Nat.reduceLT, Nat.reduceEqDiff, Nat.reduceAdd, Nat.reduceMul, Nat.reduceSub, Int.reduceAdd, Int.reduceSub, Nat.reduceLeDiff, Int.reduceLT, Int.reduceLE, Int.reduceEq, Int.reduceNeg, Int.reduceToNat, h0, h1, h7, h8]
        refine finQ_same ?_
        simp (disch := first | rfl | omega | exact lt_new _ | assumption | decide | (simp [tk_here, tk_app, tk_0, tk_S, gr_here, gr_app, gr_0, gr_S] <;> omega) | fail) only [go_sem, ↓reduceIte, Nat.reduceLT, Nat.reduceEqDiff, Nat.reduceAdd, Nat.reduceMul, Nat.reduceSub, Int.reduceAdd, Int.reduceSub, Nat.reduceLeDiff, Int.reduceLT, Int.reduceLE, Int.reduceEq, Int.reduceNeg, Int.reduceToNat, hp, hpi]
      · rw [if_neg (by simp [hy])] at hpi
        simp (disch := first | rfl | omega | exact lt_new _ | assumption | decide | (simp [tk_here, tk_app, tk_0, tk_S, gr_here, gr_app, gr_0, gr_S] <;> omega) | fail) only [r114_0, r114_1, r114_2, r114_3, r114_4, r114_5, r114_6, l114_7, r114_8, c114, rs114, gc114, go_sem, ↓reduceIte, Nat.reduceLT, Nat.reduceEqDiff, Nat.reduceAdd, Nat.reduceMul, Nat.reduceSub, Int.reduceAdd, Int.reduceSub, Nat.reduceLeDiff, Int.reduceLT, Int.reduceLE, Int.reduceEq, Int.reduceNeg, Int.reduceToNat, h0, h1, h7, h8]
        exact ⟨_, by omega, i + 1, rfl, hlt, rfl, by rw [hp, hpi]; rfl⟩
    · obtain rfl : i = l.length := by omega
      simp (disch := first | rfl | omega | exact lt_new _ | assumption | decide | (simp [tk_here, tk_app, tk_0, tk_S, gr_here, gr_app, gr_0, gr_S] <;> omega) | fail) only [r114_0, r114_1, r114_2, r114_3, r114_4, r114_5, r114_6, l114_7, r114_8, c114, rs114, gc114, go_sem, ↓reduceIte, Nat.reduceLT, Nat.reduceEqDiff, Nat.reduceAdd, Nat.reduceMul, Nat.reduceSub, Int.reduceAdd, Int.reduceSub, Nat.reduceLeDiff, Int.reduceLT, Int.reduceLE, Int.reduceEq, Int.reduceNeg, Int.reduceToNat, h0, h1, h7, h8, Int.lt_irrefl, decide_false]
      refine finQ_same ?_
      rw [hp, List.drop_length]
      simp (disch := first | rfl | omega | exact lt_new _ | assumption | decide | (simp [tk_here, tk_app, tk_0, tk_S, gr_here, gr_app, gr_0, gr_S] <;> omega) | fail) only [go_sem, ↓reduceIte, Nat.reduceLT, Nat.reduceEqDiff, Nat.reduceAdd, Nat.reduceMul, Nat.reduceSub, Int.reduceAdd, Int.reduceSub, Nat.reduceLeDiff, Int.reduceLT, Int.reduceLE, Int.reduceEq, Int.reduceNeg, Int.reduceToNat, findI]
  · exact ⟨0, by simp [go_sem]⟩

theorem fn69L {α : Type} {E : Enc α} {b : Bool} {l : List α} {H : Hp} (hw : E.w = 5) (hlen : l.length < 2 ^ 62) (p : α → Bool) (f : Nat) (ca cb : List V) (hk : ∀ v, demK f v = v.dem) (hf : ∀ x ∈ l, callL Try.prog pr f (ca ++ [.agg (E.f x)] ++ cb) H = some (.bool (p x), H)) : callL Try.prog pr 69 [slV b E l, .fn f ca cb] H = some (.bool (l.any p), H) := by
  refine run69 (Nat.le_of_ble_eq_true rfl) ?_
  simp (disch := first | rfl | omega | exact lt_new _ | assumption | decide | (simp [tk_here, tk_app, tk_0, tk_S, gr_here, gr_app, gr_0, gr_S] <;> omega) | fail) only [r69_0, r69_1, c69, rs69, gc69, go_sem, ↓reduceIte, Nat.reduceLT, Nat.reduceEqDiff, Nat.reduceAdd, Nat.reduceMul, Nat.reduceSub, Int.reduceAdd, Int.reduceSub, Nat.reduceLeDiff, Int.reduceLT, Int.reduceLE, Int.reduceEq, Int.reduceNeg, Int.reduceToNat, fn114L hw hlen p f ca cb hk hf]
  refine finQ_same ?_
  simp (disch := first | rfl | omega | exact lt_new _ | assumption | decide | (simp [tk_here, tk_app, tk_0, tk_S, gr_here, gr_app, gr_0, gr_S] <;> omega) | fail) only [go_sem, ↓reduceIte, Nat.reduceLT, Nat.reduceEqDiff, Nat.reduceAdd, Nat.reduceMul, Nat.reduceSub, Int.reduceAdd, Int.reduceSub, Nat.reduceLeDiff, Int.reduceLT, Int.reduceLE, Int.reduceEq, Int.reduceNeg, Int.reduceToNat, findI_any p l 0 (by omega)]

def okT (n : Int) : Bool := decide (0 ≤ n) && decide (n ≤ 1000000000000000)
theorem fn68 (n : Int) (H : Hp) : callL Try.prog pr 68 [.int .i64 n] H = some (.bool (okT n), H) := by
  refine run68 (Nat.le_of_ble_eq_true rfl) ?_
  unfold okT
  simp (disch := first | rfl | omega | exact lt_new _ | assumption | decide | (simp [tk_here, tk_app, tk_0, tk_S, gr_here, gr_app, gr_0, gr_S] <;> omega) | fail) only [r68_0, r68_1, c68, rs68, gc68, go_sem, ↓reduceIte, Nat.reduceLT, Nat.reduceEqDiff, Nat.reduceAdd, Nat.reduceMul, Nat.reduceSub, Int.reduceAdd, Int.reduceSub, Nat.reduceLeDiff, Int.reduceLT, Int.reduceLE, Int.reduceEq, Int.reduceNeg, Int.reduceToNat]
  repeat' ((first | refine guardB_dec (fun hy => ?_) (fun hy => ?_) | refine guardB_bool (fun hy => ?_) (fun hy => ?_) | refine guardQ_ite (fun hy => ?_) (fun hy => ?_) | refine brQ_dec (fun hy => ?_) (fun hy => ?_) | refine brQ_bool (fun hy => ?_) (fun hy => ?_)) <;> (try simp only [Bool.not_eq_true', Bool.not_eq_false', Bool.and_eq_true, Bool.or_eq_false_iff, decide_eq_true_eq, decide_eq_false_iff_not] at hy) <;> simp (disch := first | rfl | omega | exact lt_new _ | assumption | decide | (simp [tk_here, tk_app, tk_0, tk_S, gr_here, gr_app, gr_0, gr_S] <;> omega) | fail) only [r68_0, r68_1, c68, rs68, gc68, go_sem, ↓reduceIte, Nat.reduceLT, Nat.reduceEqDiff, Nat.reduceAdd, Nat.reduceMul, Nat.reduceSub, Int.reduceAdd, Int.reduceSub, Nat.reduceLeDiff, Int.reduceLT, Int.reduceLE, Int.reduceEq, Int.reduceNeg, Int.reduceToNat, hy])
  all_goals (try ((first | refine finQ_same ?_ | refine finQ_app ?_ | (rw [List.append_assoc]; refine finQ_app ?_)) <;> simp (disch := first | rfl | omega | exact lt_new _ | assumption | decide | (simp [tk_here, tk_app, tk_0, tk_S, gr_here, gr_app, gr_0, gr_S] <;> omega) | fail) only [go_sem, ↓reduceIte, Nat.reduceLT, Nat.reduceEqDiff, Nat.reduceAdd, Nat.reduceMul, Nat.reduceSub, Int.reduceAdd, Int.reduceSub, Nat.reduceLeDiff, Int.reduceLT, Int.reduceLE, Int.reduceEq, Int.reduceNeg, Int.reduceToNat, List.append_assoc, List.cons_append, List.nil_append, *]))
  all_goals (try first | rfl | (simp [*]; done) | grind)
theorem fn72 (n : Int) (H : Hp) : callL Try.prog pr 72 [.int .i64 n] H = some (.bool (okT n), H) := by
  refine run72 (Nat.le_of_ble_eq_true rfl) ?_
  unfold okT
  simp (disch := first | rfl | omega | exact lt_new _ | assumption | decide | (simp [tk_here, tk_app, tk_0, tk_S, gr_here, gr_app, gr_0, gr_S] <;> omega) | fail) only [r72_0, r72_1, c72, rs72, gc72, go_sem, ↓reduceIte, Nat.reduceLT, Nat.reduceEqDiff, Nat.reduceAdd, Nat.reduceMul, Nat.reduceSub, Int.reduceAdd, Int.reduceSub, Nat.reduceLeDiff, Int.reduceLT, Int.reduceLE, Int.reduceEq, Int.reduceNeg, Int.reduceToNat]
  repeat' ((first | refine guardB_dec (fun hy => ?_) (fun hy => ?_) | refine guardB_bool (fun hy => ?_) (fun hy => ?_) | refine guardQ_ite (fun hy => ?_) (fun hy => ?_) | refine brQ_dec (fun hy => ?_) (fun hy => ?_) | refine brQ_bool (fun hy => ?_) (fun hy => ?_)) <;> (try simp only [Bool.not_eq_true', Bool.not_eq_false', Bool.and_eq_true, Bool.or_eq_false_iff, decide_eq_true_eq, decide_eq_false_iff_not] at hy) <;> simp (disch := first | rfl | omega | exact lt_new _ | assumption | decide | (simp [tk_here, tk_app, tk_0, tk_S, gr_here, gr_app, gr_0, gr_S] <;> omega) | fail) only [r72_0, r72_1, c72, rs72, gc72, go_sem, ↓reduceIte, Nat.reduceLT, Nat.reduceEqDiff, Nat.reduceAdd, Nat.reduceMul, Nat.reduceSub, Int.reduceAdd, Int.reduceSub, Nat.reduceLeDiff, Int.reduceLT, Int.reduceLE, Int.reduceEq, Int.reduceNeg, Int.reduceToNat, hy])
  all_goals (try ((first | refine finQ_same ?_ | refine finQ_app ?_ | (rw [List.append_assoc]; refine finQ_app ?_)) <;> simp (disch := first | rfl | omega | exact lt_new _ | assumption | decide | (simp [tk_here, tk_app, tk_0, tk_S, gr_here, gr_app, gr_0, gr_S] <;> omega) | fail) only [go_sem, ↓reduceIte, Nat.reduceLT, Nat.reduceEqDiff, Nat.reduceAdd, Nat.reduceMul, Nat.reduceSub, Int.reduceAdd, Int.reduceSub, Nat.reduceLeDiff, Int.reduceLT, Int.reduceLE, Int.reduceEq, Int.reduceNeg, Int.reduceToNat, List.append_assoc, List.cons_append, List.nil_append, *]))
  all_goals (try first | rfl | (simp [*]; done) | grind)
/-- The first thing that is wrong. -/
def askE : List Cp → Int
  | [] => 0
  | c :: l => if valE c = 0 then askE l else valE c
theorem askE_drop {l : List Cp} {i : Nat} (h : i < l.length) : askE (l.drop i) = if valE (cpE.at l i) = 0 then askE (l.drop (i + 1)) else valE (cpE.at l i) := by
  rw [cpE.drop_at h]; rfl
theorem fn54 {b : Bool} {l : List Cp} (hok : ∀ c ∈ l, CpOk c) (hl : l.length ≤ 2 ^ 62) (H : Hp) : callL Try.prog pr 54 [slV b cpE l] H = some (.int .i64 (askE l), H) := by
  refine run54 (Nat.le_of_ble_eq_true rfl) ?_
  simp (disch := first | rfl | omega | exact lt_new _ | assumption | decide | (simp [tk_here, tk_app, tk_0, tk_S, gr_here, gr_app, gr_0, gr_S] <;> omega) | fail) only [r54_0, r54_1, r54_2, r54_3, r54_4, r54_5, r54_6, r54_7, r54_9, c54, rs54, gc54, go_sem, ↓reduceIte, Nat.reduceLT, Nat.reduceEqDiff, Nat.reduceAdd, Nat.reduceMul, Nat.reduceSub, Int.reduceAdd, Int.reduceSub, Nat.reduceLeDiff, Int.reduceLT, Int.reduceLE, Int.reduceEq, Int.reduceNeg, Int.reduceToNat]
  refine Wp_loop (fun m T D H' => ∃ i G, m = l.length - i ∧ i ≤ l.length ∧ D = [] ∧ H' = H ++ G ∧ get T 6 = slV b cpE l ∧ get T 7 = .int .i64 l.length ∧ get T 8 = .int .i64 i ∧ askE l = askE (l.drop i)) ?_ l.length _ _ _ ?_
  case refine_2 => exact ⟨0, [], by simp [go_sem]⟩
  rintro m T D H' ⟨i, G, rfl, hi, rfl, rfl, t6, t7, t8, hs⟩
  by_cases hlt : i < l.length
  · have hlt' : (i : Int) < l.length := by omega
    have h57 := fn57 (cpE.at l i) (hok _ (cpE.at_mem hlt))
    rw [askE_drop hlt] at hs
    by_cases hq : valE (cpE.at l i) = 0
    · rw [if_pos hq] at hs
      simp (disch := first | rfl | omega | exact lt_new _ | assumption | decide | (simp [tk_here, tk_app, tk_0, tk_S, gr_here, gr_app, gr_0, gr_S] <;> omega) | fail) only [r54_0, r54_1, r54_2, r54_3, r54_4, r54_5, r54_6, r54_7, l54_8, r54_9, c54, rs54, gc54, loadV_ptr, storeV_ptr, List.append_assoc, List.length_append, List.length_cons, List.length_nil, List.set_cons_zero, List.set_cons_succ, tk_here, tk_app, gr_here, gr_app, st_here, st_app, t6, t7, t8, hlt', h57, hq, go_sem, ↓reduceIte, Nat.reduceLT, Nat.reduceEqDiff, Nat.reduceAdd, Nat.reduceMul, Nat.reduceSub, Int.reduceAdd, Int.reduceSub, Nat.reduceLeDiff, Int.reduceLT, Int.reduceLE, Int.reduceEq, Int.reduceNeg, Int.reduceToNat]
      exact ⟨_, by omega, i + 1, _, rfl, hlt, rfl, rfl, hs⟩
    · rw [if_neg hq] at hs
      simp (disch := first | rfl | omega | exact lt_new _ | assumption | decide | (simp [tk_here, tk_app, tk_0, tk_S, gr_here, gr_app, gr_0, gr_S] <;> omega) | fail) only [r54_0, r54_1, r54_2, r54_3, r54_4, r54_5, r54_6, r54_7, l54_8, r54_9, c54, rs54, gc54, loadV_ptr, storeV_ptr, List.append_assoc, List.length_append, List.length_cons, List.length_nil, List.set_cons_zero, List.set_cons_succ, tk_here, tk_app, gr_here, gr_app, st_here, st_app, t6, t7, t8, hlt', h57, hq, go_sem, ↓reduceIte, Nat.reduceLT, Nat.reduceEqDiff, Nat.reduceAdd, Nat.reduceMul, Nat.reduceSub, Int.reduceAdd, Int.reduceSub, Nat.reduceLeDiff, Int.reduceLT, Int.reduceLE, Int.reduceEq, Int.reduceNeg, Int.reduceToNat]
      exact finQ_app (by simp (disch := first | rfl | omega | exact lt_new _ | assumption | decide | (simp [tk_here, tk_app, tk_0, tk_S, gr_here, gr_app, gr_0, gr_S] <;> omega) | fail) only [go_sem, ↓reduceIte, Nat.reduceLT, Nat.reduceEqDiff, Nat.reduceAdd, Nat.reduceMul, Nat.reduceSub, Int.reduceAdd, Int.reduceSub, Nat.reduceLeDiff, Int.reduceLT, Int.reduceLE, Int.reduceEq, Int.reduceNeg, Int.reduceToNat, hs])
  · obtain rfl : i = l.length := by omega
    rw [List.drop_length] at hs
    simp (disch := first | rfl | omega | exact lt_new _ | assumption | decide | (simp [tk_here, tk_app, tk_0, tk_S, gr_here, gr_app, gr_0, gr_S] <;> omega) | fail) only [r54_0, r54_1, r54_2, r54_3, r54_4, r54_5, r54_6, r54_7, l54_8, r54_9, c54, rs54, gc54, t6, t7, t8, Int.lt_irrefl, go_sem, ↓reduceIte, Nat.reduceLT, Nat.reduceEqDiff, Nat.reduceAdd, Nat.reduceMul, Nat.reduceSub, Int.reduceAdd, Int.reduceSub, Nat.reduceLeDiff, Int.reduceLT, Int.reduceLE, Int.reduceEq, Int.reduceNeg, Int.reduceToNat]
    exact finQ_app (by simp (disch := first | rfl | omega | exact lt_new _ | assumption | decide | (simp [tk_here, tk_app, tk_0, tk_S, gr_here, gr_app, gr_0, gr_S] <;> omega) | fail) only [go_sem, ↓reduceIte, Nat.reduceLT, Nat.reduceEqDiff, Nat.reduceAdd, Nat.reduceMul, Nat.reduceSub, Int.reduceAdd, Int.reduceSub, Nat.reduceLeDiff, Int.reduceLT, Int.reduceLE, Int.reduceEq, Int.reduceNeg, Int.reduceToNat, hs, askE])
theorem askE_one (c : Cp) : askE [c] = valE c := by
  simp only [askE]
  split <;> simp [*]
theorem ask1 (c : Cp) (hc : CpOk c) (H : Hp) : callL Try.prog pr 54 [.isl (cpE.f c) 1 5] H = some (.int .i64 (valE c), H) := by
  have := fn54 (b := false) (l := [c]) (by simpa using hc) (by simp) H
  rw [askE_one] at this
  rw [← this]
  simp [slV, flatE, cpE_w]
end Go.Proofs.Ytejkgnmjdaohdaa
/-
  Copies of captures, walked. No statement of the seat stands here.
-/
namespace Go.Proofs.Ytejkgnmjdaohdaa
open Go Go.An
set_option maxRecDepth 4000
set_option linter.unusedSimpArgs false
set_option linter.unusedVariables false

theorem fn116 {b : Bool} {l : List Fc} (hl : l.length ≤ 2 ^ 30) (H : Hp) : ∃ v L, callL Try.prog pr 116 [slV b fcE l] H = some (v, H ++ L) ∧ RowM fcE H.length L v l := by
  suffices h : ∃ r, callL Try.prog pr 116 [slV b fcE l] H = some r ∧ ∃ v L, r = (v, H ++ L) ∧ RowM fcE H.length L v l by
    obtain ⟨_, h1, v, L, rfl, h2⟩ := h; exact ⟨v, L, h1, h2⟩
  refine ex116 (Nat.le_of_ble_eq_true rfl) ?_
  by_cases hb : b = true ∧ l = []
  · obtain ⟨rfl, rfl⟩ := hb
    simp (disch := first | rfl | omega | exact lt_new _ | assumption | decide | (simp [tk_here, tk_app, tk_0, tk_S, gr_here, gr_app, gr_0, gr_S] <;> omega) | fail) only [r116_0, r116_1, r116_2, r116_3, c116, rs116, gc116, go_sem, ↓reduceIte, Nat.reduceLT, Nat.reduceEqDiff, Nat.reduceAdd, Nat.reduceMul, Nat.reduceSub, Int.reduceAdd, Int.reduceSub, Nat.reduceLeDiff, Int.reduceLT, Int.reduceLE, Int.reduceEq, Int.reduceNeg, Int.reduceToNat, slV_nil]
    exact ⟨V.nilslice, [], by simp, Or.inl ⟨rfl, rfl⟩⟩
  · have hb2 : (b && decide (l.length = 0)) = false := by
      cases b with
      | false => rfl
      | true => simp only [true_and] at hb; simp [hb]
    obtain ⟨g, ha⟩ : ∃ g, appOf 3 32 (H ++ [.row 0 [] true]) (.slice H.length 0 0 0 3 .full) (slV b fcE l) = some (.slice H.length g 0 l.length 3 .full, H ++ [.row g (flatE fcE l) true]) := by
      have hw : fcE.w = 3 := rfl
      have hfl := flatE_len (E := fcE) (l := l)
      rw [hw] at hfl
      have hfc := flatE_cells fcE l
      unfold appOf
      rw [src_slV]
      simp only [Option.bind_some]
      rw [if_pos ⟨hfl, hfc⟩]
      simp only [getRow_last, Option.bind_some]
      rw [if_pos ⟨trivial, by omega, by omega, by simp⟩]
      by_cases hz : l.length = 0
      · obtain rfl : l = [] := List.eq_nil_of_length_eq_zero hz
        exact ⟨0, by simp [flatE]⟩
      · refine ⟨1, ?_⟩
        rw [if_neg hz, if_pos trivial, if_neg (by simp; omega), if_pos (by simp)]
        simp
    simp (disch := first | rfl | omega | exact lt_new _ | assumption | decide | (simp [tk_here, tk_app, tk_0, tk_S, gr_here, gr_app, gr_0, gr_S] <;> omega) | fail) only [r116_0, r116_1, r116_2, r116_3, c116, rs116, gc116, go_sem, ↓reduceIte, Nat.reduceLT, Nat.reduceEqDiff, Nat.reduceAdd, Nat.reduceMul, Nat.reduceSub, Int.reduceAdd, Int.reduceSub, Nat.reduceLeDiff, Int.reduceLT, Int.reduceLE, Int.reduceEq, Int.reduceNeg, Int.reduceToNat, hb2, ha]
    exact ⟨_, _, rfl, Or.inr ⟨0, g, rfl, by simp, by simp [getRow]⟩⟩

theorem fn117 {b : Bool} {l : List Nm} (hl : l.length ≤ 2 ^ 30) (H : Hp) : ∃ v L, callL Try.prog pr 117 [slV b nmE l] H = some (v, H ++ L) ∧ RowM nmE H.length L v l := by
  suffices h : ∃ r, callL Try.prog pr 117 [slV b nmE l] H = some r ∧ ∃ v L, r = (v, H ++ L) ∧ RowM nmE H.length L v l by
    obtain ⟨_, h1, v, L, rfl, h2⟩ := h; exact ⟨v, L, h1, h2⟩
  refine ex117 (Nat.le_of_ble_eq_true rfl) ?_
  by_cases hb : b = true ∧ l = []
  · obtain ⟨rfl, rfl⟩ := hb
    simp (disch := first | rfl | omega | exact lt_new _ | assumption | decide | (simp [tk_here, tk_app, tk_0, tk_S, gr_here, gr_app, gr_0, gr_S] <;> omega) | fail) only [r117_0, r117_1, r117_2, r117_3, c117, rs117, gc117, go_sem, ↓reduceIte, Nat.reduceLT, Nat.reduceEqDiff, Nat.reduceAdd, Nat.reduceMul, Nat.reduceSub, Int.reduceAdd, Int.reduceSub, Nat.reduceLeDiff, Int.reduceLT, Int.reduceLE, Int.reduceEq, Int.reduceNeg, Int.reduceToNat, slV_nil]
    exact ⟨V.nilslice, [], by simp, Or.inl ⟨rfl, rfl⟩⟩
  · have hb2 : (b && decide (l.length = 0)) = false := by
      cases b with
      | false => rfl
      | true => simp only [true_and] at hb; simp [hb]
    obtain ⟨g, ha⟩ : ∃ g, appOf 2 40 (H ++ [.row 0 [] true]) (.slice H.length 0 0 0 2 .full) (slV b nmE l) = some (.slice H.length g 0 l.length 2 .full, H ++ [.row g (flatE nmE l) true]) := by
      have hw : nmE.w = 2 := rfl
      have hfl := flatE_len (E := nmE) (l := l)
      rw [hw] at hfl
      have hfc := flatE_cells nmE l
      unfold appOf
      rw [src_slV]
      simp only [Option.bind_some]
      rw [if_pos ⟨hfl, hfc⟩]
      simp only [getRow_last, Option.bind_some]
      rw [if_pos ⟨trivial, by omega, by omega, by simp⟩]
      by_cases hz : l.length = 0
      · obtain rfl : l = [] := List.eq_nil_of_length_eq_zero hz
        exact ⟨0, by simp [flatE]⟩
      · refine ⟨1, ?_⟩
        rw [if_neg hz, if_pos trivial, if_neg (by simp; omega), if_pos (by simp)]
        simp
    simp (disch := first | rfl | omega | exact lt_new _ | assumption | decide | (simp [tk_here, tk_app, tk_0, tk_S, gr_here, gr_app, gr_0, gr_S] <;> omega) | fail) only [r117_0, r117_1, r117_2, r117_3, c117, rs117, gc117, go_sem, ↓reduceIte, Nat.reduceLT, Nat.reduceEqDiff, Nat.reduceAdd, Nat.reduceMul, Nat.reduceSub, Int.reduceAdd, Int.reduceSub, Nat.reduceLeDiff, Int.reduceLT, Int.reduceLE, Int.reduceEq, Int.reduceNeg, Int.reduceToNat, hb2, ha]
    exact ⟨_, _, rfl, Or.inr ⟨0, g, rfl, by simp, by simp [getRow]⟩⟩

theorem fn119 {b : Bool} {l : List Sc} (hl : l.length ≤ 2 ^ 30) (H : Hp) : ∃ v L, callL Try.prog pr 119 [slV b scE l] H = some (v, H ++ L) ∧ RowM scE H.length L v l := by
  suffices h : ∃ r, callL Try.prog pr 119 [slV b scE l] H = some r ∧ ∃ v L, r = (v, H ++ L) ∧ RowM scE H.length L v l by
    obtain ⟨_, h1, v, L, rfl, h2⟩ := h; exact ⟨v, L, h1, h2⟩
  refine ex119 (Nat.le_of_ble_eq_true rfl) ?_
  by_cases hb : b = true ∧ l = []
  · obtain ⟨rfl, rfl⟩ := hb
    simp (disch := first | rfl | omega | exact lt_new _ | assumption | decide | (simp [tk_here, tk_app, tk_0, tk_S, gr_here, gr_app, gr_0, gr_S] <;> omega) | fail) only [r119_0, r119_1, r119_2, r119_3, c119, rs119, gc119, go_sem, ↓reduceIte, Nat.reduceLT, Nat.reduceEqDiff, Nat.reduceAdd, Nat.reduceMul, Nat.reduceSub, Int.reduceAdd, Int.reduceSub, Nat.reduceLeDiff, Int.reduceLT, Int.reduceLE, Int.reduceEq, Int.reduceNeg, Int.reduceToNat, slV_nil]
    exact ⟨V.nilslice, [], by simp, Or.inl ⟨rfl, rfl⟩⟩
  · have hb2 : (b && decide (l.length = 0)) = false := by
      cases b with
      | false => rfl
      | true => simp only [true_and] at hb; simp [hb]
    obtain ⟨g, ha⟩ : ∃ g, appOf 2 40 (H ++ [.row 0 [] true]) (.slice H.length 0 0 0 2 .full) (slV b scE l) = some (.slice H.length g 0 l.length 2 .full, H ++ [.row g (flatE scE l) true]) := by
      have hw : scE.w = 2 := rfl
      have hfl := flatE_len (E := scE) (l := l)
      rw [hw] at hfl
      have hfc := flatE_cells scE l
      unfold appOf
      rw [src_slV]
      simp only [Option.bind_some]
      rw [if_pos ⟨hfl, hfc⟩]
      simp only [getRow_last, Option.bind_some]
      rw [if_pos ⟨trivial, by omega, by omega, by simp⟩]
      by_cases hz : l.length = 0
      · obtain rfl : l = [] := List.eq_nil_of_length_eq_zero hz
        exact ⟨0, by simp [flatE]⟩
      · refine ⟨1, ?_⟩
        rw [if_neg hz, if_pos trivial, if_neg (by simp; omega), if_pos (by simp)]
        simp
    simp (disch := first | rfl | omega | exact lt_new _ | assumption | decide | (simp [tk_here, tk_app, tk_0, tk_S, gr_here, gr_app, gr_0, gr_S] <;> omega) | fail) only [r119_0, r119_1, r119_2, r119_3, c119, rs119, gc119, go_sem, ↓reduceIte, Nat.reduceLT, Nat.reduceEqDiff, Nat.reduceAdd, Nat.reduceMul, Nat.reduceSub, Int.reduceAdd, Int.reduceSub, Nat.reduceLeDiff, Int.reduceLT, Int.reduceLE, Int.reduceEq, Int.reduceNeg, Int.reduceToNat, hb2, ha]
    exact ⟨_, _, rfl, Or.inr ⟨0, g, rfl, by simp, by simp [getRow]⟩⟩

theorem fn120 {b : Bool} {l : List Pk} (hl : l.length ≤ 2 ^ 30) (H : Hp) : ∃ v L, callL Try.prog pr 120 [slV b pkE l] H = some (v, H ++ L) ∧ RowM pkE H.length L v l := by
  suffices h : ∃ r, callL Try.prog pr 120 [slV b pkE l] H = some r ∧ ∃ v L, r = (v, H ++ L) ∧ RowM pkE H.length L v l by
    obtain ⟨_, h1, v, L, rfl, h2⟩ := h; exact ⟨v, L, h1, h2⟩
  refine ex120 (Nat.le_of_ble_eq_true rfl) ?_
  by_cases hb : b = true ∧ l = []
  · obtain ⟨rfl, rfl⟩ := hb
    simp (disch := first | rfl | omega | exact lt_new _ | assumption | decide | (simp [tk_here, tk_app, tk_0, tk_S, gr_here, gr_app, gr_0, gr_S] <;> omega) | fail) only [r120_0, r120_1, r120_2, r120_3, c120, rs120, gc120, go_sem, ↓reduceIte, Nat.reduceLT, Nat.reduceEqDiff, Nat.reduceAdd, Nat.reduceMul, Nat.reduceSub, Int.reduceAdd, Int.reduceSub, Nat.reduceLeDiff, Int.reduceLT, Int.reduceLE, Int.reduceEq, Int.reduceNeg, Int.reduceToNat, slV_nil]
    exact ⟨V.nilslice, [], by simp, Or.inl ⟨rfl, rfl⟩⟩
  · have hb2 : (b && decide (l.length = 0)) = false := by
      cases b with
      | false => rfl
      | true => simp only [true_and] at hb; simp [hb]
    obtain ⟨g, ha⟩ : ∃ g, appOf 5 64 (H ++ [.row 0 [] true]) (.slice H.length 0 0 0 5 .full) (slV b pkE l) = some (.slice H.length g 0 l.length 5 .full, H ++ [.row g (flatE pkE l) true]) := by
      have hw : pkE.w = 5 := rfl
      have hfl := flatE_len (E := pkE) (l := l)
      rw [hw] at hfl
      have hfc := flatE_cells pkE l
      unfold appOf
      rw [src_slV]
      simp only [Option.bind_some]
      rw [if_pos ⟨hfl, hfc⟩]
      simp only [getRow_last, Option.bind_some]
      rw [if_pos ⟨trivial, by omega, by omega, by simp⟩]
      by_cases hz : l.length = 0
      · obtain rfl : l = [] := List.eq_nil_of_length_eq_zero hz
        exact ⟨0, by simp [flatE]⟩
      · refine ⟨1, ?_⟩
        rw [if_neg hz, if_pos trivial, if_neg (by simp; omega), if_pos (by simp)]
        simp
    simp (disch := first | rfl | omega | exact lt_new _ | assumption | decide | (simp [tk_here, tk_app, tk_0, tk_S, gr_here, gr_app, gr_0, gr_S] <;> omega) | fail) only [r120_0, r120_1, r120_2, r120_3, c120, rs120, gc120, go_sem, ↓reduceIte, Nat.reduceLT, Nat.reduceEqDiff, Nat.reduceAdd, Nat.reduceMul, Nat.reduceSub, Int.reduceAdd, Int.reduceSub, Nat.reduceLeDiff, Int.reduceLT, Int.reduceLE, Int.reduceEq, Int.reduceNeg, Int.reduceToNat, hb2, ha]
    exact ⟨_, _, rfl, Or.inr ⟨0, g, rfl, by simp, by simp [getRow]⟩⟩


theorem gr_l {G K : Hp} {j g : Nat} (h : j < G.length) : getRow (G ++ K) j g = getRow G j g := by
  unfold getRow; rw [List.getElem?_append_left h]
theorem st_l {G K : Hp} {j : Nat} {b : AB} (h : j < G.length) : (G ++ K).set j b = G.set j b ++ K := List.set_append_left _ _ h
theorem RowM.two {α : Type} {E : Enc α} {n : Nat} {M : Hp} {v : V} {l : List α} (h : RowM E (n + 2) M v l) : (v = .nilslice ∧ l = []) ∨ ∃ j g, v = .slice (n + (j + 1 + 1)) g 0 l.length E.w .full ∧ j < M.length ∧ getRow M j g = some (flatE E l, true) := by
  rcases h with h | ⟨j, g, rfl, h⟩
  · exact Or.inl h
  · exact Or.inr ⟨j, g, by rw [show n + 2 + j = n + (j + 1 + 1) by omega], h⟩
theorem fn118 {b : Bool} {l : List UInt8} (hl : l.length ≤ 2 ^ 30) (H : Hp) : callL Try.prog pr 118 [slV b byE l] H = some (slV b byE l, H) := by
  refine run118 (Nat.le_of_ble_eq_true rfl) ?_
  by_cases hb : b = true ∧ l = []
  · obtain ⟨rfl, rfl⟩ := hb
    simp (disch := first | rfl | omega | exact lt_new _ | assumption | decide | (simp [tk_here, tk_app, tk_0, tk_S, gr_here, gr_app, gr_0, gr_S] <;> omega) | fail) only [r118_0, r118_1, r118_2, r118_3, c118, rs118, gc118, go_sem, ↓reduceIte, Nat.reduceLT, Nat.reduceEqDiff, Nat.reduceAdd, Nat.reduceMul, Nat.reduceSub, Int.reduceAdd, Int.reduceSub, Nat.reduceLeDiff, Int.reduceLT, Int.reduceLE, Int.reduceEq, Int.reduceNeg, Int.reduceToNat, slV_nil]
    exact finQ_same (by simp (disch := first | rfl | omega | exact lt_new _ | assumption | decide | (simp [tk_here, tk_app, tk_0, tk_S, gr_here, gr_app, gr_0, gr_S] <;> omega) | fail) only [go_sem, ↓reduceIte, Nat.reduceLT, Nat.reduceEqDiff, Nat.reduceAdd, Nat.reduceMul, Nat.reduceSub, Int.reduceAdd, Int.reduceSub, Nat.reduceLeDiff, Int.reduceLT, Int.reduceLE, Int.reduceEq, Int.reduceNeg, Int.reduceToNat])
  · have hb2 : (b && decide (l.length = 0)) = false := by
      cases b with
      | false => rfl
      | true => simp only [true_and] at hb; simp [hb]
    obtain ⟨g, ha⟩ : ∃ g, appOf 1 1 (H ++ [.row 0 [] true]) (.slice H.length 0 0 0 1 .full) (slV b byE l) = some (.slice H.length g 0 l.length 1 .full, H ++ [.row g (flatE byE l) true]) := by
      have hw : byE.w = 1 := rfl
      have hfl := flatE_len (E := byE) (l := l)
      rw [hw] at hfl
      have hfc := flatE_cells byE l
      unfold appOf
      rw [src_slV]
      simp only [Option.bind_some]
      rw [if_pos ⟨hfl, hfc⟩]
      simp only [getRow_last, Option.bind_some]
      rw [if_pos ⟨trivial, by omega, by omega, by simp⟩]
      by_cases hz : l.length = 0
      · obtain rfl : l = [] := List.eq_nil_of_length_eq_zero hz
        exact ⟨0, by simp [flatE]⟩
      · refine ⟨1, ?_⟩
        rw [if_neg hz, if_pos trivial, if_neg (by simpa using fun h => hz (by rw [h]; rfl)), if_pos (by simp)]
        simp
    simp (disch := first | rfl | omega | exact lt_new _ | assumption | decide | (simp [tk_here, tk_app, tk_0, tk_S, gr_here, gr_app, gr_0, gr_S] <;> omega) | fail) only [r118_0, r118_1, r118_2, r118_3, c118, rs118, gc118, go_sem, ↓reduceIte, Nat.reduceLT, Nat.reduceEqDiff, Nat.reduceAdd, Nat.reduceMul, Nat.reduceSub, Int.reduceAdd, Int.reduceSub, Nat.reduceLeDiff, Int.reduceLT, Int.reduceLE, Int.reduceEq, Int.reduceNeg, Int.reduceToNat, hb2, ha]
    refine finQ_app (by rw [show ∀ n H' f id g off m sz cp, inlR n H' f (V.slice id g off m sz cp) = inlB n H' f (V.slice id g off m sz cp) from fun _ _ _ _ _ _ _ _ _ => rfl, inlB_row (Nat.le_refl _) (w := 1) (cs := flatE byE l) (g := g) (len := l.length) (by simp) flatE_len flatE_imm]; simp (disch := first | rfl | omega | exact lt_new _ | assumption | decide | (simp [tk_here, tk_app, tk_0, tk_S, gr_here, gr_app, gr_0, gr_S] <;> omega) | fail) only [go_sem, ↓reduceIte, Nat.reduceLT, Nat.reduceEqDiff, Nat.reduceAdd, Nat.reduceMul, Nat.reduceSub, Int.reduceAdd, Int.reduceSub, Nat.reduceLeDiff, Int.reduceLT, Int.reduceLE, Int.reduceEq, Int.reduceNeg, Int.reduceToNat, slV, if_neg hb]; rfl)
def CpS (c : Cp) : Prop := (c.faces.length ≤ 2 ^ 30 ∧ c.names.length ≤ 2 ^ 30 ∧ c.secrets.length ≤ 2 ^ 30 ∧ c.packets.length ≤ 2 ^ 30) ∧ (∀ x ∈ c.names, x.addr.length ≤ 2 ^ 30) ∧ (∀ x ∈ c.secrets, x.key.length ≤ 2 ^ 30) ∧ ∀ x ∈ c.packets, x.data.length ≤ 2 ^ 30
set_option maxHeartbeats 4000000 in
/-- A copy: the packets' row lies behind the others. -/
theorem fn74s (c : Cp) (hs : CpS c) (H : Hp) : ∃ v1 v2 v3 v4 L X, callL Try.prog pr 74 [.agg (cpE.f c)] H = some (.agg [.str c.note, v1, v2, v3, v4], H ++ (L ++ X)) ∧ RowM fcE H.length L v1 c.faces ∧ RowM nmE H.length L v2 c.names ∧ RowM scE H.length L v3 c.secrets ∧ RowM pkE (H.length + L.length) X v4 c.packets := by
  suffices h : ∃ r, callL Try.prog pr 74 [.agg (cpE.f c)] H = some r ∧ ∃ v1 v2 v3 v4 L X, r = (.agg [.str c.note, v1, v2, v3, v4], H ++ (L ++ X)) ∧ RowM fcE H.length L v1 c.faces ∧ RowM nmE H.length L v2 c.names ∧ RowM scE H.length L v3 c.secrets ∧ RowM pkE (H.length + L.length) X v4 c.packets by
    obtain ⟨_, h1, v1, v2, v3, v4, L, X, rfl, h2⟩ := h; exact ⟨v1, v2, v3, v4, L, X, h1, h2⟩
  refine ex74 (Nat.le_of_ble_eq_true rfl) ?_
  obtain ⟨hlen, ha1, ha2, ha3⟩ := hs
  have e118 := fun {b l} h H => fn118 (b := b) (l := l) h H
  have hc0 : cpE.f c = [.str c.note, slV c.facesN fcE c.faces, slV c.namesN nmE c.names, slV c.secretsN scE c.secrets, slV c.packetsN pkE c.packets] := rfl
  obtain ⟨v1, L1, e1, r1⟩ := fn116 (b := c.facesN) hlen.1 (H ++ AB.row 0 [.str c.note, slV c.facesN fcE c.faces, slV c.namesN nmE c.names, slV c.secretsN scE c.secrets, slV c.packetsN pkE c.packets] true :: AB.row 0 [.str [], .nilslice, .nilslice, .nilslice, .nilslice] true :: [])
  rw [show (H ++ AB.row 0 [.str c.note, slV c.facesN fcE c.faces, slV c.namesN nmE c.names, slV c.secretsN scE c.secrets, slV c.packetsN pkE c.packets] true :: AB.row 0 [.str [], .nilslice, .nilslice, .nilslice, .nilslice] true :: []).length = H.length + 2 by simp] at r1
  obtain ⟨c11, c12, c13, c14, c15, c16, c17⟩ := r1.cell
  have n1 := fun H' => r1.len (P := Try.prog) (t := 26) (z := 3) (by kernel_rfl) H'
  have q1 := r1
  obtain ⟨v2, L2, e2, r2⟩ := fn117 (b := c.namesN) hlen.2.1 (H ++ AB.row 0 [.str c.note, v1, slV c.namesN nmE c.names, slV c.secretsN scE c.secrets, slV c.packetsN pkE c.packets] true :: AB.row 0 [.str [], .nilslice, .nilslice, .nilslice, .nilslice] true :: L1)
  rw [show (H ++ AB.row 0 [.str c.note, v1, slV c.namesN nmE c.names, slV c.secretsN scE c.secrets, slV c.packetsN pkE c.packets] true :: AB.row 0 [.str [], .nilslice, .nilslice, .nilslice, .nilslice] true :: L1).length = H.length + 2 + L1.length by simp; omega] at r2
  replace r2 := RowM.pre L1 r2
  replace q1 := RowM.app q1 L2
  obtain ⟨c21, c22, c23, c24, c25, c26, c27⟩ := r2.cell
  have n2 := fun H' => r2.len (P := Try.prog) (t := 27) (z := 2) (by kernel_rfl) H'
  simp (disch := first | rfl | omega | exact lt_new _ | assumption | decide | (simp [tk_here, tk_app, tk_0, tk_S, gr_here, gr_app, gr_0, gr_S] <;> omega) | fail) only [r74_0, r74_1, r74_2, r74_3, r74_4, r74_5, r74_6, r74_7, r74_9, r74_10, r74_11, r74_12, r74_13, r74_14, r74_16, r74_17, r74_18, r74_19, r74_20, r74_21, r74_23, c74, rs74, gc74, go_sem, ↓reduceIte, Nat.reduceLT, Nat.reduceEqDiff, Nat.reduceAdd, Nat.reduceMul, Nat.reduceSub, Int.reduceAdd, Int.reduceSub, Nat.reduceLeDiff, Int.reduceLT, Int.reduceLE, Int.reduceEq, Int.reduceNeg, Int.reduceToNat, loadV_ptr, storeV_ptr, List.append_assoc, List.length_append, List.length_cons, List.length_nil, List.set_cons_zero, List.set_cons_succ, tk_here, tk_app, gr_here, gr_app, st_here, st_app, hc0, e1, e2, n2, c11, c12, c13, c14, c15, c16, c17, c21, c22, c23, c24, c25, c26, c27]
  refine Wp_loop (fun m T D H' => ∃ i M, m = c.names.length - i ∧ i ≤ c.names.length ∧ D = [] ∧ H' = H ++ AB.row 0 [.str c.note, v1, v2, slV c.secretsN scE c.secrets, slV c.packetsN pkE c.packets] true :: AB.row 0 [.str [], .nilslice, .nilslice, .nilslice, .nilslice] true :: M ∧ get T 1 = .ptr H.length 0 0 ∧ get T 2 = .ptr (H.length + 1) 0 0 ∧ get T 18 = v2 ∧ get T 19 = .int .i64 c.names.length ∧ get T 20 = .int .i64 i ∧ RowM fcE (H.length + 2) M v1 c.faces ∧ RowM nmE (H.length + 2) M v2 c.names) ?_ c.names.length _ _ _ ?_
  case refine_2 => exact ⟨0, _, by simp (disch := first | rfl | omega | exact lt_new _ | assumption | decide | (simp [tk_here, tk_app, tk_0, tk_S, gr_here, gr_app, gr_0, gr_S] <;> omega) | fail) only [go_sem, ↓reduceIte, Nat.reduceLT, Nat.reduceEqDiff, Nat.reduceAdd, Nat.reduceMul, Nat.reduceSub, Int.reduceAdd, Int.reduceSub, Nat.reduceLeDiff, Int.reduceLT, Int.reduceLE, Int.reduceEq, Int.reduceNeg, Int.reduceToNat], by omega, rfl, rfl, by simp [go_sem], by simp [go_sem], by simp [go_sem], by simp [go_sem], by simp [go_sem], q1, r2⟩
  rintro m T D H' ⟨i, M, rfl, hi, rfl, rfl, t1, t2, t18, t19, t20, q1, q2⟩
  by_cases hlt : i < c.names.length
  · have hlt' : (i : Int) < c.names.length := by omega
    rcases RowM.two q2 with ⟨_, hnil⟩ | ⟨j, g, hv, hj, hr⟩
    · rw [hnil] at hlt; cases hlt
    have hv' : v2 = .slice (H.length + (j + 1 + 1)) g 0 c.names.length 2 .full := hv
    have p1 : partV Try.prog 97 (flatE nmE c.names) (i * 2) = some (.agg (nmE.f (nmE.at c.names i))) := ld_nmE (H := H) hlt
    have ec := e118 (b := (nmE.at c.names i).addrN) (ha1 _ (nmE.at_mem hlt))
    have hfs : setAt (flatE nmE c.names) (i * 2 + 0) [slV (nmE.at c.names i).addrN byE (nmE.at c.names i).addr] = flatE nmE c.names := flatE_same (E := nmE) hlt (by decide) rfl
    have hfl : (flatE nmE c.names).length = c.names.length * 2 := flatE_len
    have hle : i * 2 + 0 + 1 ≤ c.names.length * 2 := by omega
    have hse := (RowM.get hr).2
    subst hv'
    rw [Nat.add_zero] at hfs hle
    simp (disch := first | rfl | omega | exact lt_new _ | assumption | decide | (simp [tk_here, tk_app, tk_0, tk_S, gr_here, gr_app, gr_0, gr_S] <;> omega) | fail) only [r74_0, r74_1, r74_2, r74_3, r74_4, r74_5, r74_6, r74_7, l74_8, r74_9, r74_10, r74_11, r74_12, r74_13, r74_14, l74_15, r74_16, r74_17, r74_18, r74_19, r74_20, r74_21, l74_22, r74_23, c74, rs74, gc74, go_sem, ↓reduceIte, Nat.reduceLT, Nat.reduceEqDiff, Nat.reduceAdd, Nat.reduceMul, Nat.reduceSub, Int.reduceAdd, Int.reduceSub, Nat.reduceLeDiff, Int.reduceLT, Int.reduceLE, Int.reduceEq, Int.reduceNeg, Int.reduceToNat, loadV_ptr, storeV_ptr, List.append_assoc, List.length_append, List.length_cons, List.length_nil, List.set_cons_zero, List.set_cons_succ, tk_here, tk_app, gr_here, gr_app, st_here, st_app, gr_l hj, st_l hj, hr, hse, t1, t2, t18, t19, t20, hlt', p1, ec, hfs, hfl, hle]
    exact ⟨_, by omega, i + 1, M ++ [_], rfl, hlt, rfl, rfl, RowM.app q1 _, RowM.app q2 _⟩
  · obtain rfl : i = c.names.length := by omega
    have t0 := Int.lt_irrefl
    obtain ⟨v3, L3, e3, r3⟩ := fn119 (b := c.secretsN) hlen.2.2.1 (H ++ AB.row 0 [.str c.note, v1, v2, slV c.secretsN scE c.secrets, slV c.packetsN pkE c.packets] true :: AB.row 0 [.str [], .nilslice, .nilslice, .nilslice, .nilslice] true :: M)
    rw [show (H ++ AB.row 0 [.str c.note, v1, v2, slV c.secretsN scE c.secrets, slV c.packetsN pkE c.packets] true :: AB.row 0 [.str [], .nilslice, .nilslice, .nilslice, .nilslice] true :: M).length = H.length + 2 + M.length by simp; omega] at r3
    replace r3 := RowM.pre M r3
    replace q1 := RowM.app q1 L3
    replace q2 := RowM.app q2 L3
    obtain ⟨c31, c32, c33, c34, c35, c36, c37⟩ := r3.cell
    have n3 := fun H' => r3.len (P := Try.prog) (t := 28) (z := 2) (by kernel_rfl) H'
    simp (disch := first | rfl | omega | exact lt_new _ | assumption | decide | (simp [tk_here, tk_app, tk_0, tk_S, gr_here, gr_app, gr_0, gr_S] <;> omega) | fail) only [r74_0, r74_1, r74_2, r74_3, r74_4, r74_5, r74_6, r74_7, l74_8, r74_9, r74_10, r74_11, r74_12, r74_13, r74_14, l74_15, r74_16, r74_17, r74_18, r74_19, r74_20, r74_21, l74_22, r74_23, c74, rs74, gc74, go_sem, ↓reduceIte, Nat.reduceLT, Nat.reduceEqDiff, Nat.reduceAdd, Nat.reduceMul, Nat.reduceSub, Int.reduceAdd, Int.reduceSub, Nat.reduceLeDiff, Int.reduceLT, Int.reduceLE, Int.reduceEq, Int.reduceNeg, Int.reduceToNat, loadV_ptr, storeV_ptr, List.append_assoc, List.length_append, List.length_cons, List.length_nil, List.set_cons_zero, List.set_cons_succ, tk_here, tk_app, gr_here, gr_app, st_here, st_app, t1, t2, t18, t19, t20, t0, e3, n3, c11, c12, c13, c14, c15, c16, c17, c21, c22, c23, c24, c25, c26, c27, c31, c32, c33, c34, c35, c36, c37]
    refine Wp_loop (fun m T D H' => ∃ i M, m = c.secrets.length - i ∧ i ≤ c.secrets.length ∧ D = [] ∧ H' = H ++ AB.row 0 [.str c.note, v1, v2, v3, slV c.packetsN pkE c.packets] true :: AB.row 0 [.str [], .nilslice, .nilslice, .nilslice, .nilslice] true :: M ∧ get T 1 = .ptr H.length 0 0 ∧ get T 2 = .ptr (H.length + 1) 0 0 ∧ get T 39 = v3 ∧ get T 40 = .int .i64 c.secrets.length ∧ get T 41 = .int .i64 i ∧ RowM fcE (H.length + 2) M v1 c.faces ∧ RowM nmE (H.length + 2) M v2 c.names ∧ RowM scE (H.length + 2) M v3 c.secrets) ?_ c.secrets.length _ _ _ ?_
    case refine_2 => exact ⟨0, _, by simp (disch := first | rfl | omega | exact lt_new _ | assumption | decide | (simp [tk_here, tk_app, tk_0, tk_S, gr_here, gr_app, gr_0, gr_S] <;> omega) | fail) only [go_sem, ↓reduceIte, Nat.reduceLT, Nat.reduceEqDiff, Nat.reduceAdd, Nat.reduceMul, Nat.reduceSub, Int.reduceAdd, Int.reduceSub, Nat.reduceLeDiff, Int.reduceLT, Int.reduceLE, Int.reduceEq, Int.reduceNeg, Int.reduceToNat], by omega, rfl, rfl, by simp [go_sem, t1, t2], by simp [go_sem, t1, t2], by simp [go_sem], by simp [go_sem], by simp [go_sem], q1, q2, r3⟩
    rintro m T D H' ⟨i, M, rfl, hi, rfl, rfl, t1, t2, t39, t40, t41, q1, q2, q3⟩
    by_cases hlt : i < c.secrets.length
    · have hlt' : (i : Int) < c.secrets.length := by omega
      rcases RowM.two q3 with ⟨_, hnil⟩ | ⟨j, g, hv, hj, hr⟩
      · rw [hnil] at hlt; cases hlt
      have hv' : v3 = .slice (H.length + (j + 1 + 1)) g 0 c.secrets.length 2 .full := hv
      have p1 : partV Try.prog 100 (flatE scE c.secrets) (i * 2) = some (.agg (scE.f (scE.at c.secrets i))) := ld_scE (H := H) hlt
      have ec := e118 (b := (scE.at c.secrets i).keyN) (ha2 _ (scE.at_mem hlt))
      have hfs : setAt (flatE scE c.secrets) (i * 2 + 1) [slV (scE.at c.secrets i).keyN byE (scE.at c.secrets i).key] = flatE scE c.secrets := flatE_same (E := scE) hlt (by decide) rfl
      have hfl : (flatE scE c.secrets).length = c.secrets.length * 2 := flatE_len
      have hle : i * 2 + 1 + 1 ≤ c.secrets.length * 2 := by omega
      have hse := (RowM.get hr).2
      subst hv'
      simp (disch := first | rfl | omega | exact lt_new _ | assumption | decide | (simp [tk_here, tk_app, tk_0, tk_S, gr_here, gr_app, gr_0, gr_S] <;> omega) | fail) only [r74_0, r74_1, r74_2, r74_3, r74_4, r74_5, r74_6, r74_7, l74_8, r74_9, r74_10, r74_11, r74_12, r74_13, r74_14, l74_15, r74_16, r74_17, r74_18, r74_19, r74_20, r74_21, l74_22, r74_23, c74, rs74, gc74, go_sem, ↓reduceIte, Nat.reduceLT, Nat.reduceEqDiff, Nat.reduceAdd, Nat.reduceMul, Nat.reduceSub, Int.reduceAdd, Int.reduceSub, Nat.reduceLeDiff, Int.reduceLT, Int.reduceLE, Int.reduceEq, Int.reduceNeg, Int.reduceToNat, loadV_ptr, storeV_ptr, List.append_assoc, List.length_append, List.length_cons, List.length_nil, List.set_cons_zero, List.set_cons_succ, tk_here, tk_app, gr_here, gr_app, st_here, st_app, gr_l hj, st_l hj, hr, hse, t1, t2, t39, t40, t41, hlt', p1, ec, hfs, hfl, hle]
      exact ⟨_, by omega, i + 1, M ++ [_], rfl, hlt, rfl, rfl, RowM.app q1 _, RowM.app q2 _, RowM.app q3 _⟩
    · obtain rfl : i = c.secrets.length := by omega
      have t0 := Int.lt_irrefl
      obtain ⟨v4, L4, e4, r4⟩ := fn120 (b := c.packetsN) hlen.2.2.2 (H ++ AB.row 0 [.str c.note, v1, v2, v3, slV c.packetsN pkE c.packets] true :: AB.row 0 [.str [], .nilslice, .nilslice, .nilslice, .nilslice] true :: M)
      rw [show (H ++ AB.row 0 [.str c.note, v1, v2, v3, slV c.packetsN pkE c.packets] true :: AB.row 0 [.str [], .nilslice, .nilslice, .nilslice, .nilslice] true :: M).length = H.length + 2 + M.length by simp; omega] at r4
      obtain ⟨c41, c42, c43, c44, c45, c46, c47⟩ := r4.cell
      have n4 := fun H' => r4.len (P := Try.prog) (t := 29) (z := 5) (by kernel_rfl) H'
      simp (disch := first | rfl | omega | exact lt_new _ | assumption | decide | (simp [tk_here, tk_app, tk_0, tk_S, gr_here, gr_app, gr_0, gr_S] <;> omega) | fail) only [r74_0, r74_1, r74_2, r74_3, r74_4, r74_5, r74_6, r74_7, l74_8, r74_9, r74_10, r74_11, r74_12, r74_13, r74_14, l74_15, r74_16, r74_17, r74_18, r74_19, r74_20, r74_21, l74_22, r74_23, c74, rs74, gc74, go_sem, ↓reduceIte, Nat.reduceLT, Nat.reduceEqDiff, Nat.reduceAdd, Nat.reduceMul, Nat.reduceSub, Int.reduceAdd, Int.reduceSub, Nat.reduceLeDiff, Int.reduceLT, Int.reduceLE, Int.reduceEq, Int.reduceNeg, Int.reduceToNat, loadV_ptr, storeV_ptr, List.append_assoc, List.length_append, List.length_cons, List.length_nil, List.set_cons_zero, List.set_cons_succ, tk_here, tk_app, gr_here, gr_app, st_here, st_app, t1, t2, t39, t40, t41, t0, e4, n4, c11, c12, c13, c14, c15, c16, c17, c21, c22, c23, c24, c25, c26, c27, c31, c32, c33, c34, c35, c36, c37, c41, c42, c43, c44, c45, c46, c47]
      refine Wp_loop (fun m T D H' => ∃ i Y X, m = c.packets.length - i ∧ i ≤ c.packets.length ∧ D = [] ∧ H' = H ++ AB.row 0 [.str c.note, v1, v2, v3, v4] true :: AB.row 0 [.str [], .nilslice, .nilslice, .nilslice, .nilslice] true :: Y ∧ get T 1 = .ptr H.length 0 0 ∧ get T 2 = .ptr (H.length + 1) 0 0 ∧ get T 60 = v4 ∧ get T 61 = .int .i64 c.packets.length ∧ get T 62 = .int .i64 i ∧ Y = M ++ X ∧ RowM pkE (H.length + 2 + M.length) X v4 c.packets) ?_ c.packets.length _ _ _ ?_
      case refine_2 => exact ⟨0, _, L4, by simp (disch := first | rfl | omega | exact lt_new _ | assumption | decide | (simp [tk_here, tk_app, tk_0, tk_S, gr_here, gr_app, gr_0, gr_S] <;> omega) | fail) only [go_sem, ↓reduceIte, Nat.reduceLT, Nat.reduceEqDiff, Nat.reduceAdd, Nat.reduceMul, Nat.reduceSub, Int.reduceAdd, Int.reduceSub, Nat.reduceLeDiff, Int.reduceLT, Int.reduceLE, Int.reduceEq, Int.reduceNeg, Int.reduceToNat], by omega, rfl, rfl, by simp [go_sem, t1, t2], by simp [go_sem, t1, t2], by simp [go_sem], by simp [go_sem], by simp [go_sem], rfl, r4⟩
      rintro m T D H' ⟨i, Y, X, rfl, hi, rfl, rfl, t1, t2, t60, t61, t62, hY, qX⟩
      have q4 : RowM pkE (H.length + 2) Y v4 c.packets := by rw [hY]; exact RowM.pre M qX
      by_cases hlt : i < c.packets.length
      · have hlt' : (i : Int) < c.packets.length := by omega
        rcases RowM.two q4 with ⟨_, hnil⟩ | ⟨j, g, hv, hj, hr⟩
        · rw [hnil] at hlt; cases hlt
        have hv' : v4 = .slice (H.length + (j + 1 + 1)) g 0 c.packets.length 5 .full := hv
        have p1 : partV Try.prog 56 (flatE pkE c.packets) (i * 5) = some (.agg (pkE.f (pkE.at c.packets i))) := ld_pkE (H := H) hlt
        have ec := e118 (b := (pkE.at c.packets i).dataN) (ha3 _ (pkE.at_mem hlt))
        have hfs : setAt (flatE pkE c.packets) (i * 5 + 3) [slV (pkE.at c.packets i).dataN byE (pkE.at c.packets i).data] = flatE pkE c.packets := flatE_same (E := pkE) hlt (by decide) rfl
        have hfl : (flatE pkE c.packets).length = c.packets.length * 5 := flatE_len
        have hle : i * 5 + 3 + 1 ≤ c.packets.length * 5 := by omega
        have hse := (RowM.get hr).2
        subst hv'
        simp (disch := first | rfl | omega | exact lt_new _ | assumption | decide | (simp [tk_here, tk_app, tk_0, tk_S, gr_here, gr_app, gr_0, gr_S] <;> omega) | fail) only [r74_0, r74_1, r74_2, r74_3, r74_4, r74_5, r74_6, r74_7, l74_8, r74_9, r74_10, r74_11, r74_12, r74_13, r74_14, l74_15, r74_16, r74_17, r74_18, r74_19, r74_20, r74_21, l74_22, r74_23, c74, rs74, gc74, go_sem, ↓reduceIte, Nat.reduceLT, Nat.reduceEqDiff, Nat.reduceAdd, Nat.reduceMul, Nat.reduceSub, Int.reduceAdd, Int.reduceSub, Nat.reduceLeDiff, Int.reduceLT, Int.reduceLE, Int.reduceEq, Int.reduceNeg, Int.reduceToNat, loadV_ptr, storeV_ptr, List.append_assoc, List.length_append, List.length_cons, List.length_nil, List.set_cons_zero, List.set_cons_succ, tk_here, tk_app, gr_here, gr_app, st_here, st_app, gr_l hj, st_l hj, hr, hse, t1, t2, t60, t61, t62, hlt', p1, ec, hfs, hfl, hle]
        exact ⟨_, by omega, i + 1, Y ++ [_], X ++ [_], rfl, hlt, rfl, rfl, by rw [hY, List.append_assoc], RowM.app qX _⟩
      · obtain rfl : i = c.packets.length := by omega
        have t0 := Int.lt_irrefl
        simp (disch := first | rfl | omega | exact lt_new _ | assumption | decide | (simp [tk_here, tk_app, tk_0, tk_S, gr_here, gr_app, gr_0, gr_S] <;> omega) | fail) only [r74_0, r74_1, r74_2, r74_3, r74_4, r74_5, r74_6, r74_7, l74_8, r74_9, r74_10, r74_11, r74_12, r74_13, r74_14, l74_15, r74_16, r74_17, r74_18, r74_19, r74_20, r74_21, l74_22, r74_23, c74, rs74, gc74, go_sem, ↓reduceIte, Nat.reduceLT, Nat.reduceEqDiff, Nat.reduceAdd, Nat.reduceMul, Nat.reduceSub, Int.reduceAdd, Int.reduceSub, Nat.reduceLeDiff, Int.reduceLT, Int.reduceLE, Int.reduceEq, Int.reduceNeg, Int.reduceToNat, loadV_ptr, storeV_ptr, List.append_assoc, List.length_append, List.length_cons, List.length_nil, List.set_cons_zero, List.set_cons_succ, tk_here, tk_app, gr_here, gr_app, st_here, st_app, t1, t2, t60, t61, t62, t0, c11, c12, c13, c14, c15, c16, c17, c21, c22, c23, c24, c25, c26, c27, c31, c32, c33, c34, c35, c36, c37, c41, c42, c43, c44, c45, c46, c47]
        subst hY
        refine ⟨v1, v2, v3, v4, AB.row 0 [.str c.note, v1, v2, v3, v4] true :: AB.row 0 [.str c.note, v1, v2, v3, v4] true :: M, X, by simp, RowM.pre [_, _] q1, RowM.pre [_, _] q2, RowM.pre [_, _] q3, ?_⟩
        rw [show H.length + (AB.row 0 [.str c.note, v1, v2, v3, v4] true :: AB.row 0 [.str c.note, v1, v2, v3, v4] true :: M).length = H.length + 2 + M.length by simp; omega]
        exact qX
theorem fn74 (c : Cp) (hs : CpS c) (H : Hp) : ∃ v1 v2 v3 v4 L, callL Try.prog pr 74 [.agg (cpE.f c)] H = some (.agg [.str c.note, v1, v2, v3, v4], H ++ L) ∧ RowM fcE H.length L v1 c.faces ∧ RowM nmE H.length L v2 c.names ∧ RowM scE H.length L v3 c.secrets ∧ RowM pkE H.length L v4 c.packets := by
  obtain ⟨v1, v2, v3, v4, L, X, h1, h2, h3, h4, h5⟩ := fn74s c hs H
  exact ⟨v1, v2, v3, v4, L ++ X, h1, h2.app X, h3.app X, h4.app X, RowM.pre L h5⟩
end Go.Proofs.Ytejkgnmjdaohdaa
/-
  Rows whose cells are set one by one. No statement of the seat stands here.
-/
namespace Go.An
open Go
variable {α : Type}
theorem setAt_set {cs : List V} {j : Nat} (h : j < cs.length) (v : V) : setAt cs j [v] = cs.set j v := by
  rw [List.set_eq_take_append_cons_drop, if_pos h]
  simp [setAt]
theorem flatE_cons (E : Enc α) (a : α) (l : List α) : flatE E (a :: l) = E.f a ++ flatE E l := by simp [flatE]
theorem flatE_setc {E : Enc α} {j : Nat} {v : V} {x : α} (hj : j < E.w) : ∀ {l : List α} {i : Nat}, i < l.length → (E.f (E.at l i)).set j v = E.f x → (flatE E l).set (i * E.w + j) v = flatE E (l.set i x)
  | [], _, h, _ => by cases h
  | y :: ys, 0, _, h => by
    have e : E.at (y :: ys) 0 = y := by simp [Enc.at]
    rw [e] at h
    rw [flatE_cons, List.set_cons_zero, flatE_cons, List.set_append_left _ _ (by rw [E.len]; omega), Nat.zero_mul, Nat.zero_add, h]
  | y :: ys, i + 1, hi, h => by
    have e : E.at (y :: ys) (i + 1) = E.at ys i := by simp [Enc.at]
    rw [e] at h
    have ih := flatE_setc (E := E) (v := v) (x := x) hj (l := ys) (i := i) (by simpa using hi) h
    rw [flatE_cons, List.set_cons_succ, flatE_cons, List.set_append_right _ _ (by rw [E.len, Nat.add_mul]; omega), E.len, show (i + 1) * E.w + j - E.w = i * E.w + j by rw [Nat.add_mul]; omega, ih]
/-- One cell of one element of a row is set. -/
theorem flatE_at_set [Orc] {E : Enc α} {l : List α} {i j : Nat} {v : V} {x : α} (hi : i < l.length) (hj : j < E.w) (h : (E.f (E.at l i)).set j v = E.f x) : setAt (flatE E l) (i * E.w + j) [v] = flatE E (l.set i x) := by
  rw [setAt_set (by rw [flatE_len]; have : i * E.w + E.w ≤ l.length * E.w := by rw [← Nat.succ_mul]; exact Nat.mul_le_mul_right _ hi
                    omega), flatE_setc hj hi h]
/-- A list whose first elements are changed. -/
def mix (g : α → α) (l : List α) (i : Nat) : List α := (l.take i).map g ++ l.drop i
theorem mix_0 (g : α → α) (l : List α) : mix g l 0 = l := by simp [mix]
theorem mix_len (g : α → α) (l : List α) (i : Nat) : (mix g l i).length = l.length := by simp [mix]; omega
theorem mix_all (g : α → α) (l : List α) : mix g l l.length = l.map g := by simp [mix]
theorem mix_get (g : α → α) {l : List α} {i : Nat} (h : i < l.length) : (mix g l i)[i]? = l[i]? := by
  have : ((l.take i).map g).length = i := by simp; omega
  rw [mix, List.getElem?_append_right (by omega), this, Nat.sub_self]
  simp
theorem mix_at (E : Enc α) (g : α → α) {l : List α} {i : Nat} (h : i < l.length) : E.at (mix g l i) i = E.at l i := by
  have h1 := E.at_some (l := mix g l i) (i := i) (by rw [mix_len]; exact h)
  rw [mix_get g h, E.at_some h] at h1
  exact (Option.some.inj h1).symm
theorem mix_set (E : Enc α) (g : α → α) {l : List α} {i : Nat} (h : i < l.length) : (mix g l i).set i (g (E.at l i)) = mix g l (i + 1) := by
  have h0 : ((l.take i).map g).length = i := by simp; omega
  have h1 : l.drop i = E.at l i :: l.drop (i + 1) := by
    rw [List.drop_eq_getElem_cons h]
    have h2 := E.at_some h
    rw [List.getElem?_eq_getElem h] at h2
    rw [Option.some.inj h2]
  have h3 : (l.take (i + 1)).map g = (l.take i).map g ++ [g (E.at l i)] := by
    rw [List.take_add_one, E.at_some h]; simp
  unfold mix
  rw [List.set_append_right _ _ (by omega), h0, Nat.sub_self, h1, List.set_cons_zero, h3]
  simp
end Go.An
/-
  Captures that are told to be right; times that are moved, walked. No statement of the seat stands here.
-/
namespace Go.Proofs.Ytejkgnmjdaohdaa
open Go Go.An
set_option maxRecDepth 4000
set_option linter.unusedSimpArgs false
set_option linter.unusedVariables false

def CpEq (c d : Cp) : Prop := c.note = d.note ∧ c.faces = d.faces ∧ c.names = d.names ∧ c.secrets = d.secrets ∧ c.packets = d.packets
/-- The times of packets are small. -/
def PkT (p : Pk) : Prop := 0 ≤ p.time ∧ p.time ≤ 1000000000000000
theorem val_pk {c : Cp} (h : valE c = 0) : (∀ p ∈ c.packets, pfB p c.faces = true) ∧ (c.packets.length ≤ 100 ∧ c.secrets.length ≤ 60 ∧ c.names.length ≤ 60 ∧ c.faces.length ≤ 4) ∧ 1 ≤ c.faces.length := by
  unfold valE at h
  split at h
  · cases h
  · rename_i h1
    split at h
    · cases h
    · rename_i h2
      unfold largeB at h1
      unfold wrongB at h2
      simp only [Bool.or_eq_true, decide_eq_true_eq, not_or, List.any_eq_true, not_exists, not_and, Bool.not_eq_true', Bool.not_eq_false] at h1 h2
      refine ⟨fun p hp => h2.2 p hp, by omega, ?_⟩
      have := h2.1.1.1.1.1
      omega
theorem pf_pk {p : Pk} {fs : List Fc} (h : pfB p fs = true) : PkT p ∧ 0 ≤ p.face ∧ p.face < fs.length ∧ p.data.length ≤ 400 ∧ (p.data.length : Int) ≤ p.real ∧ p.real ≤ 1000000 := by
  unfold pfB pkB at h
  simp only [Bool.and_eq_true, decide_eq_true_eq, Bool.or_eq_true] at h
  exact ⟨⟨h.2.1.1.1.1.1.1, h.2.1.1.1.1.1.2⟩, h.1.1, h.1.2, by have := h.2.1.1.1.1.2; omega, h.2.1.2, h.2.2⟩
theorem val_S {c : Cp} (hv : valE c = 0) : CpS c := by
  obtain ⟨hpf, ⟨h1, h2, h3, h4⟩, _⟩ := val_pk hv
  have hw : (∀ n ∈ c.names, nmB n = true) ∧ ∀ s ∈ c.secrets, scB s = true := by
    unfold valE at hv
    split at hv
    · cases hv
    · split at hv
      · cases hv
      · rename_i h2
        unfold wrongB at h2
        simp only [Bool.or_eq_true, decide_eq_true_eq, not_or, List.any_eq_true, not_exists, not_and, Bool.not_eq_true', Bool.not_eq_false] at h2
        exact ⟨fun n hn => h2.1.1.2 n hn, fun n hn => h2.1.2 n hn⟩
  refine ⟨by omega, fun x hx => ?_, fun x hx => ?_, fun x hx => ?_⟩
  · have := hw.1 x hx
    unfold nmB at this
    simp only [Bool.and_eq_true, decide_eq_true_eq] at this
    omega
  · have := hw.2 x hx
    unfold scB at this
    simp only [Bool.and_eq_true, decide_eq_true_eq] at this
    omega
  · have := pf_pk (hpf x hx)
    omega
def noCp : Cp := ⟨[], true, [], true, [], true, [], true, []⟩
theorem noCp_f : cpE.f noCp = [.str [], .nilslice, .nilslice, .nilslice, .nilslice] := by
  rw [cpE_f]
  simp only [noCp, slV_nil]
theorem CpEq.rfl' (c : Cp) : CpEq c c := ⟨rfl, rfl, rfl, rfl, rfl⟩
theorem fn76 (c : Cp) {b : Bool} {l : List Pk} (H : Hp) : callL Try.prog pr 76 [.agg (cpE.f c), slV b pkE l] H = some (.agg (cpE.f {c with packetsN := b, packets := l}), H) := by
  refine run76 (Nat.le_of_ble_eq_true rfl) ?_
  simp only [cpE_f]
  simp (disch := first | rfl | omega | exact lt_new _ | assumption | decide | (simp [tk_here, tk_app, tk_0, tk_S, gr_here, gr_app, gr_0, gr_S] <;> omega) | fail) only [r76_0, r76_1, r76_2, c76, rs76, gc76, go_sem, ↓reduceIte, Nat.reduceLT, Nat.reduceEqDiff, Nat.reduceAdd, Nat.reduceMul, Nat.reduceSub, Int.reduceAdd, Int.reduceSub, Nat.reduceLeDiff, Int.reduceLT, Int.reduceLE, Int.reduceEq, Int.reduceNeg, Int.reduceToNat, loadV_ptr, storeV_ptr, List.append_assoc, List.length_append, List.length_cons, List.length_nil, List.set_cons_zero, List.set_cons_succ, tk_here, tk_app, gr_here, gr_app, st_here, st_app]
  exact finQ_app (by simp (disch := first | rfl | omega | exact lt_new _ | assumption | decide | (simp [tk_here, tk_app, tk_0, tk_S, gr_here, gr_app, gr_0, gr_S] <;> omega) | fail) only [go_sem, ↓reduceIte, Nat.reduceLT, Nat.reduceEqDiff, Nat.reduceAdd, Nat.reduceMul, Nat.reduceSub, Int.reduceAdd, Int.reduceSub, Nat.reduceLeDiff, Int.reduceLT, Int.reduceLE, Int.reduceEq, Int.reduceNeg, Int.reduceToNat])

theorem RowM.four {α : Type} {E : Enc α} {n : Nat} {L M : Hp} {v : V} {l : List α} (h : RowM E (n + 2 + L.length) M v l) : (v = .nilslice ∧ l = []) ∨ ∃ j g, v = .slice (n + (L.length + j + 1 + 1)) g 0 l.length E.w .full ∧ j < M.length ∧ getRow M j g = some (flatE E l, true) := by
  rcases h with h | ⟨j, g, rfl, h⟩
  · exact Or.inl h
  · exact Or.inr ⟨j, g, by rw [show n + 2 + L.length + j = n + (L.length + j + 1 + 1) by omega], h⟩
/-- Added to a time. -/
def addF (t b : Int) : Int × Bool := if 1000000000000000 < b ∨ b < -1000000000000000 then (0, false) else (t + b, okT (t + b))
theorem fn93 {t b : Int} (h0 : 0 ≤ t) (h1 : t ≤ 1000000000000000) (H : Hp) : callL Try.prog pr 93 [.int .i64 t, .int .i64 b] H = some (.tup [.int .i64 (addF t b).1, .bool (addF t b).2], H) := by
  have h68 := fun n H => fn68 n H
  unfold addF
  by_cases hb : 1000000000000000 < b ∨ b < -1000000000000000
  · rw [if_pos hb]
    have hb2 : ¬ 1000000000000000 < b → b < -1000000000000000 := fun h => hb.resolve_left h
    refine run93 (Nat.le_of_ble_eq_true rfl) ?_
    simp (disch := first | rfl | omega | exact lt_new _ | assumption | decide | (simp [tk_here, tk_app, tk_0, tk_S, gr_here, gr_app, gr_0, gr_S] <;> omega) | fail) only [r93_0, r93_1, r93_2, r93_3, c93, rs93, gc93, h68, hb2, go_sem, ↓reduceIte, Nat.reduceLT, Nat.reduceEqDiff, Nat.reduceAdd, Nat.reduceMul, Nat.reduceSub, Int.reduceAdd, Int.reduceSub, Nat.reduceLeDiff, Int.reduceLT, Int.reduceLE, Int.reduceEq, Int.reduceNeg, Int.reduceToNat]
    repeat' ((first | refine guardB_dec (fun hy => ?_) (fun hy => ?_) | refine guardB_bool (fun hy => ?_) (fun hy => ?_) | refine guardQ_ite (fun hy => ?_) (fun hy => ?_) | refine brQ_dec (fun hy => ?_) (fun hy => ?_) | refine brQ_bool (fun hy => ?_) (fun hy => ?_)) <;> (try simp only [Bool.not_eq_true', Bool.not_eq_false', Bool.and_eq_true, Bool.or_eq_false_iff, decide_eq_true_eq, decide_eq_false_iff_not] at hy) <;> simp (disch := first | rfl | omega | exact lt_new _ | assumption | decide | (simp [tk_here, tk_app, tk_0, tk_S, gr_here, gr_app, gr_0, gr_S] <;> omega) | fail) only [r93_0, r93_1, r93_2, r93_3, c93, rs93, gc93, h68, hb2, go_sem, ↓reduceIte, Nat.reduceLT, Nat.reduceEqDiff, Nat.reduceAdd, Nat.reduceMul, Nat.reduceSub, Int.reduceAdd, Int.reduceSub, Nat.reduceLeDiff, Int.reduceLT, Int.reduceLE, Int.reduceEq, Int.reduceNeg, Int.reduceToNat, hy])
    all_goals (try ((first | refine finQ_same ?_ | refine finQ_app ?_ | (rw [List.append_assoc]; refine finQ_app ?_)) <;> simp (disch := first | rfl | omega | exact lt_new _ | assumption | decide | (simp [tk_here, tk_app, tk_0, tk_S, gr_here, gr_app, gr_0, gr_S] <;> omega) | fail) only [go_sem, ↓reduceIte, Nat.reduceLT, Nat.reduceEqDiff, Nat.reduceAdd, Nat.reduceMul, Nat.reduceSub, Int.reduceAdd, Int.reduceSub, Nat.reduceLeDiff, Int.reduceLT, Int.reduceLE, Int.reduceEq, Int.reduceNeg, Int.reduceToNat, List.append_assoc, List.cons_append, List.nil_append, *]))
    all_goals (try first | rfl | (simp [*]; done) | grind)
  · rw [if_neg hb]
    have hb1 : ¬ 1000000000000000 < b := fun h => hb (.inl h)
    have hb2 : ¬ b < -1000000000000000 := fun h => hb (.inr h)
    have hw : IntKind.i64.wrap (t + b) = t + b := IntWalk.i64_in _ (by omega)
    refine run93 (Nat.le_of_ble_eq_true rfl) ?_
    simp (disch := first | rfl | omega | exact lt_new _ | assumption | decide | (simp [tk_here, tk_app, tk_0, tk_S, gr_here, gr_app, gr_0, gr_S] <;> omega) | fail) only [r93_0, r93_1, r93_2, r93_3, c93, rs93, gc93, h68, hb1, hb2, hw, go_sem, ↓reduceIte, Nat.reduceLT, Nat.reduceEqDiff, Nat.reduceAdd, Nat.reduceMul, Nat.reduceSub, Int.reduceAdd, Int.reduceSub, Nat.reduceLeDiff, Int.reduceLT, Int.reduceLE, Int.reduceEq, Int.reduceNeg, Int.reduceToNat]
    repeat' ((first | refine guardB_dec (fun hy => ?_) (fun hy => ?_) | refine guardB_bool (fun hy => ?_) (fun hy => ?_) | refine guardQ_ite (fun hy => ?_) (fun hy => ?_) | refine brQ_dec (fun hy => ?_) (fun hy => ?_) | refine brQ_bool (fun hy => ?_) (fun hy => ?_)) <;> (try simp only [Bool.not_eq_true', Bool.not_eq_false', Bool.and_eq_true, Bool.or_eq_false_iff, decide_eq_true_eq, decide_eq_false_iff_not] at hy) <;> simp (disch := first | rfl | omega | exact lt_new _ | assumption | decide | (simp [tk_here, tk_app, tk_0, tk_S, gr_here, gr_app, gr_0, gr_S] <;> omega) | fail) only [r93_0, r93_1, r93_2, r93_3, c93, rs93, gc93, h68, hb1, hb2, hw, go_sem, ↓reduceIte, Nat.reduceLT, Nat.reduceEqDiff, Nat.reduceAdd, Nat.reduceMul, Nat.reduceSub, Int.reduceAdd, Int.reduceSub, Nat.reduceLeDiff, Int.reduceLT, Int.reduceLE, Int.reduceEq, Int.reduceNeg, Int.reduceToNat, hy])
    all_goals (try ((first | refine finQ_same ?_ | refine finQ_app ?_ | (rw [List.append_assoc]; refine finQ_app ?_)) <;> simp (disch := first | rfl | omega | exact lt_new _ | assumption | decide | (simp [tk_here, tk_app, tk_0, tk_S, gr_here, gr_app, gr_0, gr_S] <;> omega) | fail) only [go_sem, ↓reduceIte, Nat.reduceLT, Nat.reduceEqDiff, Nat.reduceAdd, Nat.reduceMul, Nat.reduceSub, Int.reduceAdd, Int.reduceSub, Nat.reduceLeDiff, Int.reduceLT, Int.reduceLE, Int.reduceEq, Int.reduceNeg, Int.reduceToNat, List.append_assoc, List.cons_append, List.nil_append, *]))
    all_goals (try first | rfl | (simp [*]; done) | grind)
theorem fn92 {t b : Int} (h0 : 0 ≤ t) (h1 : t ≤ 1000000000000000) (H : Hp) : callL Try.prog pr 92 [.int .i64 t, .ipt [.int .i64 b] 0] H = some (.tup [.int .i64 (addF t b).1, .bool (addF t b).2], H) := by
  have h93 := fun H => fn93 (b := b) h0 h1 H
  refine run92 (Nat.le_of_ble_eq_true rfl) ?_
  simp (disch := first | rfl | omega | exact lt_new _ | assumption | decide | (simp [tk_here, tk_app, tk_0, tk_S, gr_here, gr_app, gr_0, gr_S] <;> omega) | fail) only [r92_0, r92_1, c92, rs92, gc92, h93, go_sem, ↓reduceIte, Nat.reduceLT, Nat.reduceEqDiff, Nat.reduceAdd, Nat.reduceMul, Nat.reduceSub, Int.reduceAdd, Int.reduceSub, Nat.reduceLeDiff, Int.reduceLT, Int.reduceLE, Int.reduceEq, Int.reduceNeg, Int.reduceToNat]
  repeat' ((first | refine guardB_dec (fun hy => ?_) (fun hy => ?_) | refine guardB_bool (fun hy => ?_) (fun hy => ?_) | refine guardQ_ite (fun hy => ?_) (fun hy => ?_) | refine brQ_dec (fun hy => ?_) (fun hy => ?_) | refine brQ_bool (fun hy => ?_) (fun hy => ?_)) <;> (try simp only [Bool.not_eq_true', Bool.not_eq_false', Bool.and_eq_true, Bool.or_eq_false_iff, decide_eq_true_eq, decide_eq_false_iff_not] at hy) <;> simp (disch := first | rfl | omega | exact lt_new _ | assumption | decide | (simp [tk_here, tk_app, tk_0, tk_S, gr_here, gr_app, gr_0, gr_S] <;> omega) | fail) only [r92_0, r92_1, c92, rs92, gc92, h93, go_sem, ↓reduceIte, Nat.reduceLT, Nat.reduceEqDiff, Nat.reduceAdd, Nat.reduceMul, Nat.reduceSub, Int.reduceAdd, Int.reduceSub, Nat.reduceLeDiff, Int.reduceLT, Int.reduceLE, Int.reduceEq, Int.reduceNeg, Int.reduceToNat, hy])
  all_goals (try ((first | refine finQ_same ?_ | refine finQ_app ?_ | (rw [List.append_assoc]; refine finQ_app ?_)) <;> simp (disch := first | rfl | omega | exact lt_new _ | assumption | decide | (simp [tk_here, tk_app, tk_0, tk_S, gr_here, gr_app, gr_0, gr_S] <;> omega) | fail) only [go_sem, ↓reduceIte, Nat.reduceLT, Nat.reduceEqDiff, Nat.reduceAdd, Nat.reduceMul, Nat.reduceSub, Int.reduceAdd, Int.reduceSub, Nat.reduceLeDiff, Int.reduceLT, Int.reduceLE, Int.reduceEq, Int.reduceNeg, Int.reduceToNat, List.append_assoc, List.cons_append, List.nil_append, *]))
  all_goals (try first | rfl | (simp [*]; done) | grind)
end Go.Proofs.Ytejkgnmjdaohdaa
/-
  Whether captures are equal, for the program; how much right captures weigh; walked. No statement of the seat stands here.
-/
namespace Go.Proofs.Ytejkgnmjdaohdaa
open Go Go.An
set_option maxRecDepth 4000
set_option linter.unusedSimpArgs false
set_option linter.unusedVariables false

theorem fn123 (x y : Nm) (hx : NmOk x) (H : Hp) : callL Try.prog pr 123 [.agg (nmE.f x), .agg (nmE.f y)] H = some (.bool (nmS x y), H) := by
  have h71 := fun H => fn71 (b := x.addrN) (b' := y.addrN) (l := x.addr) (l' := y.addr) (by have := hx.1; omega) H
  refine run123 (Nat.le_of_ble_eq_true rfl) ?_
  unfold nmS
  simp (disch := first | rfl | omega | exact lt_new _ | assumption | decide | (simp [tk_here, tk_app, tk_0, tk_S, gr_here, gr_app, gr_0, gr_S] <;> omega) | fail) only [r123_0, r123_1, c123, rs123, gc123, loadV_ptr, storeV_ptr, List.append_assoc, List.length_append, List.length_cons, List.length_nil, List.set_cons_zero, List.set_cons_succ, tk_here, tk_app, gr_here, gr_app, st_here, st_app, h71, go_sem, ↓reduceIte, Nat.reduceLT, Nat.reduceEqDiff, Nat.reduceAdd, Nat.reduceMul, Nat.reduceSub, Int.reduceAdd, Int.reduceSub, Nat.reduceLeDiff, Int.reduceLT, Int.reduceLE, Int.reduceEq, Int.reduceNeg, Int.reduceToNat]
  repeat' ((first | refine guardB_dec (fun hy => ?_) (fun hy => ?_) | refine guardB_bool (fun hy => ?_) (fun hy => ?_) | refine guardQ_ite (fun hy => ?_) (fun hy => ?_) | refine brQ_dec (fun hy => ?_) (fun hy => ?_) | refine brQ_bool (fun hy => ?_) (fun hy => ?_)) <;> (try simp only [Bool.not_eq_true', Bool.not_eq_false', Bool.and_eq_true, Bool.or_eq_false_iff, decide_eq_true_eq, decide_eq_false_iff_not] at hy) <;> simp (disch := first | rfl | omega | exact lt_new _ | assumption | decide | (simp [tk_here, tk_app, tk_0, tk_S, gr_here, gr_app, gr_0, gr_S] <;> omega) | fail) only [r123_0, r123_1, c123, rs123, gc123, loadV_ptr, storeV_ptr, List.append_assoc, List.length_append, List.length_cons, List.length_nil, List.set_cons_zero, List.set_cons_succ, tk_here, tk_app, gr_here, gr_app, st_here, st_app, h71, go_sem, ↓reduceIte, Nat.reduceLT, Nat.reduceEqDiff, Nat.reduceAdd, Nat.reduceMul, Nat.reduceSub, Int.reduceAdd, Int.reduceSub, Nat.reduceLeDiff, Int.reduceLT, Int.reduceLE, Int.reduceEq, Int.reduceNeg, Int.reduceToNat, hy])
  all_goals (try ((first | refine finQ_same ?_ | refine finQ_app ?_ | (rw [List.append_assoc]; refine finQ_app ?_)) <;> simp (disch := first | rfl | omega | exact lt_new _ | assumption | decide | (simp [tk_here, tk_app, tk_0, tk_S, gr_here, gr_app, gr_0, gr_S] <;> omega) | fail) only [go_sem, ↓reduceIte, Nat.reduceLT, Nat.reduceEqDiff, Nat.reduceAdd, Nat.reduceMul, Nat.reduceSub, Int.reduceAdd, Int.reduceSub, Nat.reduceLeDiff, Int.reduceLT, Int.reduceLE, Int.reduceEq, Int.reduceNeg, Int.reduceToNat, List.append_assoc, List.cons_append, List.nil_append, *]))
  all_goals (try first | rfl | (simp [*]; done) | grind)
theorem fn125 (x y : Sc) (hx : ScOk x) (H : Hp) : callL Try.prog pr 125 [.agg (scE.f x), .agg (scE.f y)] H = some (.bool (scS x y), H) := by
  have h71 := fun H => fn71 (b := x.keyN) (b' := y.keyN) (l := x.key) (l' := y.key) (by have := hx.2; omega) H
  refine run125 (Nat.le_of_ble_eq_true rfl) ?_
  unfold scS
  simp (disch := first | rfl | omega | exact lt_new _ | assumption | decide | (simp [tk_here, tk_app, tk_0, tk_S, gr_here, gr_app, gr_0, gr_S] <;> omega) | fail) only [r125_0, r125_1, c125, rs125, gc125, loadV_ptr, storeV_ptr, List.append_assoc, List.length_append, List.length_cons, List.length_nil, List.set_cons_zero, List.set_cons_succ, tk_here, tk_app, gr_here, gr_app, st_here, st_app, h71, go_sem, ↓reduceIte, Nat.reduceLT, Nat.reduceEqDiff, Nat.reduceAdd, Nat.reduceMul, Nat.reduceSub, Int.reduceAdd, Int.reduceSub, Nat.reduceLeDiff, Int.reduceLT, Int.reduceLE, Int.reduceEq, Int.reduceNeg, Int.reduceToNat]
  repeat' ((first | refine guardB_dec (fun hy => ?_) (fun hy => ?_) | refine guardB_bool (fun hy => ?_) (fun hy => ?_) | refine guardQ_ite (fun hy => ?_) (fun hy => ?_) | refine brQ_dec (fun hy => ?_) (fun hy => ?_) | refine brQ_bool (fun hy => ?_) (fun hy => ?_)) <;> (try simp only [Bool.not_eq_true', Bool.not_eq_false', Bool.and_eq_true, Bool.or_eq_false_iff, decide_eq_true_eq, decide_eq_false_iff_not] at hy) <;> simp (disch := first | rfl | omega | exact lt_new _ | assumption | decide | (simp [tk_here, tk_app, tk_0, tk_S, gr_here, gr_app, gr_0, gr_S] <;> omega) | fail) only [r125_0, r125_1, c125, rs125, gc125, loadV_ptr, storeV_ptr, List.append_assoc, List.length_append, List.length_cons, List.length_nil, List.set_cons_zero, List.set_cons_succ, tk_here, tk_app, gr_here, gr_app, st_here, st_app, h71, go_sem, ↓reduceIte, Nat.reduceLT, Nat.reduceEqDiff, Nat.reduceAdd, Nat.reduceMul, Nat.reduceSub, Int.reduceAdd, Int.reduceSub, Nat.reduceLeDiff, Int.reduceLT, Int.reduceLE, Int.reduceEq, Int.reduceNeg, Int.reduceToNat, hy])
  all_goals (try ((first | refine finQ_same ?_ | refine finQ_app ?_ | (rw [List.append_assoc]; refine finQ_app ?_)) <;> simp (disch := first | rfl | omega | exact lt_new _ | assumption | decide | (simp [tk_here, tk_app, tk_0, tk_S, gr_here, gr_app, gr_0, gr_S] <;> omega) | fail) only [go_sem, ↓reduceIte, Nat.reduceLT, Nat.reduceEqDiff, Nat.reduceAdd, Nat.reduceMul, Nat.reduceSub, Int.reduceAdd, Int.reduceSub, Nat.reduceLeDiff, Int.reduceLT, Int.reduceLE, Int.reduceEq, Int.reduceNeg, Int.reduceToNat, List.append_assoc, List.cons_append, List.nil_append, *]))
  all_goals (try first | rfl | (simp [*]; done) | grind)
theorem fn127 (x y : Pk) (hx : x.data.length ≤ 2 ^ 62) (H : Hp) : callL Try.prog pr 127 [.agg (pkE.f x), .agg (pkE.f y)] H = some (.bool (pkS x y), H) := by
  have h71 := fun H => fn71 (b := x.dataN) (b' := y.dataN) (l := x.data) (l' := y.data) hx H
  refine run127 (Nat.le_of_ble_eq_true rfl) ?_
  unfold pkS
  simp (disch := first | rfl | omega | exact lt_new _ | assumption | decide | (simp [tk_here, tk_app, tk_0, tk_S, gr_here, gr_app, gr_0, gr_S] <;> omega) | fail) only [r127_0, r127_1, c127, rs127, gc127, loadV_ptr, storeV_ptr, List.append_assoc, List.length_append, List.length_cons, List.length_nil, List.set_cons_zero, List.set_cons_succ, tk_here, tk_app, gr_here, gr_app, st_here, st_app, h71, go_sem, ↓reduceIte, Nat.reduceLT, Nat.reduceEqDiff, Nat.reduceAdd, Nat.reduceMul, Nat.reduceSub, Int.reduceAdd, Int.reduceSub, Nat.reduceLeDiff, Int.reduceLT, Int.reduceLE, Int.reduceEq, Int.reduceNeg, Int.reduceToNat]
  repeat' ((first | refine guardB_dec (fun hy => ?_) (fun hy => ?_) | refine guardB_bool (fun hy => ?_) (fun hy => ?_) | refine guardQ_ite (fun hy => ?_) (fun hy => ?_) | refine brQ_dec (fun hy => ?_) (fun hy => ?_) | refine brQ_bool (fun hy => ?_) (fun hy => ?_)) <;> (try simp only [Bool.not_eq_true', Bool.not_eq_false', Bool.and_eq_true, Bool.or_eq_false_iff, decide_eq_true_eq, decide_eq_false_iff_not] at hy) <;> simp (disch := first | rfl | omega | exact lt_new _ | assumption | decide | (simp [tk_here, tk_app, tk_0, tk_S, gr_here, gr_app, gr_0, gr_S] <;> omega) | fail) only [r127_0, r127_1, c127, rs127, gc127, loadV_ptr, storeV_ptr, List.append_assoc, List.length_append, List.length_cons, List.length_nil, List.set_cons_zero, List.set_cons_succ, tk_here, tk_app, gr_here, gr_app, st_here, st_app, h71, go_sem, ↓reduceIte, Nat.reduceLT, Nat.reduceEqDiff, Nat.reduceAdd, Nat.reduceMul, Nat.reduceSub, Int.reduceAdd, Int.reduceSub, Nat.reduceLeDiff, Int.reduceLT, Int.reduceLE, Int.reduceEq, Int.reduceNeg, Int.reduceToNat, hy])
  all_goals (try ((first | refine finQ_same ?_ | refine finQ_app ?_ | (rw [List.append_assoc]; refine finQ_app ?_)) <;> simp (disch := first | rfl | omega | exact lt_new _ | assumption | decide | (simp [tk_here, tk_app, tk_0, tk_S, gr_here, gr_app, gr_0, gr_S] <;> omega) | fail) only [go_sem, ↓reduceIte, Nat.reduceLT, Nat.reduceEqDiff, Nat.reduceAdd, Nat.reduceMul, Nat.reduceSub, Int.reduceAdd, Int.reduceSub, Nat.reduceLeDiff, Int.reduceLT, Int.reduceLE, Int.reduceEq, Int.reduceNeg, Int.reduceToNat, List.append_assoc, List.cons_append, List.nil_append, *]))
  all_goals (try first | rfl | (simp [*]; done) | grind)
theorem fcS_eq {l m : List Fc} : sameL fcS l m = decide (l = m) := sameL_eq
theorem fn81 (c d : Cp) (hc : CpOk c) (H : Hp) : callL Try.prog pr 81 [.agg (cpE.f c), .agg (cpE.f d)] H = some (.bool (sameB c d), H) := by
  obtain ⟨f1, f2, f3, f4⟩ := hc.fits
  obtain ⟨o0, o1, o1l, o2, o2l, o3, o3l, o4, o4l⟩ := hc
  have h122 := fun H => fn122 (b := c.namesN) (b' := d.namesN) (l := c.names) (l' := d.names) f2 nmS 123 kp123 (fun x hx y _ H => fn123 x y (o2 x hx) H) H
  have h124 := fun H => fn124 (b := c.secretsN) (b' := d.secretsN) (l := c.secrets) (l' := d.secrets) f3 scS 125 kp125 (fun x hx y _ H => fn125 x y (o3 x hx) H) H
  have h126 := fun H => fn126 (b := c.packetsN) (b' := d.packetsN) (l := c.packets) (l' := d.packets) f4 pkS 127 kp127 (fun x hx y _ H => fn127 x y (by have := (o4 x hx).2.2.2.1; omega) H) H
  have h128 := fun H => fn128 (b := c.facesN) (b' := d.facesN) (l := c.faces) (l' := d.faces) f1 H
  have hS : sameB c d = (decide (c.note = d.note) && decide (c.faces = d.faces) && sameL nmS c.names d.names && sameL scS c.secrets d.secrets && sameL pkS c.packets d.packets) := by
    unfold sameB
    rw [fcS_eq]
  rw [hS]
  refine pur_eq rfl rfl (by simp [go_sem]) rfl ?_
  clear H
  intro H
  refine run81 (Nat.le_of_ble_eq_true rfl) ?_
  simp (disch := first | rfl | omega | exact lt_new _ | assumption | decide | (simp [tk_here, tk_app, tk_0, tk_S, gr_here, gr_app, gr_0, gr_S] <;> omega) | fail) only [r81_0, r81_1, r81_2, r81_3, r81_4, c81, rs81, gc81, loadV_ptr, storeV_ptr, List.append_assoc, List.length_append, List.length_cons, List.length_nil, List.set_cons_zero, List.set_cons_succ, tk_here, tk_app, gr_here, gr_app, st_here, st_app, h122, h124, h126, h128, go_sem, ↓reduceIte, Nat.reduceLT, Nat.reduceEqDiff, Nat.reduceAdd, Nat.reduceMul, Nat.reduceSub, Int.reduceAdd, Int.reduceSub, Nat.reduceLeDiff, Int.reduceLT, Int.reduceLE, Int.reduceEq, Int.reduceNeg, Int.reduceToNat]
  repeat' ((first | refine guardB_dec (fun hy => ?_) (fun hy => ?_) | refine guardB_bool (fun hy => ?_) (fun hy => ?_) | refine guardQ_ite (fun hy => ?_) (fun hy => ?_) | refine brQ_dec (fun hy => ?_) (fun hy => ?_) | refine brQ_bool (fun hy => ?_) (fun hy => ?_)) <;> (try simp only [Bool.not_eq_true', Bool.not_eq_false', Bool.and_eq_true, Bool.or_eq_false_iff, decide_eq_true_eq, decide_eq_false_iff_not] at hy) <;> simp (disch := first | rfl | omega | exact lt_new _ | assumption | decide | (simp [tk_here, tk_app, tk_0, tk_S, gr_here, gr_app, gr_0, gr_S] <;> omega) | fail) only [r81_0, r81_1, r81_2, r81_3, r81_4, c81, rs81, gc81, loadV_ptr, storeV_ptr, List.append_assoc, List.length_append, List.length_cons, List.length_nil, List.set_cons_zero, List.set_cons_succ, tk_here, tk_app, gr_here, gr_app, st_here, st_app, h122, h124, h126, h128, go_sem, ↓reduceIte, Nat.reduceLT, Nat.reduceEqDiff, Nat.reduceAdd, Nat.reduceMul, Nat.reduceSub, Int.reduceAdd, Int.reduceSub, Nat.reduceLeDiff, Int.reduceLT, Int.reduceLE, Int.reduceEq, Int.reduceNeg, Int.reduceToNat, hy])
  all_goals (try ((first | refine finQ_same ?_ | refine finQ_app ?_ | (rw [List.append_assoc]; refine finQ_app ?_)) <;> simp (disch := first | rfl | omega | exact lt_new _ | assumption | decide | (simp [tk_here, tk_app, tk_0, tk_S, gr_here, gr_app, gr_0, gr_S] <;> omega) | fail) only [go_sem, ↓reduceIte, Nat.reduceLT, Nat.reduceEqDiff, Nat.reduceAdd, Nat.reduceMul, Nat.reduceSub, Int.reduceAdd, Int.reduceSub, Nat.reduceLeDiff, Int.reduceLT, Int.reduceLE, Int.reduceEq, Int.reduceNeg, Int.reduceToNat, List.append_assoc, List.cons_append, List.nil_append, *]))
  all_goals (try first | rfl | (simp [*]; done) | grind)
end Go.Proofs.Ytejkgnmjdaohdaa
/-
  How much right captures weigh; all captures asked by the reference; walked. No statement of the seat stands here.
-/
namespace Go.Proofs.Ytejkgnmjdaohdaa
open Go Go.An
set_option maxRecDepth 4000
set_option linter.unusedSimpArgs false
set_option linter.unusedVariables false

theorem val_tx {c : Cp} (hv : valE c = 0) : c.note.length ≤ 200 ∧ (∀ x ∈ c.faces, x.name.length ≤ 200) ∧ (∀ x ∈ c.names, x.text.length ≤ 200 ∧ x.addr.length ≤ 16) ∧ (∀ x ∈ c.secrets, x.label.length ≤ 200 ∧ x.key.length ≤ 200) ∧ ∀ x ∈ c.packets, x.note.length ≤ 200 ∧ x.data.length ≤ 400 := by
  have tx : ∀ {s}, txB s = true → s.length ≤ 200 := fun h => by
    unfold txB at h
    simp only [Bool.and_eq_true, decide_eq_true_eq] at h
    exact h.1
  unfold valE at hv
  split at hv
  · cases hv
  · split at hv
    · cases hv
    · rename_i h2
      unfold wrongB at h2
      simp only [Bool.or_eq_true, decide_eq_true_eq, not_or, List.any_eq_true, not_exists, not_and, Bool.not_eq_true', Bool.not_eq_false] at h2
      obtain ⟨⟨⟨⟨⟨_, a0⟩, a1⟩, a2⟩, a3⟩, a4⟩ := h2
      refine ⟨tx a0, fun x hx => ?_, fun x hx => ?_, fun x hx => ?_, fun x hx => ?_⟩
      · have := a1 x hx
        unfold fcB at this
        simp only [Bool.and_eq_true, decide_eq_true_eq] at this
        exact tx this.1.1.1.1
      · have := a2 x hx
        unfold nmB at this
        simp only [Bool.and_eq_true, decide_eq_true_eq] at this
        exact ⟨tx this.1.1, by omega⟩
      · have := a3 x hx
        unfold scB at this
        simp only [Bool.and_eq_true, decide_eq_true_eq] at this
        exact ⟨tx this.1.1.1, by omega⟩
      · have := a4 x hx
        unfold pfB pkB at this
        simp only [Bool.and_eq_true, decide_eq_true_eq] at this
        exact ⟨tx this.2.1.1.1.2, by omega⟩
/-- What a right capture weighs. -/
theorem fn21v (c : Cp) (hc : CpOk c) (hv : valE c = 0) (H : Hp) : ∃ n, callL Try.prog pr 21 [.agg (cpE.f c)] H = some (.int .i64 n, H) ∧ 0 ≤ n ∧ n ≤ 1000000 := by
  suffices h : ∃ r, callL Try.prog pr 21 [.agg (cpE.f c)] H = some r ∧ ∃ n, r = (.int .i64 n, H) ∧ 0 ≤ n ∧ n ≤ 1000000 by
    obtain ⟨r, h1, n, rfl, h2⟩ := h; exact ⟨n, h1, h2⟩
  obtain ⟨w0, w1, w2, w3, w4⟩ := val_tx hv
  obtain ⟨_, ⟨l4, l3, l2, l1⟩, _⟩ := val_pk hv
  obtain ⟨o0, o1, o1l, o2, o2l, o3, o3l, o4, o4l⟩ := hc
  refine ex21 (Nat.le_of_ble_eq_true rfl) ?_
  simp (disch := first | rfl | omega | exact lt_new _ | assumption | decide | (simp [tk_here, tk_app, tk_0, tk_S, gr_here, gr_app, gr_0, gr_S] <;> omega) | fail) only [r21_0, r21_1, r21_2, c21, loadV_ptr, storeV_ptr, List.append_assoc, List.length_append, List.length_cons, List.length_nil, List.set_cons_zero, List.set_cons_succ, tk_here, tk_app, gr_here, gr_app, st_here, st_app, go_sem, ↓reduceIte, Nat.reduceLT, Nat.reduceEqDiff, Nat.reduceAdd, Nat.reduceMul, Nat.reduceSub, Int.reduceAdd, Int.reduceSub, Nat.reduceLeDiff, Int.reduceLT, Int.reduceLE, Int.reduceEq, Int.reduceNeg, Int.reduceToNat]
  refine Wp_loop (fun m T D H' => ∃ i n, m = c.faces.length - i ∧ i ≤ c.faces.length ∧ D = [] ∧ H' = H ++ [.row 0 (cpE.f c) true] ∧ get T 1 = .ptr H.length 0 0 ∧ get T 4 = .int .i64 i ∧ get T 3 = .int .i64 n ∧ 0 ≤ n ∧ n ≤ 3000 + i * 200) ?_ c.faces.length _ _ _ ?_
  case refine_2 => exact ⟨0, _, by simp (disch := first | rfl | omega | exact lt_new _ | assumption | decide | (simp [tk_here, tk_app, tk_0, tk_S, gr_here, gr_app, gr_0, gr_S] <;> omega) | fail) only [go_sem, ↓reduceIte, Nat.reduceLT, Nat.reduceEqDiff, Nat.reduceAdd, Nat.reduceMul, Nat.reduceSub, Int.reduceAdd, Int.reduceSub, Nat.reduceLeDiff, Int.reduceLT, Int.reduceLE, Int.reduceEq, Int.reduceNeg, Int.reduceToNat]; simp; exact ⟨rfl, by omega, by omega⟩⟩
  rintro m T D H' ⟨i, n, rfl, hi, rfl, rfl, t1, ti, t3, n0, n1⟩
  by_cases hlt : i < c.faces.length
  · have hlt' : (i : Int) < c.faces.length := by omega
    have qw := w1 _ (fcE.at_mem hlt)
    have q1 := (o1 _ (fcE.at_mem hlt)).1
    simp (disch := first | rfl | omega | exact lt_new _ | assumption | decide | (simp [tk_here, tk_app, tk_0, tk_S, gr_here, gr_app, gr_0, gr_S] <;> omega) | fail) only [l21_6, r21_3, r21_4, r21_5, loadV_ptr, storeV_ptr, List.append_assoc, List.length_append, List.length_cons, List.length_nil, List.set_cons_zero, List.set_cons_succ, tk_here, tk_app, gr_here, gr_app, st_here, st_app, t1, ti, t3, hlt', go_sem, ↓reduceIte, Nat.reduceLT, Nat.reduceEqDiff, Nat.reduceAdd, Nat.reduceMul, Nat.reduceSub, Int.reduceAdd, Int.reduceSub, Nat.reduceLeDiff, Int.reduceLT, Int.reduceLE, Int.reduceEq, Int.reduceNeg, Int.reduceToNat]
    exact ⟨_, by omega, i + 1, _, rfl, hlt, rfl, rfl, by omega, by omega⟩
  · obtain rfl : i = c.faces.length := by omega
    simp (disch := first | rfl | omega | exact lt_new _ | assumption | decide | (simp [tk_here, tk_app, tk_0, tk_S, gr_here, gr_app, gr_0, gr_S] <;> omega) | fail) only [l21_6, r21_3, r21_7, loadV_ptr, storeV_ptr, List.append_assoc, List.length_append, List.length_cons, List.length_nil, List.set_cons_zero, List.set_cons_succ, tk_here, tk_app, gr_here, gr_app, st_here, st_app, t1, ti, t3, Int.lt_irrefl, go_sem, ↓reduceIte, Nat.reduceLT, Nat.reduceEqDiff, Nat.reduceAdd, Nat.reduceMul, Nat.reduceSub, Int.reduceAdd, Int.reduceSub, Nat.reduceLeDiff, Int.reduceLT, Int.reduceLE, Int.reduceEq, Int.reduceNeg, Int.reduceToNat]
    refine Wp_loop (fun m T D H' => ∃ i n, m = c.names.length - i ∧ i ≤ c.names.length ∧ D = [] ∧ H' = H ++ [.row 0 (cpE.f c) true] ∧ get T 1 = .ptr H.length 0 0 ∧ get T 5 = .int .i64 i ∧ get T 3 = .int .i64 n ∧ 0 ≤ n ∧ n ≤ 4000 + i * 300) ?_ c.names.length _ _ _ ?_
    case refine_2 => exact ⟨0, _, by simp (disch := first | rfl | omega | exact lt_new _ | assumption | decide | (simp [tk_here, tk_app, tk_0, tk_S, gr_here, gr_app, gr_0, gr_S] <;> omega) | fail) only [go_sem, ↓reduceIte, Nat.reduceLT, Nat.reduceEqDiff, Nat.reduceAdd, Nat.reduceMul, Nat.reduceSub, Int.reduceAdd, Int.reduceSub, Nat.reduceLeDiff, Int.reduceLT, Int.reduceLE, Int.reduceEq, Int.reduceNeg, Int.reduceToNat, t1, t3]; simp; exact ⟨rfl, by omega, by omega⟩⟩
    clear t1 t3 ti
    rintro m T D H' ⟨i, n, rfl, hi, rfl, rfl, t1, ti, t3, n0, n1⟩
    by_cases hlt : i < c.names.length
    · have hlt' : (i : Int) < c.names.length := by omega
      have qw := w2 _ (nmE.at_mem hlt)
      have q1 := o2 _ (nmE.at_mem hlt)
      have q2 := q1.2
      simp (disch := first | rfl | omega | exact lt_new _ | assumption | decide | (simp [tk_here, tk_app, tk_0, tk_S, gr_here, gr_app, gr_0, gr_S] <;> omega) | fail) only [l21_11, r21_8, r21_9, r21_10, loadV_ptr, storeV_ptr, List.append_assoc, List.length_append, List.length_cons, List.length_nil, List.set_cons_zero, List.set_cons_succ, tk_here, tk_app, gr_here, gr_app, st_here, st_app, t1, ti, t3, hlt', go_sem, ↓reduceIte, Nat.reduceLT, Nat.reduceEqDiff, Nat.reduceAdd, Nat.reduceMul, Nat.reduceSub, Int.reduceAdd, Int.reduceSub, Nat.reduceLeDiff, Int.reduceLT, Int.reduceLE, Int.reduceEq, Int.reduceNeg, Int.reduceToNat]
      exact ⟨_, by omega, i + 1, _, rfl, hlt, rfl, rfl, by omega, by omega⟩
    · obtain rfl : i = c.names.length := by omega
      simp (disch := first | rfl | omega | exact lt_new _ | assumption | decide | (simp [tk_here, tk_app, tk_0, tk_S, gr_here, gr_app, gr_0, gr_S] <;> omega) | fail) only [l21_11, r21_8, r21_12, loadV_ptr, storeV_ptr, List.append_assoc, List.length_append, List.length_cons, List.length_nil, List.set_cons_zero, List.set_cons_succ, tk_here, tk_app, gr_here, gr_app, st_here, st_app, t1, ti, t3, Int.lt_irrefl, go_sem, ↓reduceIte, Nat.reduceLT, Nat.reduceEqDiff, Nat.reduceAdd, Nat.reduceMul, Nat.reduceSub, Int.reduceAdd, Int.reduceSub, Nat.reduceLeDiff, Int.reduceLT, Int.reduceLE, Int.reduceEq, Int.reduceNeg, Int.reduceToNat]
      refine Wp_loop (fun m T D H' => ∃ i n, m = c.secrets.length - i ∧ i ≤ c.secrets.length ∧ D = [] ∧ H' = H ++ [.row 0 (cpE.f c) true] ∧ get T 1 = .ptr H.length 0 0 ∧ get T 6 = .int .i64 i ∧ get T 3 = .int .i64 n ∧ 0 ≤ n ∧ n ≤ 30000 + i * 500) ?_ c.secrets.length _ _ _ ?_
      case refine_2 => exact ⟨0, _, by simp (disch := first | rfl | omega | exact lt_new _ | assumption | decide | (simp [tk_here, tk_app, tk_0, tk_S, gr_here, gr_app, gr_0, gr_S] <;> omega) | fail) only [go_sem, ↓reduceIte, Nat.reduceLT, Nat.reduceEqDiff, Nat.reduceAdd, Nat.reduceMul, Nat.reduceSub, Int.reduceAdd, Int.reduceSub, Nat.reduceLeDiff, Int.reduceLT, Int.reduceLE, Int.reduceEq, Int.reduceNeg, Int.reduceToNat, t1, t3]; simp; exact ⟨rfl, by omega, by omega⟩⟩
      clear t1 t3 ti
      rintro m T D H' ⟨i, n, rfl, hi, rfl, rfl, t1, ti, t3, n0, n1⟩
      by_cases hlt : i < c.secrets.length
      · have hlt' : (i : Int) < c.secrets.length := by omega
        have qw := w3 _ (scE.at_mem hlt)
        have q1 := (o3 _ (scE.at_mem hlt)).1
        simp (disch := first | rfl | omega | exact lt_new _ | assumption | decide | (simp [tk_here, tk_app, tk_0, tk_S, gr_here, gr_app, gr_0, gr_S] <;> omega) | fail) only [l21_16, r21_13, r21_14, r21_15, loadV_ptr, storeV_ptr, List.append_assoc, List.length_append, List.length_cons, List.length_nil, List.set_cons_zero, List.set_cons_succ, tk_here, tk_app, gr_here, gr_app, st_here, st_app, t1, ti, t3, hlt', go_sem, ↓reduceIte, Nat.reduceLT, Nat.reduceEqDiff, Nat.reduceAdd, Nat.reduceMul, Nat.reduceSub, Int.reduceAdd, Int.reduceSub, Nat.reduceLeDiff, Int.reduceLT, Int.reduceLE, Int.reduceEq, Int.reduceNeg, Int.reduceToNat]
        exact ⟨_, by omega, i + 1, _, rfl, hlt, rfl, rfl, by omega, by omega⟩
      · obtain rfl : i = c.secrets.length := by omega
        simp (disch := first | rfl | omega | exact lt_new _ | assumption | decide | (simp [tk_here, tk_app, tk_0, tk_S, gr_here, gr_app, gr_0, gr_S] <;> omega) | fail) only [l21_16, r21_13, r21_17, loadV_ptr, storeV_ptr, List.append_assoc, List.length_append, List.length_cons, List.length_nil, List.set_cons_zero, List.set_cons_succ, tk_here, tk_app, gr_here, gr_app, st_here, st_app, t1, ti, t3, Int.lt_irrefl, go_sem, ↓reduceIte, Nat.reduceLT, Nat.reduceEqDiff, Nat.reduceAdd, Nat.reduceMul, Nat.reduceSub, Int.reduceAdd, Int.reduceSub, Nat.reduceLeDiff, Int.reduceLT, Int.reduceLE, Int.reduceEq, Int.reduceNeg, Int.reduceToNat]
        refine Wp_loop (fun m T D H' => ∃ i n, m = c.packets.length - i ∧ i ≤ c.packets.length ∧ D = [] ∧ H' = H ++ [.row 0 (cpE.f c) true] ∧ get T 1 = .ptr H.length 0 0 ∧ get T 7 = .int .i64 i ∧ get T 3 = .int .i64 n ∧ 0 ≤ n ∧ n ≤ 70000 + i * 700) ?_ c.packets.length _ _ _ ?_
        case refine_2 => exact ⟨0, _, by simp (disch := first | rfl | omega | exact lt_new _ | assumption | decide | (simp [tk_here, tk_app, tk_0, tk_S, gr_here, gr_app, gr_0, gr_S] <;> omega) | fail) only [go_sem, ↓reduceIte, Nat.reduceLT, Nat.reduceEqDiff, Nat.reduceAdd, Nat.reduceMul, Nat.reduceSub, Int.reduceAdd, Int.reduceSub, Nat.reduceLeDiff, Int.reduceLT, Int.reduceLE, Int.reduceEq, Int.reduceNeg, Int.reduceToNat, t1, t3]; simp; exact ⟨rfl, by omega, by omega⟩⟩
        clear t1 t3 ti
        rintro m T D H' ⟨i, n, rfl, hi, rfl, rfl, t1, ti, t3, n0, n1⟩
        by_cases hlt : i < c.packets.length
        · have hlt' : (i : Int) < c.packets.length := by omega
          have qw := w4 _ (pkE.at_mem hlt)
          have q1 := (o4 _ (pkE.at_mem hlt)).2.2.2.2
          simp (disch := first | rfl | omega | exact lt_new _ | assumption | decide | (simp [tk_here, tk_app, tk_0, tk_S, gr_here, gr_app, gr_0, gr_S] <;> omega) | fail) only [l21_21, r21_18, r21_19, r21_20, loadV_ptr, storeV_ptr, List.append_assoc, List.length_append, List.length_cons, List.length_nil, List.set_cons_zero, List.set_cons_succ, tk_here, tk_app, gr_here, gr_app, st_here, st_app, t1, ti, t3, hlt', go_sem, ↓reduceIte, Nat.reduceLT, Nat.reduceEqDiff, Nat.reduceAdd, Nat.reduceMul, Nat.reduceSub, Int.reduceAdd, Int.reduceSub, Nat.reduceLeDiff, Int.reduceLT, Int.reduceLE, Int.reduceEq, Int.reduceNeg, Int.reduceToNat]
          exact ⟨_, by omega, i + 1, _, rfl, hlt, rfl, rfl, by omega, by omega⟩
        · obtain rfl : i = c.packets.length := by omega
          simp (disch := first | rfl | omega | exact lt_new _ | assumption | decide | (simp [tk_here, tk_app, tk_0, tk_S, gr_here, gr_app, gr_0, gr_S] <;> omega) | fail) only [l21_21, r21_18, r21_22, rs21, gc21, loadV_ptr, storeV_ptr, List.append_assoc, List.length_append, List.length_cons, List.length_nil, List.set_cons_zero, List.set_cons_succ, tk_here, tk_app, gr_here, gr_app, st_here, st_app, t1, ti, t3, Int.lt_irrefl, go_sem, ↓reduceIte, Nat.reduceLT, Nat.reduceEqDiff, Nat.reduceAdd, Nat.reduceMul, Nat.reduceSub, Int.reduceAdd, Int.reduceSub, Nat.reduceLeDiff, Int.reduceLT, Int.reduceLE, Int.reduceEq, Int.reduceNeg, Int.reduceToNat]
          exact ⟨n, finQ_app (by simp (disch := first | rfl | omega | exact lt_new _ | assumption | decide | (simp [tk_here, tk_app, tk_0, tk_S, gr_here, gr_app, gr_0, gr_S] <;> omega) | fail) only [go_sem, ↓reduceIte, Nat.reduceLT, Nat.reduceEqDiff, Nat.reduceAdd, Nat.reduceMul, Nat.reduceSub, Int.reduceAdd, Int.reduceSub, Nat.reduceLeDiff, Int.reduceLT, Int.reduceLE, Int.reduceEq, Int.reduceNeg, Int.reduceToNat]), by omega, by omega⟩

theorem fn58 {b : Bool} {l : List Cp} (hok : ∀ c ∈ l, CpOk c) (hl : l.length ≤ 2 ^ 62) (H : Hp) : callL Try.prog pr 58 [slV b cpE l] H = some (.int .i64 (askE l), H) := by
  refine run58 (Nat.le_of_ble_eq_true rfl) ?_
  simp (disch := first | rfl | omega | exact lt_new _ | assumption | decide | (simp [tk_here, tk_app, tk_0, tk_S, gr_here, gr_app, gr_0, gr_S] <;> omega) | fail) only [r58_0, r58_1, r58_2, r58_3, r58_4, r58_5, r58_6, r58_8, c58, rs58, gc58, go_sem, ↓reduceIte, Nat.reduceLT, Nat.reduceEqDiff, Nat.reduceAdd, Nat.reduceMul, Nat.reduceSub, Int.reduceAdd, Int.reduceSub, Nat.reduceLeDiff, Int.reduceLT, Int.reduceLE, Int.reduceEq, Int.reduceNeg, Int.reduceToNat]
  refine Wp_loop (fun m T D H' => ∃ i G, m = l.length - i ∧ i ≤ l.length ∧ D = [] ∧ H' = H ++ G ∧ get T 0 = slV b cpE l ∧ get T 3 = .int .i64 i ∧ askE l = askE (l.drop i)) ?_ l.length _ _ _ ?_
  case refine_2 => exact ⟨0, [], by simp [go_sem]⟩
  rintro m T D H' ⟨i, G, rfl, hi, rfl, rfl, t0, t3, hs⟩
  by_cases hlt : i < l.length
  · have hlt' : (i : Int) < l.length := by omega
    have h63 := fn63 (cpE.at l i) (hok _ (cpE.at_mem hlt))
    rw [askE_drop hlt] at hs
    by_cases hq : valE (cpE.at l i) = 0
    · rw [if_pos hq] at hs
      simp (disch := first | rfl | omega | exact lt_new _ | assumption | decide | (simp [tk_here, tk_app, tk_0, tk_S, gr_here, gr_app, gr_0, gr_S] <;> omega) | fail) only [r58_0, r58_1, r58_2, r58_3, r58_4, r58_5, r58_6, l58_7, r58_8, c58, rs58, gc58, loadV_ptr, storeV_ptr, List.append_assoc, List.length_append, List.length_cons, List.length_nil, List.set_cons_zero, List.set_cons_succ, tk_here, tk_app, gr_here, gr_app, st_here, st_app, t0, t3, hlt', h63, hq, go_sem, ↓reduceIte, Nat.reduceLT, Nat.reduceEqDiff, Nat.reduceAdd, Nat.reduceMul, Nat.reduceSub, Int.reduceAdd, Int.reduceSub, Nat.reduceLeDiff, Int.reduceLT, Int.reduceLE, Int.reduceEq, Int.reduceNeg, Int.reduceToNat]
      exact ⟨_, by omega, i + 1, _, rfl, hlt, rfl, rfl, hs⟩
    · rw [if_neg hq] at hs
      simp (disch := first | rfl | omega | exact lt_new _ | assumption | decide | (simp [tk_here, tk_app, tk_0, tk_S, gr_here, gr_app, gr_0, gr_S] <;> omega) | fail) only [r58_0, r58_1, r58_2, r58_3, r58_4, r58_5, r58_6, l58_7, r58_8, c58, rs58, gc58, loadV_ptr, storeV_ptr, List.append_assoc, List.length_append, List.length_cons, List.length_nil, List.set_cons_zero, List.set_cons_succ, tk_here, tk_app, gr_here, gr_app, st_here, st_app, t0, t3, hlt', h63, hq, go_sem, ↓reduceIte, Nat.reduceLT, Nat.reduceEqDiff, Nat.reduceAdd, Nat.reduceMul, Nat.reduceSub, Int.reduceAdd, Int.reduceSub, Nat.reduceLeDiff, Int.reduceLT, Int.reduceLE, Int.reduceEq, Int.reduceNeg, Int.reduceToNat]
      exact finQ_app (by simp (disch := first | rfl | omega | exact lt_new _ | assumption | decide | (simp [tk_here, tk_app, tk_0, tk_S, gr_here, gr_app, gr_0, gr_S] <;> omega) | fail) only [go_sem, ↓reduceIte, Nat.reduceLT, Nat.reduceEqDiff, Nat.reduceAdd, Nat.reduceMul, Nat.reduceSub, Int.reduceAdd, Int.reduceSub, Nat.reduceLeDiff, Int.reduceLT, Int.reduceLE, Int.reduceEq, Int.reduceNeg, Int.reduceToNat, hs])
  · obtain rfl : i = l.length := by omega
    rw [List.drop_length] at hs
    simp (disch := first | rfl | omega | exact lt_new _ | assumption | decide | (simp [tk_here, tk_app, tk_0, tk_S, gr_here, gr_app, gr_0, gr_S] <;> omega) | fail) only [r58_0, r58_1, r58_2, r58_3, r58_4, r58_5, r58_6, l58_7, r58_8, c58, rs58, gc58, t0, t3, Int.lt_irrefl, go_sem, ↓reduceIte, Nat.reduceLT, Nat.reduceEqDiff, Nat.reduceAdd, Nat.reduceMul, Nat.reduceSub, Int.reduceAdd, Int.reduceSub, Nat.reduceLeDiff, Int.reduceLT, Int.reduceLE, Int.reduceEq, Int.reduceNeg, Int.reduceToNat]
    exact finQ_app (by simp (disch := first | rfl | omega | exact lt_new _ | assumption | decide | (simp [tk_here, tk_app, tk_0, tk_S, gr_here, gr_app, gr_0, gr_S] <;> omega) | fail) only [go_sem, ↓reduceIte, Nat.reduceLT, Nat.reduceEqDiff, Nat.reduceAdd, Nat.reduceMul, Nat.reduceSub, Int.reduceAdd, Int.reduceSub, Nat.reduceLeDiff, Int.reduceLT, Int.reduceLE, Int.reduceEq, Int.reduceNeg, Int.reduceToNat, hs, askE])
end Go.Proofs.Ytejkgnmjdaohdaa
/-
  Captures weighed together; rows laid one behind the other. No statement of the seat stands here.
-/
namespace Go.Proofs.Ytejkgnmjdaohdaa
open Go Go.An
set_option maxRecDepth 4000
set_option linter.unusedSimpArgs false
set_option linter.unusedVariables false

theorem askE_all : ∀ {l : List Cp}, askE l = 0 → ∀ c ∈ l, valE c = 0
  | [], _, c, h => by cases h
  | x :: l, h, c, hc => by
    rw [askE] at h
    by_cases hx : valE x = 0
    · rw [if_pos hx] at h
      rcases List.mem_cons.1 hc with rfl | hc
      · exact hx
      · exact askE_all h c hc
    · rw [if_neg hx] at h
      exact absurd h hx
theorem fn14 {b : Bool} {l : List Cp} (hok : ∀ c ∈ l, CpOk c) (hl : l.length ≤ 2 ^ 41) (H : Hp) : ∃ n, callL Try.prog pr 14 [slV b cpE l] H = some (.int .i64 n, H) ∧ (askE l = 0 → (l.length : Int) ≤ n) := by
  suffices h : ∃ r, callL Try.prog pr 14 [slV b cpE l] H = some r ∧ ∃ n, r = (.int .i64 n, H) ∧ (askE l = 0 → (l.length : Int) ≤ n) by
    obtain ⟨_, h1, n, rfl, h2⟩ := h; exact ⟨n, h1, h2⟩
  refine ex14 (Nat.le_of_ble_eq_true rfl) ?_
  simp (disch := first | rfl | omega | exact lt_new _ | assumption | decide | (simp [tk_here, tk_app, tk_0, tk_S, gr_here, gr_app, gr_0, gr_S] <;> omega) | fail) only [r14_0, r14_1, r14_2, r14_3, r14_4, r14_5, r14_7, c14, rs14, gc14, go_sem, ↓reduceIte, Nat.reduceLT, Nat.reduceEqDiff, Nat.reduceAdd, Nat.reduceMul, Nat.reduceSub, Int.reduceAdd, Int.reduceSub, Nat.reduceLeDiff, Int.reduceLT, Int.reduceLE, Int.reduceEq, Int.reduceNeg, Int.reduceToNat]
  refine Wp_loop (fun m T D H' => ∃ i n, m = l.length - i ∧ i ≤ l.length ∧ D = [] ∧ H' = H ∧ get T 0 = slV b cpE l ∧ get T 4 = .int .i64 i ∧ get T 3 = .int .i64 n ∧ (askE l = 0 → (i : Int) ≤ n ∧ n ≤ i * 1000001)) ?_ l.length _ _ _ ?_
  case refine_2 => exact ⟨0, 0, by simp [go_sem]⟩
  rintro m T D H' ⟨i, n, rfl, hi, rfl, rfl, t0, t4, t3, hs⟩
  by_cases hlt : i < l.length
  · have hlt' : (i : Int) < l.length := by omega
    have hci := hok _ (cpE.at_mem hlt)
    by_cases ha : askE l = 0
    · obtain ⟨n1, n2⟩ := hs ha
      obtain ⟨w, h21, w1, w2⟩ := fn21v _ hci (askE_all ha _ (cpE.at_mem hlt)) H'
      simp (disch := first | rfl | omega | exact lt_new _ | assumption | decide | (simp [tk_here, tk_app, tk_0, tk_S, gr_here, gr_app, gr_0, gr_S] <;> omega) | fail) only [r14_0, r14_1, r14_2, r14_3, r14_4, r14_5, l14_6, r14_7, c14, rs14, gc14, t0, t3, t4, hlt', h21, go_sem, ↓reduceIte, Nat.reduceLT, Nat.reduceEqDiff, Nat.reduceAdd, Nat.reduceMul, Nat.reduceSub, Int.reduceAdd, Int.reduceSub, Nat.reduceLeDiff, Int.reduceLT, Int.reduceLE, Int.reduceEq, Int.reduceNeg, Int.reduceToNat]
      exact ⟨_, by omega, i + 1, _, rfl, hlt, rfl, rfl, fun _ => by omega⟩
    · obtain ⟨w, h21⟩ := fn21 _ hci H'
      simp (disch := first | rfl | omega | exact lt_new _ | assumption | decide | (simp [tk_here, tk_app, tk_0, tk_S, gr_here, gr_app, gr_0, gr_S] <;> omega) | fail) only [r14_0, r14_1, r14_2, r14_3, r14_4, r14_5, l14_6, r14_7, c14, rs14, gc14, t0, t3, t4, hlt', h21, go_sem, ↓reduceIte, Nat.reduceLT, Nat.reduceEqDiff, Nat.reduceAdd, Nat.reduceMul, Nat.reduceSub, Int.reduceAdd, Int.reduceSub, Nat.reduceLeDiff, Int.reduceLT, Int.reduceLE, Int.reduceEq, Int.reduceNeg, Int.reduceToNat]
      exact ⟨_, by omega, i + 1, _, rfl, hlt, rfl, rfl, fun h => absurd h ha⟩
  · obtain rfl : i = l.length := by omega
    simp (disch := first | rfl | omega | exact lt_new _ | assumption | decide | (simp [tk_here, tk_app, tk_0, tk_S, gr_here, gr_app, gr_0, gr_S] <;> omega) | fail) only [r14_0, r14_1, r14_2, r14_3, r14_4, r14_5, l14_6, r14_7, c14, rs14, gc14, t0, t3, t4, Int.lt_irrefl, go_sem, ↓reduceIte, Nat.reduceLT, Nat.reduceEqDiff, Nat.reduceAdd, Nat.reduceMul, Nat.reduceSub, Int.reduceAdd, Int.reduceSub, Nat.reduceLeDiff, Int.reduceLT, Int.reduceLE, Int.reduceEq, Int.reduceNeg, Int.reduceToNat]
    exact ⟨n, finQ_same (by simp (disch := first | rfl | omega | exact lt_new _ | assumption | decide | (simp [tk_here, tk_app, tk_0, tk_S, gr_here, gr_app, gr_0, gr_S] <;> omega) | fail) only [go_sem, ↓reduceIte, Nat.reduceLT, Nat.reduceEqDiff, Nat.reduceAdd, Nat.reduceMul, Nat.reduceSub, Int.reduceAdd, Int.reduceSub, Nat.reduceLeDiff, Int.reduceLT, Int.reduceLE, Int.reduceEq, Int.reduceNeg, Int.reduceToNat]), fun ha => (hs ha).1⟩
theorem pk_ne {l : List Pk} {s : List UInt8} {cs : List V} : flatE pkE l ≠ .str s :: cs := by
  cases l with
  | nil => intro h; cases h
  | cons p l =>
    intro h
    rw [flatE_cons, pkE_f] at h
    injection h with h _
    cases h
theorem RowM.setO {n i : Nat} {K : Hp} {w : V} {l : List Pk} {s : List UInt8} {cs : List V} {o : Bool} {g0 : Nat} (h : RowM pkE n K w l) (hi : K[i]? = some (.row g0 (.str s :: cs) o)) (b : AB) : RowM pkE n (K.set i b) w l := by
  rcases h with h | ⟨j, g, e, hj, hr⟩
  · exact Or.inl h
  · refine Or.inr ⟨j, g, e, by simpa using hj, ?_⟩
    have hne : i ≠ j := by
      rintro rfl
      unfold getRow at hr
      rw [hi] at hr
      simp only at hr
      split at hr
      · injection hr with hr
        injection hr with hr _
        exact pk_ne hr.symm
      · cases hr
    unfold getRow at hr ⊢
    rwa [List.getElem?_set_ne hne]
/-- A row laid behind another one. -/
theorem app_rows {n : Nat} {A K : Hp} {w u : V} {acc ps : List Pk} (hn : n = A.length) (hw : RowM pkE n K w acc) (hu : RowM pkE n K u ps) (hb : acc.length + ps.length ≤ 2 ^ 30) :
    ∃ w' K', appOf 5 64 (A ++ K) w u = some (w', A ++ K') ∧ RowM pkE n K' w' (acc ++ ps) ∧ (∀ (i g0 : Nat) (s : List UInt8) (cs : List V) (o : Bool), K[i]? = some (AB.row g0 (V.str s :: cs) o) → K'[i]? = K[i]?) ∧ K.length ≤ K'.length := by
  have hsrc : ∃ k, k = ps.length ∧ srcCells (A ++ K) u = some (flatE pkE ps, k) := by
    rcases hu with ⟨rfl, rfl⟩ | ⟨j, g, rfl, hj, hr⟩
    · exact ⟨0, rfl, rfl⟩
    · refine ⟨_, rfl, ?_⟩
      have hg : getRow (A ++ K) (n + j) g = some (flatE pkE ps, true) := by
        subst hn
        unfold getRow at hr ⊢
        rwa [List.getElem?_append_right (by omega), show A.length + j - A.length = j by omega]
      rw [src_sl hg (by rw [flatE_len]; omega), List.drop_zero, List.take_of_length_le (by rw [flatE_len]; exact Nat.le_refl _)]
  obtain ⟨k, rfl, hsrc⟩ := hsrc
  have hfl : (flatE pkE ps).length = ps.length * 5 := flatE_len
  have hfa : (flatE pkE acc).length = acc.length * 5 := flatE_len
  have hfc := flatE_cells pkE ps
  rcases hw with ⟨rfl, rfl⟩ | ⟨j, g, rfl, hj, hr⟩
  · by_cases hz : ps.length = 0
    · obtain rfl : ps = [] := List.eq_nil_of_length_eq_zero hz
      refine ⟨.nilslice, K, ?_, Or.inl ⟨rfl, rfl⟩, fun _ _ _ _ _ _ => rfl, Nat.le_refl _⟩
      unfold appOf
      rw [hsrc]
      simp [flatE]
    · refine ⟨.slice (A ++ K).length 0 0 ps.length 5 .full, K ++ [.row 0 (flatE pkE ps) true], ?_, Or.inr ⟨K.length, 0, by rw [hn]; simp; rfl, by simp, by simp [getRow]⟩, fun i g0 s cs o h => ?_, by simp⟩
      · unfold appOf
        rw [hsrc]
        simp only [Option.bind_some]
        rw [if_pos ⟨hfl, hfc⟩, if_neg hz, if_pos (by simp at hb; omega)]
        simp
      · rw [List.getElem?_append_left (List.getElem?_eq_some_iff.1 h).1]
  · have hg : getRow (A ++ K) (n + j) g = some (flatE pkE acc, true) := by
      subst hn
      unfold getRow at hr ⊢
      rwa [List.getElem?_append_right (by omega), show A.length + j - A.length = j by omega]
    by_cases hz : ps.length = 0
    · obtain rfl : ps = [] := List.eq_nil_of_length_eq_zero hz
      refine ⟨.slice (n + j) g 0 acc.length 5 .full, K, ?_, Or.inr ⟨j, g, by simp; rfl, hj, by simpa using hr⟩, fun _ _ _ _ _ _ => rfl, Nat.le_refl _⟩
      unfold appOf
      rw [hsrc]
      simp only [Option.bind_some]
      rw [if_pos ⟨hfl, hfc⟩]
      change (getRow (A ++ K) (n + j) g).bind _ = _
      rw [hg]
      simp only [Option.bind_some]
      rw [if_pos ⟨rfl, by omega, by omega, by omega⟩, if_pos (by simp)]
      rfl
    · refine ⟨.slice (n + j) (g + 1) 0 (acc.length + ps.length) 5 .full, K.set j (.row (g + 1) (flatE pkE (acc ++ ps)) true), ?_, Or.inr ⟨j, g + 1, by simp; rfl, by simpa using hj, by simp [getRow, hj]⟩, fun i g0 s cs o h => ?_, by simp⟩
      · unfold appOf
        rw [hsrc]
        simp only [Option.bind_some]
        rw [if_pos ⟨hfl, hfc⟩]
        change (getRow (A ++ K) (n + j) g).bind _ = _
        rw [hg]
        simp only [Option.bind_some]
        rw [if_pos ⟨rfl, by omega, by omega, by omega⟩, if_neg hz]
        change (if _ then _ else _) = _
        rw [if_pos trivial, if_neg (by omega), if_pos (by change 0 + acc.length * 5 = _; omega)]
        subst hn
        rw [List.set_append_right _ _ (by omega), show A.length + j - A.length = j by omega]
        simp [flatE]
      · have hne : j ≠ i := by
          rintro rfl
          unfold getRow at hr
          rw [h] at hr
          simp only at hr
          split at hr
          · injection hr with hr
            injection hr with hr _
            exact pk_ne hr.symm
          · cases hr
        rw [List.getElem?_set_ne hne]
end Go.Proofs.Ytejkgnmjdaohdaa
