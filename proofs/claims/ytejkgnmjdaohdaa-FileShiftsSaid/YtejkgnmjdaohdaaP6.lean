/-
  Texts of this seat, laid together. No statement of the seat stands here.
-/
import Derived.Test.YtejkgnmjdaohdaaP5
/-
  Texts of this seat, laid together. No statement of the seat stands here.
-/
/-
  Validate of the reference, walked. No statement of the seat stands here.
-/
namespace Go.Proofs.Ytejkgnmjdaohdaa
open Go Go.An
set_option maxRecDepth 4000
set_option linter.unusedSimpArgs false
set_option linter.unusedVariables false

theorem ix_str {l : List UInt8} {i : Nat} (h : i < l.length) : indexV Try.prog 9 (.str l) (.int .i64 i) = some (.int .u8 (byE.at l i).toNat) := by
  simp [indexV, u9, byE.at_some h]
theorem fn149 (s : List UInt8) (hs : s.length ≤ 2 ^ 62) (H : Hp) : callL Try.prog pr 149 [.str s] H = some (.bool (txB s), H) := by
  have hl : ∀ H, lenV Try.prog 9 H (.str s) = some (.int .i64 s.length) := fun H => by simp [lenV, u9, hs]
  refine run149 (Nat.le_of_ble_eq_true rfl) ?_
  simp (disch := first | rfl | omega | exact lt_new _ | assumption | decide | (simp [tk_here, tk_app, tk_0, tk_S, gr_here, gr_app, gr_0, gr_S] <;> omega) | fail) only [r149_0, r149_1, r149_2, r149_3, r149_4, r149_5, r149_7, c149, rs149, gc149, go_sem, ↓reduceIte, Nat.reduceLT, Nat.reduceEqDiff, Nat.reduceAdd, Nat.reduceMul, Nat.reduceSub, Int.reduceAdd, Int.reduceSub, Nat.reduceLeDiff, Int.reduceLT, Int.reduceLE, Int.reduceEq, Int.reduceNeg, Int.reduceToNat]
  refine Wp_loop (fun m T D H' => ∃ i, m = s.length - i ∧ i ≤ s.length ∧ D = [] ∧ H' = H ∧ get T 0 = .str s ∧ get T 3 = .int .i64 i ∧ (s.take i).any badC = false) ?_ s.length _ _ _ ?_
  · rintro m T D H' ⟨i, rfl, hi, rfl, rfl, t0, t3, hb⟩
    by_cases hlt : i < s.length
    · have hlt' : (i : Int) < s.length := by omega
      have hx := ix_str hlt
      obtain ⟨c, hc⟩ : ∃ c, byE.at s i = c := ⟨_, rfl⟩
      rw [hc] at hx
      by_cases hq : badC c = true
      · have hF : txB s = false := by unfold txB; rw [any_mem byE hlt (by rw [hc]; exact hq)]; simp
        have hq2 : ¬ (c.toNat : Int) < 32 → (126 : Int) < c.toNat := by
          unfold badC at hq; simp at hq; omega
        simp (disch := first | rfl | omega | exact lt_new _ | assumption | decide | (simp [tk_here, tk_app, tk_0, tk_S, gr_here, gr_app, gr_0, gr_S] <;> omega) | fail) only [r149_0, r149_1, r149_2, r149_3, r149_4, r149_5, l149_6, r149_7, c149, rs149, gc149, t0, t3, hl, hlt', hx, hF, hq2, go_sem, ↓reduceIte, Nat.reduceLT, Nat.reduceEqDiff, Nat.reduceAdd, Nat.reduceMul, Nat.reduceSub, Int.reduceAdd, Int.reduceSub, Nat.reduceLeDiff, Int.reduceLT, Int.reduceLE, Int.reduceEq, Int.reduceNeg, Int.reduceToNat]
        repeat' ((first | refine guardB_dec (fun hy => ?_) (fun hy => ?_) | refine guardB_bool (fun hy => ?_) (fun hy => ?_) | refine guardQ_ite (fun hy => ?_) (fun hy => ?_) | refine brQ_dec (fun hy => ?_) (fun hy => ?_) | refine brQ_bool (fun hy => ?_) (fun hy => ?_)) <;> (try simp only [Bool.not_eq_true', Bool.not_eq_false', Bool.and_eq_true, Bool.or_eq_false_iff, decide_eq_true_eq, decide_eq_false_iff_not] at hy) <;> simp (disch := first | rfl | omega | exact lt_new _ | assumption | decide | (simp [tk_here, tk_app, tk_0, tk_S, gr_here, gr_app, gr_0, gr_S] <;> omega) | fail) only [r149_0, r149_1, r149_2, r149_3, r149_4, r149_5, l149_6, r149_7, c149, rs149, gc149, t0, t3, hl, hlt', hx, hF, hq2, go_sem, ↓reduceIte, Nat.reduceLT, Nat.reduceEqDiff, Nat.reduceAdd, Nat.reduceMul, Nat.reduceSub, Int.reduceAdd, Int.reduceSub, Nat.reduceLeDiff, Int.reduceLT, Int.reduceLE, Int.reduceEq, Int.reduceNeg, Int.reduceToNat, hy])
        all_goals (refine finQ_same ?_; simp (disch := first | rfl | omega | exact lt_new _ | assumption | decide | (simp [tk_here, tk_app, tk_0, tk_S, gr_here, gr_app, gr_0, gr_S] <;> omega) | fail) only [go_sem, ↓reduceIte, Nat.reduceLT, Nat.reduceEqDiff, Nat.reduceAdd, Nat.reduceMul, Nat.reduceSub, Int.reduceAdd, Int.reduceSub, Nat.reduceLeDiff, Int.reduceLT, Int.reduceLE, Int.reduceEq, Int.reduceNeg, Int.reduceToNat])
      · have hn := any_none byE hlt hb (by rw [hc]; simpa using hq)
        have hq1 : ¬ (c.toNat : Int) < 32 := by unfold badC at hq; simp at hq; omega
        have hq2 : ¬ (126 : Int) < c.toNat := by unfold badC at hq; simp at hq; omega
        simp (disch := first | rfl | omega | exact lt_new _ | assumption | decide | (simp [tk_here, tk_app, tk_0, tk_S, gr_here, gr_app, gr_0, gr_S] <;> omega) | fail) only [r149_0, r149_1, r149_2, r149_3, r149_4, r149_5, l149_6, r149_7, c149, rs149, gc149, t0, t3, hl, hlt', hx, hq1, hq2, go_sem, ↓reduceIte, Nat.reduceLT, Nat.reduceEqDiff, Nat.reduceAdd, Nat.reduceMul, Nat.reduceSub, Int.reduceAdd, Int.reduceSub, Nat.reduceLeDiff, Int.reduceLT, Int.reduceLE, Int.reduceEq, Int.reduceNeg, Int.reduceToNat]
        repeat' ((first | refine guardB_dec (fun hy => ?_) (fun hy => ?_) | refine guardB_bool (fun hy => ?_) (fun hy => ?_) | refine guardQ_ite (fun hy => ?_) (fun hy => ?_) | refine brQ_dec (fun hy => ?_) (fun hy => ?_) | refine brQ_bool (fun hy => ?_) (fun hy => ?_)) <;> (try simp only [Bool.not_eq_true', Bool.not_eq_false', Bool.and_eq_true, Bool.or_eq_false_iff, decide_eq_true_eq, decide_eq_false_iff_not] at hy) <;> simp (disch := first | rfl | omega | exact lt_new _ | assumption | decide | (simp [tk_here, tk_app, tk_0, tk_S, gr_here, gr_app, gr_0, gr_S] <;> omega) | fail) only [r149_0, r149_1, r149_2, r149_3, r149_4, r149_5, l149_6, r149_7, c149, rs149, gc149, t0, t3, hl, hlt', hx, hq1, hq2, go_sem, ↓reduceIte, Nat.reduceLT, Nat.reduceEqDiff, Nat.reduceAdd, Nat.reduceMul, Nat.reduceSub, Int.reduceAdd, Int.reduceSub, Nat.reduceLeDiff, Int.reduceLT, Int.reduceLE, Int.reduceEq, Int.reduceNeg, Int.reduceToNat, hy])
        exact ⟨_, by omega, i + 1, rfl, hlt, rfl, hn⟩
    · obtain rfl : i = s.length := by omega
      rw [List.take_length] at hb
      have e1 : ((s.length : Int) ≤ 200) = (s.length ≤ 200) := by simp; omega
      simp (disch := first | rfl | omega | exact lt_new _ | assumption | decide | (simp [tk_here, tk_app, tk_0, tk_S, gr_here, gr_app, gr_0, gr_S] <;> omega) | fail) only [r149_0, r149_1, r149_2, r149_3, r149_4, r149_5, l149_6, r149_7, c149, rs149, gc149, t0, t3, hl, Int.lt_irrefl, go_sem, ↓reduceIte, Nat.reduceLT, Nat.reduceEqDiff, Nat.reduceAdd, Nat.reduceMul, Nat.reduceSub, Int.reduceAdd, Int.reduceSub, Nat.reduceLeDiff, Int.reduceLT, Int.reduceLE, Int.reduceEq, Int.reduceNeg, Int.reduceToNat]
      repeat' ((first | refine guardB_dec (fun hy => ?_) (fun hy => ?_) | refine guardB_bool (fun hy => ?_) (fun hy => ?_) | refine guardQ_ite (fun hy => ?_) (fun hy => ?_) | refine brQ_dec (fun hy => ?_) (fun hy => ?_) | refine brQ_bool (fun hy => ?_) (fun hy => ?_)) <;> (try simp only [Bool.not_eq_true', Bool.not_eq_false', Bool.and_eq_true, Bool.or_eq_false_iff, decide_eq_true_eq, decide_eq_false_iff_not] at hy) <;> simp (disch := first | rfl | omega | exact lt_new _ | assumption | decide | (simp [tk_here, tk_app, tk_0, tk_S, gr_here, gr_app, gr_0, gr_S] <;> omega) | fail) only [r149_0, r149_1, r149_2, r149_3, r149_4, r149_5, l149_6, r149_7, c149, rs149, gc149, t0, t3, hl, Int.lt_irrefl, go_sem, ↓reduceIte, Nat.reduceLT, Nat.reduceEqDiff, Nat.reduceAdd, Nat.reduceMul, Nat.reduceSub, Int.reduceAdd, Int.reduceSub, Nat.reduceLeDiff, Int.reduceLT, Int.reduceLE, Int.reduceEq, Int.reduceNeg, Int.reduceToNat, hy])
      refine finQ_same ?_
      simp (disch := first | rfl | omega | exact lt_new _ | assumption | decide | (simp [tk_here, tk_app, tk_0, tk_S, gr_here, gr_app, gr_0, gr_S] <;> omega) | fail) only [go_sem, ↓reduceIte, Nat.reduceLT, Nat.reduceEqDiff, Nat.reduceAdd, Nat.reduceMul, Nat.reduceSub, Int.reduceAdd, Int.reduceSub, Nat.reduceLeDiff, Int.reduceLT, Int.reduceLE, Int.reduceEq, Int.reduceNeg, Int.reduceToNat, txB, hb, e1]
  · exact ⟨0, by simp [go_sem]⟩
theorem fn150 (p : Pk) (hp : PkOk p) (snap : Int) (H : Hp) : callL Try.prog pr 150 [.agg (pkE.f p), .int .i64 snap] H = some (.bool (pkB p snap), H) := by
  have h149 := fn149 p.note (by have := hp.2.2.2.2; omega)
  have hl := hp.2.2.2.1
  refine run150 (Nat.le_of_ble_eq_true rfl) ?_
  unfold pkB
  simp (disch := first | rfl | omega | exact lt_new _ | assumption | decide | (simp [tk_here, tk_app, tk_0, tk_S, gr_here, gr_app, gr_0, gr_S] <;> omega) | fail) only [r150_0, r150_1, r150_2, r150_3, c150, rs150, gc150, h149, go_sem, ↓reduceIte, Nat.reduceLT, Nat.reduceEqDiff, Nat.reduceAdd, Nat.reduceMul, Nat.reduceSub, Int.reduceAdd, Int.reduceSub, Nat.reduceLeDiff, Int.reduceLT, Int.reduceLE, Int.reduceEq, Int.reduceNeg, Int.reduceToNat]
  repeat' ((first | refine guardB_dec (fun hy => ?_) (fun hy => ?_) | refine guardB_bool (fun hy => ?_) (fun hy => ?_) | refine guardQ_ite (fun hy => ?_) (fun hy => ?_) | refine brQ_dec (fun hy => ?_) (fun hy => ?_) | refine brQ_bool (fun hy => ?_) (fun hy => ?_)) <;> (try simp only [Bool.not_eq_true', Bool.not_eq_false', Bool.and_eq_true, Bool.or_eq_false_iff, decide_eq_true_eq, decide_eq_false_iff_not] at hy) <;> simp (disch := first | rfl | omega | exact lt_new _ | assumption | decide | (simp [tk_here, tk_app, tk_0, tk_S, gr_here, gr_app, gr_0, gr_S] <;> omega) | fail) only [r150_0, r150_1, r150_2, r150_3, c150, rs150, gc150, h149, go_sem, ↓reduceIte, Nat.reduceLT, Nat.reduceEqDiff, Nat.reduceAdd, Nat.reduceMul, Nat.reduceSub, Int.reduceAdd, Int.reduceSub, Nat.reduceLeDiff, Int.reduceLT, Int.reduceLE, Int.reduceEq, Int.reduceNeg, Int.reduceToNat, hy])
  all_goals (try ((first | refine finQ_same ?_ | refine finQ_app ?_ | (rw [List.append_assoc]; refine finQ_app ?_)) <;> simp (disch := first | rfl | omega | exact lt_new _ | assumption | decide | (simp [tk_here, tk_app, tk_0, tk_S, gr_here, gr_app, gr_0, gr_S] <;> omega) | fail) only [go_sem, ↓reduceIte, Nat.reduceLT, Nat.reduceEqDiff, Nat.reduceAdd, Nat.reduceMul, Nat.reduceSub, Int.reduceAdd, Int.reduceSub, Nat.reduceLeDiff, Int.reduceLT, Int.reduceLE, Int.reduceEq, Int.reduceNeg, Int.reduceToNat, List.append_assoc, List.cons_append, List.nil_append, *]))
  all_goals (try first | rfl | (simp [*]; done) | grind)
set_option maxHeartbeats 8000000 in
theorem fn113 (c : Cp) (hc : CpOk c) (H : Hp) : callL Try.prog pr 113 [.agg (cpE.f c)] H = some (.bool (!wrongB c), H) := by
  obtain ⟨o0, o1, o1l, o2, o2l, o3, o3l, o4, o4l⟩ := hc
  have h149 := fn149 c.note (by omega)
  have hwr : ∀ {b : Bool}, wrongB c = b → (!wrongB c) = !b := fun h => by rw [h]
  refine run113 (Nat.le_of_ble_eq_true rfl) ?_
  by_cases h0 : txB c.note = true ∧ ¬ (c.faces.length : Int) < 1
  case neg =>
    have hW : wrongB c = true := by
      unfold wrongB
      by_cases h1 : txB c.note = true
      · have : (c.faces.length : Int) = 0 := by have : ¬ ¬ (c.faces.length : Int) < 1 := fun h => h0 ⟨h1, h⟩; omega
        simp only [this, decide_true, Bool.true_or]
      · simp [h1]
    have h1 : txB c.note = true → (c.faces.length : Int) < 1 := fun h => by
      by_cases h2 : (c.faces.length : Int) < 1
      · exact h2
      · exact absurd ⟨h, h2⟩ h0
    simp (disch := first | rfl | omega | exact lt_new _ | assumption | decide | (simp [tk_here, tk_app, tk_0, tk_S, gr_here, gr_app, gr_0, gr_S] <;> omega) | fail) only [r113_0, r113_1, r113_2, c113, rs113, gc113, loadV_ptr, storeV_ptr, List.append_assoc, List.length_append, List.length_cons, List.length_nil, List.set_cons_zero, List.set_cons_succ, tk_here, tk_app, gr_here, gr_app, st_here, st_app, h149, h1, go_sem, ↓reduceIte, Nat.reduceLT, Nat.reduceEqDiff, Nat.reduceAdd, Nat.reduceMul, Nat.reduceSub, Int.reduceAdd, Int.reduceSub, Nat.reduceLeDiff, Int.reduceLT, Int.reduceLE, Int.reduceEq, Int.reduceNeg, Int.reduceToNat]
    repeat' ((first | refine guardB_dec (fun hy => ?_) (fun hy => ?_) | refine guardB_bool (fun hy => ?_) (fun hy => ?_) | refine guardQ_ite (fun hy => ?_) (fun hy => ?_) | refine brQ_dec (fun hy => ?_) (fun hy => ?_) | refine brQ_bool (fun hy => ?_) (fun hy => ?_)) <;> (try simp only [Bool.not_eq_true', Bool.not_eq_false', Bool.and_eq_true, Bool.or_eq_false_iff, decide_eq_true_eq, decide_eq_false_iff_not] at hy) <;> simp (disch := first | rfl | omega | exact lt_new _ | assumption | decide | (simp [tk_here, tk_app, tk_0, tk_S, gr_here, gr_app, gr_0, gr_S] <;> omega) | fail) only [r113_0, r113_1, r113_2, c113, rs113, gc113, loadV_ptr, storeV_ptr, List.append_assoc, List.length_append, List.length_cons, List.length_nil, List.set_cons_zero, List.set_cons_succ, tk_here, tk_app, gr_here, gr_app, st_here, st_app, h149, h1, go_sem, ↓reduceIte, Nat.reduceLT, Nat.reduceEqDiff, Nat.reduceAdd, Nat.reduceMul, Nat.reduceSub, Int.reduceAdd, Int.reduceSub, Nat.reduceLeDiff, Int.reduceLT, Int.reduceLE, Int.reduceEq, Int.reduceNeg, Int.reduceToNat, hy])
    all_goals (refine finQ_app ?_; simp (disch := first | rfl | omega | exact lt_new _ | assumption | decide | (simp [tk_here, tk_app, tk_0, tk_S, gr_here, gr_app, gr_0, gr_S] <;> omega) | fail) only [go_sem, ↓reduceIte, Nat.reduceLT, Nat.reduceEqDiff, Nat.reduceAdd, Nat.reduceMul, Nat.reduceSub, Int.reduceAdd, Int.reduceSub, Nat.reduceLeDiff, Int.reduceLT, Int.reduceLE, Int.reduceEq, Int.reduceNeg, Int.reduceToNat, hW])
  obtain ⟨h1, h2⟩ := h0
  simp (disch := first | rfl | omega | exact lt_new _ | assumption | decide | (simp [tk_here, tk_app, tk_0, tk_S, gr_here, gr_app, gr_0, gr_S] <;> omega) | fail) only [r113_0, r113_1, r113_3, c113, loadV_ptr, storeV_ptr, List.append_assoc, List.length_append, List.length_cons, List.length_nil, List.set_cons_zero, List.set_cons_succ, tk_here, tk_app, gr_here, gr_app, st_here, st_app, h149, h1, h2, go_sem, ↓reduceIte, Nat.reduceLT, Nat.reduceEqDiff, Nat.reduceAdd, Nat.reduceMul, Nat.reduceSub, Int.reduceAdd, Int.reduceSub, Nat.reduceLeDiff, Int.reduceLT, Int.reduceLE, Int.reduceEq, Int.reduceNeg, Int.reduceToNat]
  repeat' ((first | refine guardB_dec (fun hy => ?_) (fun hy => ?_) | refine guardB_bool (fun hy => ?_) (fun hy => ?_) | refine guardQ_ite (fun hy => ?_) (fun hy => ?_) | refine brQ_dec (fun hy => ?_) (fun hy => ?_) | refine brQ_bool (fun hy => ?_) (fun hy => ?_)) <;> (try simp only [Bool.not_eq_true', Bool.not_eq_false', Bool.and_eq_true, Bool.or_eq_false_iff, decide_eq_true_eq, decide_eq_false_iff_not] at hy) <;> simp (disch := first | rfl | omega | exact lt_new _ | assumption | decide | (simp [tk_here, tk_app, tk_0, tk_S, gr_here, gr_app, gr_0, gr_S] <;> omega) | fail) only [r113_0, r113_1, r113_3, c113, loadV_ptr, storeV_ptr, List.append_assoc, List.length_append, List.length_cons, List.length_nil, List.set_cons_zero, List.set_cons_succ, tk_here, tk_app, gr_here, gr_app, st_here, st_app, h149, h1, h2, go_sem, ↓reduceIte, Nat.reduceLT, Nat.reduceEqDiff, Nat.reduceAdd, Nat.reduceMul, Nat.reduceSub, Int.reduceAdd, Int.reduceSub, Nat.reduceLeDiff, Int.reduceLT, Int.reduceLE, Int.reduceEq, Int.reduceNeg, Int.reduceToNat, hy])
  refine Wp_loop (fun m T D H' => ∃ i G, m = c.faces.length - i ∧ i ≤ c.faces.length ∧ D = [] ∧ H' = H ++ .row 0 (cpE.f c) true :: G ∧ get T 1 = .ptr H.length 0 0 ∧ get T 3 = .int .i64 i ∧ (c.faces.take i).any (fun x => !fcB x) = false) ?_ c.faces.length _ _ _ ?_
  case refine_2 =>
    refine ⟨0, _, rfl, by omega, rfl, rfl, ?_, ?_, rfl⟩
    all_goals simp (disch := first | rfl | omega | exact lt_new _ | assumption | decide | (simp [tk_here, tk_app, tk_0, tk_S, gr_here, gr_app, gr_0, gr_S] <;> omega) | fail) only [go_sem, ↓reduceIte, Nat.reduceLT, Nat.reduceEqDiff, Nat.reduceAdd, Nat.reduceMul, Nat.reduceSub, Int.reduceAdd, Int.reduceSub, Nat.reduceLeDiff, Int.reduceLT, Int.reduceLE, Int.reduceEq, Int.reduceNeg, Int.reduceToNat]
    all_goals first | rfl | (simp; done)
  rintro m T D H' ⟨i, G, rfl, hi, rfl, rfl, t1, tt, hb⟩
  by_cases hlt : i < c.faces.length
  · have hlt' : (i : Int) < c.faces.length := by omega
    have ld := fun H => ldF (H := H) hlt
    have hmem := fcE.at_mem hlt
    obtain ⟨x, hx⟩ : ∃ x, fcE.at c.faces i = x := ⟨_, rfl⟩
    rw [hx] at ld hmem
    have hs1 := fn149 x.name (by have := (o1 _ hmem).1; omega)
    by_cases hq : fcB x = true
    · have hn := any_none fcE hlt hb (by rw [hx]; simp [hq])
      obtain ⟨⟨⟨⟨g1, g2⟩, g3⟩, g4⟩, g5⟩ : (((txB x.name = true ∧ 0 ≤ x.link) ∧ x.link ≤ 65535) ∧ 0 ≤ x.snap) ∧ x.snap ≤ 400 := by simpa [fcB] using hq
      have n2 : ¬ x.link < 0 := by omega
      have n3 : ¬ 65535 < x.link := by omega
      have n4 : ¬ x.snap < 0 := by omega
      have n5 : ¬ 400 < x.snap := by omega
      simp (disch := first | rfl | omega | exact lt_new _ | assumption | decide | (simp [tk_here, tk_app, tk_0, tk_S, gr_here, gr_app, gr_0, gr_S] <;> omega) | fail) only [l113_9, r113_4, r113_5, r113_6, r113_8, loadV_ptr, storeV_ptr, List.append_assoc, List.length_append, List.length_cons, List.length_nil, List.set_cons_zero, List.set_cons_succ, tk_here, tk_app, gr_here, gr_app, st_here, st_app, t1, tt, hlt', ld, hs1, g1, n2, n3, n4, n5, go_sem, ↓reduceIte, Nat.reduceLT, Nat.reduceEqDiff, Nat.reduceAdd, Nat.reduceMul, Nat.reduceSub, Int.reduceAdd, Int.reduceSub, Nat.reduceLeDiff, Int.reduceLT, Int.reduceLE, Int.reduceEq, Int.reduceNeg, Int.reduceToNat]
      repeat' ((first | refine guardB_dec (fun hy => ?_) (fun hy => ?_) | refine guardB_bool (fun hy => ?_) (fun hy => ?_) | refine guardQ_ite (fun hy => ?_) (fun hy => ?_) | refine brQ_dec (fun hy => ?_) (fun hy => ?_) | refine brQ_bool (fun hy => ?_) (fun hy => ?_)) <;> (try simp only [Bool.not_eq_true', Bool.not_eq_false', Bool.and_eq_true, Bool.or_eq_false_iff, decide_eq_true_eq, decide_eq_false_iff_not] at hy) <;> simp (disch := first | rfl | omega | exact lt_new _ | assumption | decide | (simp [tk_here, tk_app, tk_0, tk_S, gr_here, gr_app, gr_0, gr_S] <;> omega) | fail) only [l113_9, r113_4, r113_5, r113_6, r113_8, loadV_ptr, storeV_ptr, List.append_assoc, List.length_append, List.length_cons, List.length_nil, List.set_cons_zero, List.set_cons_succ, tk_here, tk_app, gr_here, gr_app, st_here, st_app, t1, tt, hlt', ld, hs1, g1, n2, n3, n4, n5, go_sem, ↓reduceIte, Nat.reduceLT, Nat.reduceEqDiff, Nat.reduceAdd, Nat.reduceMul, Nat.reduceSub, Int.reduceAdd, Int.reduceSub, Nat.reduceLeDiff, Int.reduceLT, Int.reduceLE, Int.reduceEq, Int.reduceNeg, Int.reduceToNat, hy])
      exact ⟨_, by omega, i + 1, _, rfl, hlt, rfl, rfl, hn⟩
    · have hW : wrongB c = true := by unfold wrongB; rw [any_mem fcE (q := fun x => !fcB x) hlt (by rw [hx]; simp [hq])]; simp
      have n5 : txB x.name = true → ¬ x.link < 0 → ¬ 65535 < x.link → ¬ x.snap < 0 → 400 < x.snap := fun a b c d => by
        by_cases e : 400 < x.snap
        · exact e
        · exact absurd (by simp [fcB, a]; omega) hq
      simp (disch := first | rfl | omega | exact lt_new _ | assumption | decide | (simp [tk_here, tk_app, tk_0, tk_S, gr_here, gr_app, gr_0, gr_S] <;> omega) | fail) only [l113_9, r113_4, r113_5, r113_6, r113_8, r113_7, rs113, gc113, loadV_ptr, storeV_ptr, List.append_assoc, List.length_append, List.length_cons, List.length_nil, List.set_cons_zero, List.set_cons_succ, tk_here, tk_app, gr_here, gr_app, st_here, st_app, t1, tt, hlt', ld, hs1, n5, go_sem, ↓reduceIte, Nat.reduceLT, Nat.reduceEqDiff, Nat.reduceAdd, Nat.reduceMul, Nat.reduceSub, Int.reduceAdd, Int.reduceSub, Nat.reduceLeDiff, Int.reduceLT, Int.reduceLE, Int.reduceEq, Int.reduceNeg, Int.reduceToNat]
      repeat' ((first | refine guardB_dec (fun hy => ?_) (fun hy => ?_) | refine guardB_bool (fun hy => ?_) (fun hy => ?_) | refine guardQ_ite (fun hy => ?_) (fun hy => ?_) | refine brQ_dec (fun hy => ?_) (fun hy => ?_) | refine brQ_bool (fun hy => ?_) (fun hy => ?_)) <;> (try simp only [Bool.not_eq_true', Bool.not_eq_false', Bool.and_eq_true, Bool.or_eq_false_iff, decide_eq_true_eq, decide_eq_false_iff_not] at hy) <;> simp (disch := first | rfl | omega | exact lt_new _ | assumption | decide | (simp [tk_here, tk_app, tk_0, tk_S, gr_here, gr_app, gr_0, gr_S] <;> omega) | fail) only [l113_9, r113_4, r113_5, r113_6, r113_8, r113_7, rs113, gc113, loadV_ptr, storeV_ptr, List.append_assoc, List.length_append, List.length_cons, List.length_nil, List.set_cons_zero, List.set_cons_succ, tk_here, tk_app, gr_here, gr_app, st_here, st_app, t1, tt, hlt', ld, hs1, n5, go_sem, ↓reduceIte, Nat.reduceLT, Nat.reduceEqDiff, Nat.reduceAdd, Nat.reduceMul, Nat.reduceSub, Int.reduceAdd, Int.reduceSub, Nat.reduceLeDiff, Int.reduceLT, Int.reduceLE, Int.reduceEq, Int.reduceNeg, Int.reduceToNat, hy])
      all_goals (refine finQ_app ?_; simp (disch := first | rfl | omega | exact lt_new _ | assumption | decide | (simp [tk_here, tk_app, tk_0, tk_S, gr_here, gr_app, gr_0, gr_S] <;> omega) | fail) only [go_sem, ↓reduceIte, Nat.reduceLT, Nat.reduceEqDiff, Nat.reduceAdd, Nat.reduceMul, Nat.reduceSub, Int.reduceAdd, Int.reduceSub, Nat.reduceLeDiff, Int.reduceLT, Int.reduceLE, Int.reduceEq, Int.reduceNeg, Int.reduceToNat, hW])
  · obtain rfl : i = c.faces.length := by omega
    rw [List.take_length] at hb
    have hb0 := hb
    clear hb
    simp (disch := first | rfl | omega | exact lt_new _ | assumption | decide | (simp [tk_here, tk_app, tk_0, tk_S, gr_here, gr_app, gr_0, gr_S] <;> omega) | fail) only [l113_9, r113_4, r113_10, loadV_ptr, storeV_ptr, List.append_assoc, List.length_append, List.length_cons, List.length_nil, List.set_cons_zero, List.set_cons_succ, tk_here, tk_app, gr_here, gr_app, st_here, st_app, t1, tt, Int.lt_irrefl, go_sem, ↓reduceIte, Nat.reduceLT, Nat.reduceEqDiff, Nat.reduceAdd, Nat.reduceMul, Nat.reduceSub, Int.reduceAdd, Int.reduceSub, Nat.reduceLeDiff, Int.reduceLT, Int.reduceLE, Int.reduceEq, Int.reduceNeg, Int.reduceToNat]
    repeat' ((first | refine guardB_dec (fun hy => ?_) (fun hy => ?_) | refine guardB_bool (fun hy => ?_) (fun hy => ?_) | refine guardQ_ite (fun hy => ?_) (fun hy => ?_) | refine brQ_dec (fun hy => ?_) (fun hy => ?_) | refine brQ_bool (fun hy => ?_) (fun hy => ?_)) <;> (try simp only [Bool.not_eq_true', Bool.not_eq_false', Bool.and_eq_true, Bool.or_eq_false_iff, decide_eq_true_eq, decide_eq_false_iff_not] at hy) <;> simp (disch := first | rfl | omega | exact lt_new _ | assumption | decide | (simp [tk_here, tk_app, tk_0, tk_S, gr_here, gr_app, gr_0, gr_S] <;> omega) | fail) only [l113_9, r113_4, r113_10, loadV_ptr, storeV_ptr, List.append_assoc, List.length_append, List.length_cons, List.length_nil, List.set_cons_zero, List.set_cons_succ, tk_here, tk_app, gr_here, gr_app, st_here, st_app, t1, tt, Int.lt_irrefl, go_sem, ↓reduceIte, Nat.reduceLT, Nat.reduceEqDiff, Nat.reduceAdd, Nat.reduceMul, Nat.reduceSub, Int.reduceAdd, Int.reduceSub, Nat.reduceLeDiff, Int.reduceLT, Int.reduceLE, Int.reduceEq, Int.reduceNeg, Int.reduceToNat, hy])
    refine Wp_loop (fun m T D H' => ∃ i G, m = c.names.length - i ∧ i ≤ c.names.length ∧ D = [] ∧ H' = H ++ .row 0 (cpE.f c) true :: G ∧ get T 1 = .ptr H.length 0 0 ∧ get T 5 = .int .i64 i ∧ (c.names.take i).any (fun x => !nmB x) = false) ?_ c.names.length _ _ _ ?_
    case refine_2 =>
      refine ⟨0, _, rfl, by omega, rfl, rfl, ?_, ?_, rfl⟩
      all_goals simp (disch := first | rfl | omega | exact lt_new _ | assumption | decide | (simp [tk_here, tk_app, tk_0, tk_S, gr_here, gr_app, gr_0, gr_S] <;> omega) | fail) only [go_sem, ↓reduceIte, Nat.reduceLT, Nat.reduceEqDiff, Nat.reduceAdd, Nat.reduceMul, Nat.reduceSub, Int.reduceAdd, Int.reduceSub, Nat.reduceLeDiff, Int.reduceLT, Int.reduceLE, Int.reduceEq, Int.reduceNeg, Int.reduceToNat, t1]
      all_goals first | rfl | (simp; done)
    clear t1 tt
    rintro m T D H' ⟨i, G, rfl, hi, rfl, rfl, t1, tt, hb⟩
    by_cases hlt : i < c.names.length
    · have hlt' : (i : Int) < c.names.length := by omega
      have ld := fun H => ldN (H := H) hlt
      have hmem := nmE.at_mem hlt
      obtain ⟨x, hx⟩ : ∃ x, nmE.at c.names i = x := ⟨_, rfl⟩
      rw [hx] at ld hmem
      have hs1 := fn149 x.text (by have := (o2 _ hmem).2; omega)
      have hlb := (o2 _ hmem).1
      by_cases hq : nmB x = true
      · have hn := any_none nmE hlt hb (by rw [hx]; simp [hq])
        obtain ⟨⟨g1, g2⟩, g3⟩ : (txB x.text = true ∧ 1 ≤ x.addr.length) ∧ x.addr.length ≤ 16 := by simpa [nmB] using hq
        have n2 : ¬ (x.addr.length : Int) < 1 := by omega
        have n3 : ¬ (16 : Int) < x.addr.length := by omega
        simp (disch := first | rfl | omega | exact lt_new _ | assumption | decide | (simp [tk_here, tk_app, tk_0, tk_S, gr_here, gr_app, gr_0, gr_S] <;> omega) | fail) only [l113_16, r113_11, r113_12, r113_13, r113_15, loadV_ptr, storeV_ptr, List.append_assoc, List.length_append, List.length_cons, List.length_nil, List.set_cons_zero, List.set_cons_succ, tk_here, tk_app, gr_here, gr_app, st_here, st_app, t1, tt, hlt', ld, hs1, g1, n2, n3, go_sem, ↓reduceIte, Nat.reduceLT, Nat.reduceEqDiff, Nat.reduceAdd, Nat.reduceMul, Nat.reduceSub, Int.reduceAdd, Int.reduceSub, Nat.reduceLeDiff, Int.reduceLT, Int.reduceLE, Int.reduceEq, Int.reduceNeg, Int.reduceToNat]
        repeat' ((first | refine guardB_dec (fun hy => ?_) (fun hy => ?_) | refine guardB_bool (fun hy => ?_) (fun hy => ?_) | refine guardQ_ite (fun hy => ?_) (fun hy => ?_) | refine brQ_dec (fun hy => ?_) (fun hy => ?_) | refine brQ_bool (fun hy => ?_) (fun hy => ?_)) <;> (try simp only [Bool.not_eq_true', Bool.not_eq_false', Bool.and_eq_true, Bool.or_eq_false_iff, decide_eq_true_eq, decide_eq_false_iff_not] at hy) <;> simp (disch := first | rfl | omega | exact lt_new _ | assumption | decide | (simp [tk_here, tk_app, tk_0, tk_S, gr_here, gr_app, gr_0, gr_S] <;> omega) | fail) only [l113_16, r113_11, r113_12, r113_13, r113_15, loadV_ptr, storeV_ptr, List.append_assoc, List.length_append, List.length_cons, List.length_nil, List.set_cons_zero, List.set_cons_succ, tk_here, tk_app, gr_here, gr_app, st_here, st_app, t1, tt, hlt', ld, hs1, g1, n2, n3, go_sem, ↓reduceIte, Nat.reduceLT, Nat.reduceEqDiff, Nat.reduceAdd, Nat.reduceMul, Nat.reduceSub, Int.reduceAdd, Int.reduceSub, Nat.reduceLeDiff, Int.reduceLT, Int.reduceLE, Int.reduceEq, Int.reduceNeg, Int.reduceToNat, hy])
        exact ⟨_, by omega, i + 1, _, rfl, hlt, rfl, rfl, hn⟩
      · have hW : wrongB c = true := by unfold wrongB; rw [any_mem nmE (q := fun x => !nmB x) hlt (by rw [hx]; simp [hq])]; simp
        have n5 : ¬ (x.addr.length : Int) < 1 → ¬ (16 : Int) < x.addr.length → txB x.text = false := fun a b => by
          cases e : txB x.text with
          | false => rfl
          | true => exact absurd (by simp [nmB, e]; omega) hq
        simp (disch := first | rfl | omega | exact lt_new _ | assumption | decide | (simp [tk_here, tk_app, tk_0, tk_S, gr_here, gr_app, gr_0, gr_S] <;> omega) | fail) only [l113_16, r113_11, r113_12, r113_13, r113_15, r113_14, rs113, gc113, loadV_ptr, storeV_ptr, List.append_assoc, List.length_append, List.length_cons, List.length_nil, List.set_cons_zero, List.set_cons_succ, tk_here, tk_app, gr_here, gr_app, st_here, st_app, t1, tt, hlt', ld, hs1, n5, go_sem, ↓reduceIte, Nat.reduceLT, Nat.reduceEqDiff, Nat.reduceAdd, Nat.reduceMul, Nat.reduceSub, Int.reduceAdd, Int.reduceSub, Nat.reduceLeDiff, Int.reduceLT, Int.reduceLE, Int.reduceEq, Int.reduceNeg, Int.reduceToNat]
        repeat' ((first | refine guardB_dec (fun hy => ?_) (fun hy => ?_) | refine guardB_bool (fun hy => ?_) (fun hy => ?_) | refine guardQ_ite (fun hy => ?_) (fun hy => ?_) | refine brQ_dec (fun hy => ?_) (fun hy => ?_) | refine brQ_bool (fun hy => ?_) (fun hy => ?_)) <;> (try simp only [Bool.not_eq_true', Bool.not_eq_false', Bool.and_eq_true, Bool.or_eq_false_iff, decide_eq_true_eq, decide_eq_false_iff_not] at hy) <;> simp (disch := first | rfl | omega | exact lt_new _ | assumption | decide | (simp [tk_here, tk_app, tk_0, tk_S, gr_here, gr_app, gr_0, gr_S] <;> omega) | fail) only [l113_16, r113_11, r113_12, r113_13, r113_15, r113_14, rs113, gc113, loadV_ptr, storeV_ptr, List.append_assoc, List.length_append, List.length_cons, List.length_nil, List.set_cons_zero, List.set_cons_succ, tk_here, tk_app, gr_here, gr_app, st_here, st_app, t1, tt, hlt', ld, hs1, n5, go_sem, ↓reduceIte, Nat.reduceLT, Nat.reduceEqDiff, Nat.reduceAdd, Nat.reduceMul, Nat.reduceSub, Int.reduceAdd, Int.reduceSub, Nat.reduceLeDiff, Int.reduceLT, Int.reduceLE, Int.reduceEq, Int.reduceNeg, Int.reduceToNat, hy])
        all_goals (refine finQ_app ?_; simp (disch := first | rfl | omega | exact lt_new _ | assumption | decide | (simp [tk_here, tk_app, tk_0, tk_S, gr_here, gr_app, gr_0, gr_S] <;> omega) | fail) only [go_sem, ↓reduceIte, Nat.reduceLT, Nat.reduceEqDiff, Nat.reduceAdd, Nat.reduceMul, Nat.reduceSub, Int.reduceAdd, Int.reduceSub, Nat.reduceLeDiff, Int.reduceLT, Int.reduceLE, Int.reduceEq, Int.reduceNeg, Int.reduceToNat, hW])
    · obtain rfl : i = c.names.length := by omega
      rw [List.take_length] at hb
      have hb1 := hb
      clear hb
      simp (disch := first | rfl | omega | exact lt_new _ | assumption | decide | (simp [tk_here, tk_app, tk_0, tk_S, gr_here, gr_app, gr_0, gr_S] <;> omega) | fail) only [l113_16, r113_11, r113_17, loadV_ptr, storeV_ptr, List.append_assoc, List.length_append, List.length_cons, List.length_nil, List.set_cons_zero, List.set_cons_succ, tk_here, tk_app, gr_here, gr_app, st_here, st_app, t1, tt, Int.lt_irrefl, go_sem, ↓reduceIte, Nat.reduceLT, Nat.reduceEqDiff, Nat.reduceAdd, Nat.reduceMul, Nat.reduceSub, Int.reduceAdd, Int.reduceSub, Nat.reduceLeDiff, Int.reduceLT, Int.reduceLE, Int.reduceEq, Int.reduceNeg, Int.reduceToNat]
      repeat' ((first | refine guardB_dec (fun hy => ?_) (fun hy => ?_) | refine guardB_bool (fun hy => ?_) (fun hy => ?_) | refine guardQ_ite (fun hy => ?_) (fun hy => ?_) | refine brQ_dec (fun hy => ?_) (fun hy => ?_) | refine brQ_bool (fun hy => ?_) (fun hy => ?_)) <;> (try simp only [Bool.not_eq_true', Bool.not_eq_false', Bool.and_eq_true, Bool.or_eq_false_iff, decide_eq_true_eq, decide_eq_false_iff_not] at hy) <;> simp (disch := first | rfl | omega | exact lt_new _ | assumption | decide | (simp [tk_here, tk_app, tk_0, tk_S, gr_here, gr_app, gr_0, gr_S] <;> omega) | fail) only [l113_16, r113_11, r113_17, loadV_ptr, storeV_ptr, List.append_assoc, List.length_append, List.length_cons, List.length_nil, List.set_cons_zero, List.set_cons_succ, tk_here, tk_app, gr_here, gr_app, st_here, st_app, t1, tt, Int.lt_irrefl, go_sem, ↓reduceIte, Nat.reduceLT, Nat.reduceEqDiff, Nat.reduceAdd, Nat.reduceMul, Nat.reduceSub, Int.reduceAdd, Int.reduceSub, Nat.reduceLeDiff, Int.reduceLT, Int.reduceLE, Int.reduceEq, Int.reduceNeg, Int.reduceToNat, hy])
      refine Wp_loop (fun m T D H' => ∃ i G, m = c.secrets.length - i ∧ i ≤ c.secrets.length ∧ D = [] ∧ H' = H ++ .row 0 (cpE.f c) true :: G ∧ get T 1 = .ptr H.length 0 0 ∧ get T 7 = .int .i64 i ∧ (c.secrets.take i).any (fun x => !scB x) = false) ?_ c.secrets.length _ _ _ ?_
      case refine_2 =>
        refine ⟨0, _, rfl, by omega, rfl, rfl, ?_, ?_, rfl⟩
        all_goals simp (disch := first | rfl | omega | exact lt_new _ | assumption | decide | (simp [tk_here, tk_app, tk_0, tk_S, gr_here, gr_app, gr_0, gr_S] <;> omega) | fail) only [go_sem, ↓reduceIte, Nat.reduceLT, Nat.reduceEqDiff, Nat.reduceAdd, Nat.reduceMul, Nat.reduceSub, Int.reduceAdd, Int.reduceSub, Nat.reduceLeDiff, Int.reduceLT, Int.reduceLE, Int.reduceEq, Int.reduceNeg, Int.reduceToNat, t1]
        all_goals first | rfl | (simp; done)
      clear t1 tt
      rintro m T D H' ⟨i, G, rfl, hi, rfl, rfl, t1, tt, hb⟩
      by_cases hlt : i < c.secrets.length
      · have hlt' : (i : Int) < c.secrets.length := by omega
        have ld := fun H => ldS (H := H) hlt
        have hmem := scE.at_mem hlt
        obtain ⟨x, hx⟩ : ∃ x, scE.at c.secrets i = x := ⟨_, rfl⟩
        rw [hx] at ld hmem
        have hs1 := fn149 x.label (by have := (o3 _ hmem).1; omega)
        have hlb := (o3 _ hmem).2
        by_cases hq : scB x = true
        · have hn := any_none scE hlt hb (by rw [hx]; simp [hq])
          obtain ⟨⟨⟨g1, n2⟩, g3⟩, g4⟩ : ((txB x.label = true ∧ ¬ x.label = []) ∧ 1 ≤ x.key.length) ∧ x.key.length ≤ 200 := by simpa [scB] using hq
          have n3 : ¬ (x.key.length : Int) < 1 := by omega
          have n4 : ¬ (200 : Int) < x.key.length := by omega
          simp (disch := first | rfl | omega | exact lt_new _ | assumption | decide | (simp [tk_here, tk_app, tk_0, tk_S, gr_here, gr_app, gr_0, gr_S] <;> omega) | fail) only [l113_23, r113_18, r113_19, r113_20, r113_22, loadV_ptr, storeV_ptr, List.append_assoc, List.length_append, List.length_cons, List.length_nil, List.set_cons_zero, List.set_cons_succ, tk_here, tk_app, gr_here, gr_app, st_here, st_app, t1, tt, hlt', ld, hs1, g1, n2, n3, n4, go_sem, ↓reduceIte, Nat.reduceLT, Nat.reduceEqDiff, Nat.reduceAdd, Nat.reduceMul, Nat.reduceSub, Int.reduceAdd, Int.reduceSub, Nat.reduceLeDiff, Int.reduceLT, Int.reduceLE, Int.reduceEq, Int.reduceNeg, Int.reduceToNat]
          repeat' ((first | refine guardB_dec (fun hy => ?_) (fun hy => ?_) | refine guardB_bool (fun hy => ?_) (fun hy => ?_) | refine guardQ_ite (fun hy => ?_) (fun hy => ?_) | refine brQ_dec (fun hy => ?_) (fun hy => ?_) | refine brQ_bool (fun hy => ?_) (fun hy => ?_)) <;> (try simp only [Bool.not_eq_true', Bool.not_eq_false', Bool.and_eq_true, Bool.or_eq_false_iff, decide_eq_true_eq, decide_eq_false_iff_not] at hy) <;> simp (disch := first | rfl | omega | exact lt_new _ | assumption | decide | (simp [tk_here, tk_app, tk_0, tk_S, gr_here, gr_app, gr_0, gr_S] <;> omega) | fail) only [l113_23, r113_18, r113_19, r113_20, r113_22, loadV_ptr, storeV_ptr, List.append_assoc, List.length_append, List.length_cons, List.length_nil, List.set_cons_zero, List.set_cons_succ, tk_here, tk_app, gr_here, gr_app, st_here, st_app, t1, tt, hlt', ld, hs1, g1, n2, n3, n4, go_sem, ↓reduceIte, Nat.reduceLT, Nat.reduceEqDiff, Nat.reduceAdd, Nat.reduceMul, Nat.reduceSub, Int.reduceAdd, Int.reduceSub, Nat.reduceLeDiff, Int.reduceLT, Int.reduceLE, Int.reduceEq, Int.reduceNeg, Int.reduceToNat, hy])
          exact ⟨_, by omega, i + 1, _, rfl, hlt, rfl, rfl, hn⟩
        · have hW : wrongB c = true := by unfold wrongB; rw [any_mem scE (q := fun x => !scB x) hlt (by rw [hx]; simp [hq])]; simp
          have n5 : txB x.label = true → ¬ x.label = [] → ¬ (x.key.length : Int) < 1 → (200 : Int) < x.key.length := fun a b d => by
            by_cases e : (200 : Int) < x.key.length
            · exact e
            · exact absurd (by simp [scB, a, b]; omega) hq
          simp (disch := first | rfl | omega | exact lt_new _ | assumption | decide | (simp [tk_here, tk_app, tk_0, tk_S, gr_here, gr_app, gr_0, gr_S] <;> omega) | fail) only [l113_23, r113_18, r113_19, r113_20, r113_22, r113_21, rs113, gc113, loadV_ptr, storeV_ptr, List.append_assoc, List.length_append, List.length_cons, List.length_nil, List.set_cons_zero, List.set_cons_succ, tk_here, tk_app, gr_here, gr_app, st_here, st_app, t1, tt, hlt', ld, hs1, n5, go_sem, ↓reduceIte, Nat.reduceLT, Nat.reduceEqDiff, Nat.reduceAdd, Nat.reduceMul, Nat.reduceSub, Int.reduceAdd, Int.reduceSub, Nat.reduceLeDiff, Int.reduceLT, Int.reduceLE, Int.reduceEq, Int.reduceNeg, Int.reduceToNat]
          repeat' ((first | refine guardB_dec (fun hy => ?_) (fun hy => ?_) | refine guardB_bool (fun hy => ?_) (fun hy => ?_) | refine guardQ_ite (fun hy => ?_) (fun hy => ?_) | refine brQ_dec (fun hy => ?_) (fun hy => ?_) | refine brQ_bool (fun hy => ?_) (fun hy => ?_)) <;> (try simp only [Bool.not_eq_true', Bool.not_eq_false', Bool.and_eq_true, Bool.or_eq_false_iff, decide_eq_true_eq, decide_eq_false_iff_not] at hy) <;> simp (disch := first | rfl | omega | exact lt_new _ | assumption | decide | (simp [tk_here, tk_app, tk_0, tk_S, gr_here, gr_app, gr_0, gr_S] <;> omega) | fail) only [l113_23, r113_18, r113_19, r113_20, r113_22, r113_21, rs113, gc113, loadV_ptr, storeV_ptr, List.append_assoc, List.length_append, List.length_cons, List.length_nil, List.set_cons_zero, List.set_cons_succ, tk_here, tk_app, gr_here, gr_app, st_here, st_app, t1, tt, hlt', ld, hs1, n5, go_sem, ↓reduceIte, Nat.reduceLT, Nat.reduceEqDiff, Nat.reduceAdd, Nat.reduceMul, Nat.reduceSub, Int.reduceAdd, Int.reduceSub, Nat.reduceLeDiff, Int.reduceLT, Int.reduceLE, Int.reduceEq, Int.reduceNeg, Int.reduceToNat, hy])
          all_goals (refine finQ_app ?_; simp (disch := first | rfl | omega | exact lt_new _ | assumption | decide | (simp [tk_here, tk_app, tk_0, tk_S, gr_here, gr_app, gr_0, gr_S] <;> omega) | fail) only [go_sem, ↓reduceIte, Nat.reduceLT, Nat.reduceEqDiff, Nat.reduceAdd, Nat.reduceMul, Nat.reduceSub, Int.reduceAdd, Int.reduceSub, Nat.reduceLeDiff, Int.reduceLT, Int.reduceLE, Int.reduceEq, Int.reduceNeg, Int.reduceToNat, hW])
      · obtain rfl : i = c.secrets.length := by omega
        rw [List.take_length] at hb
        have hb2 := hb
        clear hb
        simp (disch := first | rfl | omega | exact lt_new _ | assumption | decide | (simp [tk_here, tk_app, tk_0, tk_S, gr_here, gr_app, gr_0, gr_S] <;> omega) | fail) only [l113_23, r113_18, r113_24, loadV_ptr, storeV_ptr, List.append_assoc, List.length_append, List.length_cons, List.length_nil, List.set_cons_zero, List.set_cons_succ, tk_here, tk_app, gr_here, gr_app, st_here, st_app, t1, tt, Int.lt_irrefl, go_sem, ↓reduceIte, Nat.reduceLT, Nat.reduceEqDiff, Nat.reduceAdd, Nat.reduceMul, Nat.reduceSub, Int.reduceAdd, Int.reduceSub, Nat.reduceLeDiff, Int.reduceLT, Int.reduceLE, Int.reduceEq, Int.reduceNeg, Int.reduceToNat]
        repeat' ((first | refine guardB_dec (fun hy => ?_) (fun hy => ?_) | refine guardB_bool (fun hy => ?_) (fun hy => ?_) | refine guardQ_ite (fun hy => ?_) (fun hy => ?_) | refine brQ_dec (fun hy => ?_) (fun hy => ?_) | refine brQ_bool (fun hy => ?_) (fun hy => ?_)) <;> (try simp only [Bool.not_eq_true', Bool.not_eq_false', Bool.and_eq_true, Bool.or_eq_false_iff, decide_eq_true_eq, decide_eq_false_iff_not] at hy) <;> simp (disch := first | rfl | omega | exact lt_new _ | assumption | decide | (simp [tk_here, tk_app, tk_0, tk_S, gr_here, gr_app, gr_0, gr_S] <;> omega) | fail) only [l113_23, r113_18, r113_24, loadV_ptr, storeV_ptr, List.append_assoc, List.length_append, List.length_cons, List.length_nil, List.set_cons_zero, List.set_cons_succ, tk_here, tk_app, gr_here, gr_app, st_here, st_app, t1, tt, Int.lt_irrefl, go_sem, ↓reduceIte, Nat.reduceLT, Nat.reduceEqDiff, Nat.reduceAdd, Nat.reduceMul, Nat.reduceSub, Int.reduceAdd, Int.reduceSub, Nat.reduceLeDiff, Int.reduceLT, Int.reduceLE, Int.reduceEq, Int.reduceNeg, Int.reduceToNat, hy])
        refine Wp_loop (fun m T D H' => ∃ i G, m = c.packets.length - i ∧ i ≤ c.packets.length ∧ D = [] ∧ H' = H ++ .row 0 (cpE.f c) true :: G ∧ get T 1 = .ptr H.length 0 0 ∧ get T 9 = .int .i64 i ∧ (c.packets.take i).any (fun x => !pfB x c.faces) = false) ?_ c.packets.length _ _ _ ?_
        case refine_2 =>
          refine ⟨0, _, rfl, by omega, rfl, rfl, ?_, ?_, rfl⟩
          all_goals simp (disch := first | rfl | omega | exact lt_new _ | assumption | decide | (simp [tk_here, tk_app, tk_0, tk_S, gr_here, gr_app, gr_0, gr_S] <;> omega) | fail) only [go_sem, ↓reduceIte, Nat.reduceLT, Nat.reduceEqDiff, Nat.reduceAdd, Nat.reduceMul, Nat.reduceSub, Int.reduceAdd, Int.reduceSub, Nat.reduceLeDiff, Int.reduceLT, Int.reduceLE, Int.reduceEq, Int.reduceNeg, Int.reduceToNat, t1]
          all_goals first | rfl | (simp; done)
        clear t1 tt
        rintro m T D H' ⟨i, G, rfl, hi, rfl, rfl, t1, tt, hb⟩
        by_cases hlt : i < c.packets.length
        · have hlt' : (i : Int) < c.packets.length := by omega
          have ld := fun H => ldP (H := H) hlt
          have hmem := pkE.at_mem hlt
          obtain ⟨x, hx⟩ : ∃ x, pkE.at c.packets i = x := ⟨_, rfl⟩
          rw [hx] at ld hmem
          have hs1 := fn150 x (o4 _ hmem)
          by_cases hq : pfB x c.faces = true
          · have hn := any_none pkE hlt hb (by rw [hx]; simp [hq])
            obtain ⟨⟨g1, g2⟩, g3⟩ : (0 ≤ x.face ∧ x.face < (c.faces.length : Int)) ∧ pkB x (fcE.at c.faces x.face.toNat).snap = true := by simpa [pfB] using hq
            have n2 : ¬ x.face < 0 := by omega
            have n3 : ¬ (c.faces.length : Int) ≤ x.face := by omega
            have l2 := fun H => ldF2 (H := H) (l := c.faces) (i := x.face.toNat) (by omega)
            simp (disch := first | rfl | omega | exact lt_new _ | assumption | decide | (simp [tk_here, tk_app, tk_0, tk_S, gr_here, gr_app, gr_0, gr_S] <;> omega) | fail) only [l113_30, r113_25, r113_26, r113_27, r113_29, loadV_ptr, storeV_ptr, List.append_assoc, List.length_append, List.length_cons, List.length_nil, List.set_cons_zero, List.set_cons_succ, tk_here, tk_app, gr_here, gr_app, st_here, st_app, t1, tt, hlt', ld, hs1, g3, n2, n3, g1, g2, l2, go_sem, ↓reduceIte, Nat.reduceLT, Nat.reduceEqDiff, Nat.reduceAdd, Nat.reduceMul, Nat.reduceSub, Int.reduceAdd, Int.reduceSub, Nat.reduceLeDiff, Int.reduceLT, Int.reduceLE, Int.reduceEq, Int.reduceNeg, Int.reduceToNat]
            repeat' ((first | refine guardB_dec (fun hy => ?_) (fun hy => ?_) | refine guardB_bool (fun hy => ?_) (fun hy => ?_) | refine guardQ_ite (fun hy => ?_) (fun hy => ?_) | refine brQ_dec (fun hy => ?_) (fun hy => ?_) | refine brQ_bool (fun hy => ?_) (fun hy => ?_)) <;> (try simp only [Bool.not_eq_true', Bool.not_eq_false', Bool.and_eq_true, Bool.or_eq_false_iff, decide_eq_true_eq, decide_eq_false_iff_not] at hy) <;> simp (disch := first | rfl | omega | exact lt_new _ | assumption | decide | (simp [tk_here, tk_app, tk_0, tk_S, gr_here, gr_app, gr_0, gr_S] <;> omega) | fail) only [l113_30, r113_25, r113_26, r113_27, r113_29, loadV_ptr, storeV_ptr, List.append_assoc, List.length_append, List.length_cons, List.length_nil, List.set_cons_zero, List.set_cons_succ, tk_here, tk_app, gr_here, gr_app, st_here, st_app, t1, tt, hlt', ld, hs1, g3, n2, n3, g1, g2, l2, go_sem, ↓reduceIte, Nat.reduceLT, Nat.reduceEqDiff, Nat.reduceAdd, Nat.reduceMul, Nat.reduceSub, Int.reduceAdd, Int.reduceSub, Nat.reduceLeDiff, Int.reduceLT, Int.reduceLE, Int.reduceEq, Int.reduceNeg, Int.reduceToNat, hy])
            exact ⟨_, by omega, i + 1, _, rfl, hlt, rfl, rfl, hn⟩
          · have hW : wrongB c = true := by unfold wrongB; rw [any_mem pkE (q := fun x => !pfB x c.faces) hlt (by rw [hx]; simp [hq])]; simp
            have n5 : ∀ (_ : ¬ x.face < 0) (_ : ¬ (c.faces.length : Int) ≤ x.face), pkB x (fcE.at c.faces x.face.toNat).snap = false := fun a b => by
              cases e : pkB x (fcE.at c.faces x.face.toNat).snap with
              | false => rfl
              | true => exact absurd (by simp [pfB, e]; omega) hq
            have l2 := fun H (a : ¬ x.face < 0) (b : ¬ (c.faces.length : Int) ≤ x.face) => ldF2 (H := H) (l := c.faces) (i := x.face.toNat) (by omega)
            simp (disch := first | rfl | omega | exact lt_new _ | assumption | decide | (simp [tk_here, tk_app, tk_0, tk_S, gr_here, gr_app, gr_0, gr_S] <;> omega) | fail) only [l113_30, r113_25, r113_26, r113_27, r113_29, r113_28, rs113, gc113, loadV_ptr, storeV_ptr, List.append_assoc, List.length_append, List.length_cons, List.length_nil, List.set_cons_zero, List.set_cons_succ, tk_here, tk_app, gr_here, gr_app, st_here, st_app, t1, tt, hlt', ld, hs1, n5, l2, go_sem, ↓reduceIte, Nat.reduceLT, Nat.reduceEqDiff, Nat.reduceAdd, Nat.reduceMul, Nat.reduceSub, Int.reduceAdd, Int.reduceSub, Nat.reduceLeDiff, Int.reduceLT, Int.reduceLE, Int.reduceEq, Int.reduceNeg, Int.reduceToNat]
            repeat' ((first | refine guardB_dec (fun hy => ?_) (fun hy => ?_) | refine guardB_bool (fun hy => ?_) (fun hy => ?_) | refine guardQ_ite (fun hy => ?_) (fun hy => ?_) | refine brQ_dec (fun hy => ?_) (fun hy => ?_) | refine brQ_bool (fun hy => ?_) (fun hy => ?_)) <;> (try simp only [Bool.not_eq_true', Bool.not_eq_false', Bool.and_eq_true, Bool.or_eq_false_iff, decide_eq_true_eq, decide_eq_false_iff_not] at hy) <;> simp (disch := first | rfl | omega | exact lt_new _ | assumption | decide | (simp [tk_here, tk_app, tk_0, tk_S, gr_here, gr_app, gr_0, gr_S] <;> omega) | fail) only [l113_30, r113_25, r113_26, r113_27, r113_29, r113_28, rs113, gc113, loadV_ptr, storeV_ptr, List.append_assoc, List.length_append, List.length_cons, List.length_nil, List.set_cons_zero, List.set_cons_succ, tk_here, tk_app, gr_here, gr_app, st_here, st_app, t1, tt, hlt', ld, hs1, n5, l2, go_sem, ↓reduceIte, Nat.reduceLT, Nat.reduceEqDiff, Nat.reduceAdd, Nat.reduceMul, Nat.reduceSub, Int.reduceAdd, Int.reduceSub, Nat.reduceLeDiff, Int.reduceLT, Int.reduceLE, Int.reduceEq, Int.reduceNeg, Int.reduceToNat, hy])
            all_goals (refine finQ_app ?_; simp (disch := first | rfl | omega | exact lt_new _ | assumption | decide | (simp [tk_here, tk_app, tk_0, tk_S, gr_here, gr_app, gr_0, gr_S] <;> omega) | fail) only [go_sem, ↓reduceIte, Nat.reduceLT, Nat.reduceEqDiff, Nat.reduceAdd, Nat.reduceMul, Nat.reduceSub, Int.reduceAdd, Int.reduceSub, Nat.reduceLeDiff, Int.reduceLT, Int.reduceLE, Int.reduceEq, Int.reduceNeg, Int.reduceToNat, hW])
        · obtain rfl : i = c.packets.length := by omega
          rw [List.take_length] at hb
          have hW : wrongB c = false := by
            have hz : ¬ (c.faces.length : Int) = 0 := by omega
            unfold wrongB
            rw [decide_eq_false hz, h1, hb0, hb1, hb2, hb]; rfl
          simp (disch := first | rfl | omega | exact lt_new _ | assumption | decide | (simp [tk_here, tk_app, tk_0, tk_S, gr_here, gr_app, gr_0, gr_S] <;> omega) | fail) only [l113_30, r113_25, r113_31, rs113, gc113, loadV_ptr, storeV_ptr, List.append_assoc, List.length_append, List.length_cons, List.length_nil, List.set_cons_zero, List.set_cons_succ, tk_here, tk_app, gr_here, gr_app, st_here, st_app, t1, tt, Int.lt_irrefl, go_sem, ↓reduceIte, Nat.reduceLT, Nat.reduceEqDiff, Nat.reduceAdd, Nat.reduceMul, Nat.reduceSub, Int.reduceAdd, Int.reduceSub, Nat.reduceLeDiff, Int.reduceLT, Int.reduceLE, Int.reduceEq, Int.reduceNeg, Int.reduceToNat]
          repeat' ((first | refine guardB_dec (fun hy => ?_) (fun hy => ?_) | refine guardB_bool (fun hy => ?_) (fun hy => ?_) | refine guardQ_ite (fun hy => ?_) (fun hy => ?_) | refine brQ_dec (fun hy => ?_) (fun hy => ?_) | refine brQ_bool (fun hy => ?_) (fun hy => ?_)) <;> (try simp only [Bool.not_eq_true', Bool.not_eq_false', Bool.and_eq_true, Bool.or_eq_false_iff, decide_eq_true_eq, decide_eq_false_iff_not] at hy) <;> simp (disch := first | rfl | omega | exact lt_new _ | assumption | decide | (simp [tk_here, tk_app, tk_0, tk_S, gr_here, gr_app, gr_0, gr_S] <;> omega) | fail) only [l113_30, r113_25, r113_31, rs113, gc113, loadV_ptr, storeV_ptr, List.append_assoc, List.length_append, List.length_cons, List.length_nil, List.set_cons_zero, List.set_cons_succ, tk_here, tk_app, gr_here, gr_app, st_here, st_app, t1, tt, Int.lt_irrefl, go_sem, ↓reduceIte, Nat.reduceLT, Nat.reduceEqDiff, Nat.reduceAdd, Nat.reduceMul, Nat.reduceSub, Int.reduceAdd, Int.reduceSub, Nat.reduceLeDiff, Int.reduceLT, Int.reduceLE, Int.reduceEq, Int.reduceNeg, Int.reduceToNat, hy])
          refine finQ_app ?_
          simp (disch := first | rfl | omega | exact lt_new _ | assumption | decide | (simp [tk_here, tk_app, tk_0, tk_S, gr_here, gr_app, gr_0, gr_S] <;> omega) | fail) only [go_sem, ↓reduceIte, Nat.reduceLT, Nat.reduceEqDiff, Nat.reduceAdd, Nat.reduceMul, Nat.reduceSub, Int.reduceAdd, Int.reduceSub, Nat.reduceLeDiff, Int.reduceLT, Int.reduceLE, Int.reduceEq, Int.reduceNeg, Int.reduceToNat, hW]
theorem fn63 (c : Cp) (hc : CpOk c) (H : Hp) : callL Try.prog pr 63 [.agg (cpE.f c)] H = some (.int .i64 (valE c), H) := by
  have h113 := fn113 c hc
  refine pur_eq rfl rfl (by simp [go_sem]) rfl ?_
  clear H
  intro H
  refine run63 (Nat.le_of_ble_eq_true rfl) ?_
  unfold valE
  by_cases hL : largeB c = true
  · rw [if_pos hL]
    unfold largeB at hL
    simp only [Bool.or_eq_true, decide_eq_true_eq] at hL
    simp (disch := first | rfl | omega | exact lt_new _ | assumption | decide | (simp [tk_here, tk_app, tk_0, tk_S, gr_here, gr_app, gr_0, gr_S] <;> omega) | fail) only [r63_0, r63_1, r63_2, r63_3, r63_4, r63_5, c63, rs63, gc63, loadV_ptr, storeV_ptr, List.append_assoc, List.length_append, List.length_cons, List.length_nil, List.set_cons_zero, List.set_cons_succ, tk_here, tk_app, gr_here, gr_app, st_here, st_app, h113, go_sem, ↓reduceIte, Nat.reduceLT, Nat.reduceEqDiff, Nat.reduceAdd, Nat.reduceMul, Nat.reduceSub, Int.reduceAdd, Int.reduceSub, Nat.reduceLeDiff, Int.reduceLT, Int.reduceLE, Int.reduceEq, Int.reduceNeg, Int.reduceToNat]
    repeat' ((first | refine guardB_dec (fun hy => ?_) (fun hy => ?_) | refine guardB_bool (fun hy => ?_) (fun hy => ?_) | refine guardQ_ite (fun hy => ?_) (fun hy => ?_) | refine brQ_dec (fun hy => ?_) (fun hy => ?_) | refine brQ_bool (fun hy => ?_) (fun hy => ?_)) <;> (try simp only [Bool.not_eq_true', Bool.not_eq_false', Bool.and_eq_true, Bool.or_eq_false_iff, decide_eq_true_eq, decide_eq_false_iff_not] at hy) <;> simp (disch := first | rfl | omega | exact lt_new _ | assumption | decide | (simp [tk_here, tk_app, tk_0, tk_S, gr_here, gr_app, gr_0, gr_S] <;> omega) | fail) only [r63_0, r63_1, r63_2, r63_3, r63_4, r63_5, c63, rs63, gc63, loadV_ptr, storeV_ptr, List.append_assoc, List.length_append, List.length_cons, List.length_nil, List.set_cons_zero, List.set_cons_succ, tk_here, tk_app, gr_here, gr_app, st_here, st_app, h113, go_sem, ↓reduceIte, Nat.reduceLT, Nat.reduceEqDiff, Nat.reduceAdd, Nat.reduceMul, Nat.reduceSub, Int.reduceAdd, Int.reduceSub, Nat.reduceLeDiff, Int.reduceLT, Int.reduceLE, Int.reduceEq, Int.reduceNeg, Int.reduceToNat, hy])
    all_goals first | (refine finQ_app ?_; simp (disch := first | rfl | omega | exact lt_new _ | assumption | decide | (simp [tk_here, tk_app, tk_0, tk_S, gr_here, gr_app, gr_0, gr_S] <;> omega) | fail) only [go_sem, ↓reduceIte, Nat.reduceLT, Nat.reduceEqDiff, Nat.reduceAdd, Nat.reduceMul, Nat.reduceSub, Int.reduceAdd, Int.reduceSub, Nat.reduceLeDiff, Int.reduceLT, Int.reduceLE, Int.reduceEq, Int.reduceNeg, Int.reduceToNat]; done) | omega
  · rw [if_neg hL]
    unfold largeB at hL
    simp only [Bool.or_eq_true, decide_eq_true_eq, not_or] at hL
    obtain ⟨⟨⟨q1, q2⟩, q3⟩, q4⟩ := hL
    cases hw : wrongB c
    all_goals
      simp (disch := first | rfl | omega | exact lt_new _ | assumption | decide | (simp [tk_here, tk_app, tk_0, tk_S, gr_here, gr_app, gr_0, gr_S] <;> omega) | fail) only [r63_0, r63_1, r63_2, r63_3, r63_4, r63_5, c63, rs63, gc63, loadV_ptr, storeV_ptr, List.append_assoc, List.length_append, List.length_cons, List.length_nil, List.set_cons_zero, List.set_cons_succ, tk_here, tk_app, gr_here, gr_app, st_here, st_app, q1, q2, q3, q4, h113, hw, go_sem, ↓reduceIte, Nat.reduceLT, Nat.reduceEqDiff, Nat.reduceAdd, Nat.reduceMul, Nat.reduceSub, Int.reduceAdd, Int.reduceSub, Nat.reduceLeDiff, Int.reduceLT, Int.reduceLE, Int.reduceEq, Int.reduceNeg, Int.reduceToNat]
      repeat' ((first | refine guardB_dec (fun hy => ?_) (fun hy => ?_) | refine guardB_bool (fun hy => ?_) (fun hy => ?_) | refine guardQ_ite (fun hy => ?_) (fun hy => ?_) | refine brQ_dec (fun hy => ?_) (fun hy => ?_) | refine brQ_bool (fun hy => ?_) (fun hy => ?_)) <;> (try simp only [Bool.not_eq_true', Bool.not_eq_false', Bool.and_eq_true, Bool.or_eq_false_iff, decide_eq_true_eq, decide_eq_false_iff_not] at hy) <;> simp (disch := first | rfl | omega | exact lt_new _ | assumption | decide | (simp [tk_here, tk_app, tk_0, tk_S, gr_here, gr_app, gr_0, gr_S] <;> omega) | fail) only [r63_0, r63_1, r63_2, r63_3, r63_4, r63_5, c63, rs63, gc63, loadV_ptr, storeV_ptr, List.append_assoc, List.length_append, List.length_cons, List.length_nil, List.set_cons_zero, List.set_cons_succ, tk_here, tk_app, gr_here, gr_app, st_here, st_app, q1, q2, q3, q4, h113, hw, go_sem, ↓reduceIte, Nat.reduceLT, Nat.reduceEqDiff, Nat.reduceAdd, Nat.reduceMul, Nat.reduceSub, Int.reduceAdd, Int.reduceSub, Nat.reduceLeDiff, Int.reduceLT, Int.reduceLE, Int.reduceEq, Int.reduceNeg, Int.reduceToNat, hy])
      refine finQ_app ?_
      simp (disch := first | rfl | omega | exact lt_new _ | assumption | decide | (simp [tk_here, tk_app, tk_0, tk_S, gr_here, gr_app, gr_0, gr_S] <;> omega) | fail) only [go_sem, ↓reduceIte, Nat.reduceLT, Nat.reduceEqDiff, Nat.reduceAdd, Nat.reduceMul, Nat.reduceSub, Int.reduceAdd, Int.reduceSub, Nat.reduceLeDiff, Int.reduceLT, Int.reduceLE, Int.reduceEq, Int.reduceNeg, Int.reduceToNat]
end Go.Proofs.Ytejkgnmjdaohdaa
/-
  How much captures weigh, and whether captures are equal, for the reference; walked. No statement of the seat stands here.
-/
namespace Go.Proofs.Ytejkgnmjdaohdaa
open Go Go.An
set_option maxRecDepth 4000
set_option linter.unusedSimpArgs false
set_option linter.unusedVariables false

theorem fn21 (c : Cp) (hc : CpOk c) (H : Hp) : ∃ n, callL Try.prog pr 21 [.agg (cpE.f c)] H = some (.int .i64 n, H) := by
  suffices h : ∃ r, callL Try.prog pr 21 [.agg (cpE.f c)] H = some r ∧ ∃ n, r = (.int .i64 n, H) by
    obtain ⟨r, h1, n, rfl⟩ := h; exact ⟨n, h1⟩
  obtain ⟨o0, o1, o1l, o2, o2l, o3, o3l, o4, o4l⟩ := hc
  refine ex21 (Nat.le_of_ble_eq_true rfl) ?_
  simp (disch := first | rfl | omega | exact lt_new _ | assumption | decide | (simp [tk_here, tk_app, tk_0, tk_S, gr_here, gr_app, gr_0, gr_S] <;> omega) | fail) only [r21_0, r21_1, r21_2, c21, loadV_ptr, storeV_ptr, List.append_assoc, List.length_append, List.length_cons, List.length_nil, List.set_cons_zero, List.set_cons_succ, tk_here, tk_app, gr_here, gr_app, st_here, st_app, go_sem, ↓reduceIte, Nat.reduceLT, Nat.reduceEqDiff, Nat.reduceAdd, Nat.reduceMul, Nat.reduceSub, Int.reduceAdd, Int.reduceSub, Nat.reduceLeDiff, Int.reduceLT, Int.reduceLE, Int.reduceEq, Int.reduceNeg, Int.reduceToNat]
  refine Wp_loop (fun m T D H' => ∃ i n, m = c.faces.length - i ∧ i ≤ c.faces.length ∧ D = [] ∧ H' = H ++ [.row 0 (cpE.f c) true] ∧ get T 1 = .ptr H.length 0 0 ∧ get T 4 = .int .i64 i ∧ get T 3 = .int .i64 n) ?_ c.faces.length _ _ _ ?_
  case refine_2 => exact ⟨0, _, by simp (disch := first | rfl | omega | exact lt_new _ | assumption | decide | (simp [tk_here, tk_app, tk_0, tk_S, gr_here, gr_app, gr_0, gr_S] <;> omega) | fail) only [go_sem, ↓reduceIte, Nat.reduceLT, Nat.reduceEqDiff, Nat.reduceAdd, Nat.reduceMul, Nat.reduceSub, Int.reduceAdd, Int.reduceSub, Nat.reduceLeDiff, Int.reduceLT, Int.reduceLE, Int.reduceEq, Int.reduceNeg, Int.reduceToNat]; simp; rfl⟩
  rintro m T D H' ⟨i, n, rfl, hi, rfl, rfl, t1, ti, t3⟩
  by_cases hlt : i < c.faces.length
  · have hlt' : (i : Int) < c.faces.length := by omega
    have q1 := (o1 _ (fcE.at_mem hlt)).1
    simp (disch := first | rfl | omega | exact lt_new _ | assumption | decide | (simp [tk_here, tk_app, tk_0, tk_S, gr_here, gr_app, gr_0, gr_S] <;> omega) | fail) only [l21_6, r21_3, r21_4, r21_5, loadV_ptr, storeV_ptr, List.append_assoc, List.length_append, List.length_cons, List.length_nil, List.set_cons_zero, List.set_cons_succ, tk_here, tk_app, gr_here, gr_app, st_here, st_app, t1, ti, t3, hlt', go_sem, ↓reduceIte, Nat.reduceLT, Nat.reduceEqDiff, Nat.reduceAdd, Nat.reduceMul, Nat.reduceSub, Int.reduceAdd, Int.reduceSub, Nat.reduceLeDiff, Int.reduceLT, Int.reduceLE, Int.reduceEq, Int.reduceNeg, Int.reduceToNat]
    exact ⟨_, by omega, i + 1, _, rfl, hlt, rfl, rfl⟩
  · obtain rfl : i = c.faces.length := by omega
    simp (disch := first | rfl | omega | exact lt_new _ | assumption | decide | (simp [tk_here, tk_app, tk_0, tk_S, gr_here, gr_app, gr_0, gr_S] <;> omega) | fail) only [l21_6, r21_3, r21_7, loadV_ptr, storeV_ptr, List.append_assoc, List.length_append, List.length_cons, List.length_nil, List.set_cons_zero, List.set_cons_succ, tk_here, tk_app, gr_here, gr_app, st_here, st_app, t1, ti, t3, Int.lt_irrefl, go_sem, ↓reduceIte, Nat.reduceLT, Nat.reduceEqDiff, Nat.reduceAdd, Nat.reduceMul, Nat.reduceSub, Int.reduceAdd, Int.reduceSub, Nat.reduceLeDiff, Int.reduceLT, Int.reduceLE, Int.reduceEq, Int.reduceNeg, Int.reduceToNat]
    refine Wp_loop (fun m T D H' => ∃ i n, m = c.names.length - i ∧ i ≤ c.names.length ∧ D = [] ∧ H' = H ++ [.row 0 (cpE.f c) true] ∧ get T 1 = .ptr H.length 0 0 ∧ get T 5 = .int .i64 i ∧ get T 3 = .int .i64 n) ?_ c.names.length _ _ _ ?_
    case refine_2 => exact ⟨0, _, by simp (disch := first | rfl | omega | exact lt_new _ | assumption | decide | (simp [tk_here, tk_app, tk_0, tk_S, gr_here, gr_app, gr_0, gr_S] <;> omega) | fail) only [go_sem, ↓reduceIte, Nat.reduceLT, Nat.reduceEqDiff, Nat.reduceAdd, Nat.reduceMul, Nat.reduceSub, Int.reduceAdd, Int.reduceSub, Nat.reduceLeDiff, Int.reduceLT, Int.reduceLE, Int.reduceEq, Int.reduceNeg, Int.reduceToNat, t1, t3]; simp; rfl⟩
    clear t1 t3 ti
    rintro m T D H' ⟨i, n, rfl, hi, rfl, rfl, t1, ti, t3⟩
    by_cases hlt : i < c.names.length
    · have hlt' : (i : Int) < c.names.length := by omega
      have q1 := o2 _ (nmE.at_mem hlt)
      have q2 := q1.2
      simp (disch := first | rfl | omega | exact lt_new _ | assumption | decide | (simp [tk_here, tk_app, tk_0, tk_S, gr_here, gr_app, gr_0, gr_S] <;> omega) | fail) only [l21_11, r21_8, r21_9, r21_10, loadV_ptr, storeV_ptr, List.append_assoc, List.length_append, List.length_cons, List.length_nil, List.set_cons_zero, List.set_cons_succ, tk_here, tk_app, gr_here, gr_app, st_here, st_app, t1, ti, t3, hlt', go_sem, ↓reduceIte, Nat.reduceLT, Nat.reduceEqDiff, Nat.reduceAdd, Nat.reduceMul, Nat.reduceSub, Int.reduceAdd, Int.reduceSub, Nat.reduceLeDiff, Int.reduceLT, Int.reduceLE, Int.reduceEq, Int.reduceNeg, Int.reduceToNat]
      exact ⟨_, by omega, i + 1, _, rfl, hlt, rfl, rfl⟩
    · obtain rfl : i = c.names.length := by omega
      simp (disch := first | rfl | omega | exact lt_new _ | assumption | decide | (simp [tk_here, tk_app, tk_0, tk_S, gr_here, gr_app, gr_0, gr_S] <;> omega) | fail) only [l21_11, r21_8, r21_12, loadV_ptr, storeV_ptr, List.append_assoc, List.length_append, List.length_cons, List.length_nil, List.set_cons_zero, List.set_cons_succ, tk_here, tk_app, gr_here, gr_app, st_here, st_app, t1, ti, t3, Int.lt_irrefl, go_sem, ↓reduceIte, Nat.reduceLT, Nat.reduceEqDiff, Nat.reduceAdd, Nat.reduceMul, Nat.reduceSub, Int.reduceAdd, Int.reduceSub, Nat.reduceLeDiff, Int.reduceLT, Int.reduceLE, Int.reduceEq, Int.reduceNeg, Int.reduceToNat]
      refine Wp_loop (fun m T D H' => ∃ i n, m = c.secrets.length - i ∧ i ≤ c.secrets.length ∧ D = [] ∧ H' = H ++ [.row 0 (cpE.f c) true] ∧ get T 1 = .ptr H.length 0 0 ∧ get T 6 = .int .i64 i ∧ get T 3 = .int .i64 n) ?_ c.secrets.length _ _ _ ?_
      case refine_2 => exact ⟨0, _, by simp (disch := first | rfl | omega | exact lt_new _ | assumption | decide | (simp [tk_here, tk_app, tk_0, tk_S, gr_here, gr_app, gr_0, gr_S] <;> omega) | fail) only [go_sem, ↓reduceIte, Nat.reduceLT, Nat.reduceEqDiff, Nat.reduceAdd, Nat.reduceMul, Nat.reduceSub, Int.reduceAdd, Int.reduceSub, Nat.reduceLeDiff, Int.reduceLT, Int.reduceLE, Int.reduceEq, Int.reduceNeg, Int.reduceToNat, t1, t3]; simp; rfl⟩
      clear t1 t3 ti
      rintro m T D H' ⟨i, n, rfl, hi, rfl, rfl, t1, ti, t3⟩
      by_cases hlt : i < c.secrets.length
      · have hlt' : (i : Int) < c.secrets.length := by omega
        have q1 := (o3 _ (scE.at_mem hlt)).1
        simp (disch := first | rfl | omega | exact lt_new _ | assumption | decide | (simp [tk_here, tk_app, tk_0, tk_S, gr_here, gr_app, gr_0, gr_S] <;> omega) | fail) only [l21_16, r21_13, r21_14, r21_15, loadV_ptr, storeV_ptr, List.append_assoc, List.length_append, List.length_cons, List.length_nil, List.set_cons_zero, List.set_cons_succ, tk_here, tk_app, gr_here, gr_app, st_here, st_app, t1, ti, t3, hlt', go_sem, ↓reduceIte, Nat.reduceLT, Nat.reduceEqDiff, Nat.reduceAdd, Nat.reduceMul, Nat.reduceSub, Int.reduceAdd, Int.reduceSub, Nat.reduceLeDiff, Int.reduceLT, Int.reduceLE, Int.reduceEq, Int.reduceNeg, Int.reduceToNat]
        exact ⟨_, by omega, i + 1, _, rfl, hlt, rfl, rfl⟩
      · obtain rfl : i = c.secrets.length := by omega
        simp (disch := first | rfl | omega | exact lt_new _ | assumption | decide | (simp [tk_here, tk_app, tk_0, tk_S, gr_here, gr_app, gr_0, gr_S] <;> omega) | fail) only [l21_16, r21_13, r21_17, loadV_ptr, storeV_ptr, List.append_assoc, List.length_append, List.length_cons, List.length_nil, List.set_cons_zero, List.set_cons_succ, tk_here, tk_app, gr_here, gr_app, st_here, st_app, t1, ti, t3, Int.lt_irrefl, go_sem, ↓reduceIte, Nat.reduceLT, Nat.reduceEqDiff, Nat.reduceAdd, Nat.reduceMul, Nat.reduceSub, Int.reduceAdd, Int.reduceSub, Nat.reduceLeDiff, Int.reduceLT, Int.reduceLE, Int.reduceEq, Int.reduceNeg, Int.reduceToNat]
        refine Wp_loop (fun m T D H' => ∃ i n, m = c.packets.length - i ∧ i ≤ c.packets.length ∧ D = [] ∧ H' = H ++ [.row 0 (cpE.f c) true] ∧ get T 1 = .ptr H.length 0 0 ∧ get T 7 = .int .i64 i ∧ get T 3 = .int .i64 n) ?_ c.packets.length _ _ _ ?_
        case refine_2 => exact ⟨0, _, by simp (disch := first | rfl | omega | exact lt_new _ | assumption | decide | (simp [tk_here, tk_app, tk_0, tk_S, gr_here, gr_app, gr_0, gr_S] <;> omega) | fail) only [go_sem, ↓reduceIte, Nat.reduceLT, Nat.reduceEqDiff, Nat.reduceAdd, Nat.reduceMul, Nat.reduceSub, Int.reduceAdd, Int.reduceSub, Nat.reduceLeDiff, Int.reduceLT, Int.reduceLE, Int.reduceEq, Int.reduceNeg, Int.reduceToNat, t1, t3]; simp; rfl⟩
        clear t1 t3 ti
        rintro m T D H' ⟨i, n, rfl, hi, rfl, rfl, t1, ti, t3⟩
        by_cases hlt : i < c.packets.length
        · have hlt' : (i : Int) < c.packets.length := by omega
          have q1 := (o4 _ (pkE.at_mem hlt)).2.2.2.2
          simp (disch := first | rfl | omega | exact lt_new _ | assumption | decide | (simp [tk_here, tk_app, tk_0, tk_S, gr_here, gr_app, gr_0, gr_S] <;> omega) | fail) only [l21_21, r21_18, r21_19, r21_20, loadV_ptr, storeV_ptr, List.append_assoc, List.length_append, List.length_cons, List.length_nil, List.set_cons_zero, List.set_cons_succ, tk_here, tk_app, gr_here, gr_app, st_here, st_app, t1, ti, t3, hlt', go_sem, ↓reduceIte, Nat.reduceLT, Nat.reduceEqDiff, Nat.reduceAdd, Nat.reduceMul, Nat.reduceSub, Int.reduceAdd, Int.reduceSub, Nat.reduceLeDiff, Int.reduceLT, Int.reduceLE, Int.reduceEq, Int.reduceNeg, Int.reduceToNat]
          exact ⟨_, by omega, i + 1, _, rfl, hlt, rfl, rfl⟩
        · obtain rfl : i = c.packets.length := by omega
          simp (disch := first | rfl | omega | exact lt_new _ | assumption | decide | (simp [tk_here, tk_app, tk_0, tk_S, gr_here, gr_app, gr_0, gr_S] <;> omega) | fail) only [l21_21, r21_18, r21_22, rs21, gc21, loadV_ptr, storeV_ptr, List.append_assoc, List.length_append, List.length_cons, List.length_nil, List.set_cons_zero, List.set_cons_succ, tk_here, tk_app, gr_here, gr_app, st_here, st_app, t1, ti, t3, Int.lt_irrefl, go_sem, ↓reduceIte, Nat.reduceLT, Nat.reduceEqDiff, Nat.reduceAdd, Nat.reduceMul, Nat.reduceSub, Int.reduceAdd, Int.reduceSub, Nat.reduceLeDiff, Int.reduceLT, Int.reduceLE, Int.reduceEq, Int.reduceNeg, Int.reduceToNat]
          exact ⟨n, finQ_app (by simp (disch := first | rfl | omega | exact lt_new _ | assumption | decide | (simp [tk_here, tk_app, tk_0, tk_S, gr_here, gr_app, gr_0, gr_S] <;> omega) | fail) only [go_sem, ↓reduceIte, Nat.reduceLT, Nat.reduceEqDiff, Nat.reduceAdd, Nat.reduceMul, Nat.reduceSub, Int.reduceAdd, Int.reduceSub, Nat.reduceLeDiff, Int.reduceLT, Int.reduceLE, Int.reduceEq, Int.reduceNeg, Int.reduceToNat])⟩
theorem fn64 {b b' : Bool} {l l' : List UInt8} (H : Hp) : callL Try.prog pr 64 [slV b byE l, slV b' byE l'] H = some (.bool (decide (l = l')), H) := by
  refine run64 (Nat.le_of_ble_eq_true rfl) ?_
  simp (disch := first | rfl | omega | exact lt_new _ | assumption | decide | (simp [tk_here, tk_app, tk_0, tk_S, gr_here, gr_app, gr_0, gr_S] <;> omega) | fail) only [r64_0, r64_1, c64, rs64, gc64, go_sem, ↓reduceIte, Nat.reduceLT, Nat.reduceEqDiff, Nat.reduceAdd, Nat.reduceMul, Nat.reduceSub, Int.reduceAdd, Int.reduceSub, Nat.reduceLeDiff, Int.reduceLT, Int.reduceLE, Int.reduceEq, Int.reduceNeg, Int.reduceToNat]
  repeat' ((first | refine guardB_dec (fun hy => ?_) (fun hy => ?_) | refine guardB_bool (fun hy => ?_) (fun hy => ?_) | refine guardQ_ite (fun hy => ?_) (fun hy => ?_) | refine brQ_dec (fun hy => ?_) (fun hy => ?_) | refine brQ_bool (fun hy => ?_) (fun hy => ?_)) <;> (try simp only [Bool.not_eq_true', Bool.not_eq_false', Bool.and_eq_true, Bool.or_eq_false_iff, decide_eq_true_eq, decide_eq_false_iff_not] at hy) <;> simp (disch := first | rfl | omega | exact lt_new _ | assumption | decide | (simp [tk_here, tk_app, tk_0, tk_S, gr_here, gr_app, gr_0, gr_S] <;> omega) | fail) only [r64_0, r64_1, c64, rs64, gc64, go_sem, ↓reduceIte, Nat.reduceLT, Nat.reduceEqDiff, Nat.reduceAdd, Nat.reduceMul, Nat.reduceSub, Int.reduceAdd, Int.reduceSub, Nat.reduceLeDiff, Int.reduceLT, Int.reduceLE, Int.reduceEq, Int.reduceNeg, Int.reduceToNat, hy])
  all_goals (try ((first | refine finQ_same ?_ | refine finQ_app ?_ | (rw [List.append_assoc]; refine finQ_app ?_)) <;> simp (disch := first | rfl | omega | exact lt_new _ | assumption | decide | (simp [tk_here, tk_app, tk_0, tk_S, gr_here, gr_app, gr_0, gr_S] <;> omega) | fail) only [go_sem, ↓reduceIte, Nat.reduceLT, Nat.reduceEqDiff, Nat.reduceAdd, Nat.reduceMul, Nat.reduceSub, Int.reduceAdd, Int.reduceSub, Nat.reduceLeDiff, Int.reduceLT, Int.reduceLE, Int.reduceEq, Int.reduceNeg, Int.reduceToNat, List.append_assoc, List.cons_append, List.nil_append, *]))
  all_goals (try first | rfl | (simp [*]; done) | grind)
def pkS (p q : Pk) : Bool := decide (p.time = q.time) && decide (p.face = q.face) && decide (p.real = q.real) && decide (p.note = q.note) && decide (p.data = q.data)
def nmS (p q : Nm) : Bool := decide (p.text = q.text) && decide (p.addr = q.addr)
def scS (p q : Sc) : Bool := decide (p.label = q.label) && decide (p.key = q.key)
def fcS (p q : Fc) : Bool := decide (p = q)
def sameB (c d : Cp) : Bool := decide (c.note = d.note) && sameL fcS c.faces d.faces && sameL nmS c.names d.names && sameL scS c.secrets d.secrets && sameL pkS c.packets d.packets
theorem fn65 (p q : Pk) (H : Hp) : callL Try.prog pr 65 [.agg (pkE.f p), .agg (pkE.f q)] H = some (.bool (pkS p q), H) := by
  have h64 := fun H => fn64 (b := p.dataN) (b' := q.dataN) (l := p.data) (l' := q.data) H
  refine run65 (Nat.le_of_ble_eq_true rfl) ?_
  unfold pkS
  simp (disch := first | rfl | omega | exact lt_new _ | assumption | decide | (simp [tk_here, tk_app, tk_0, tk_S, gr_here, gr_app, gr_0, gr_S] <;> omega) | fail) only [r65_0, r65_1, c65, rs65, gc65, h64, go_sem, ↓reduceIte, Nat.reduceLT, Nat.reduceEqDiff, Nat.reduceAdd, Nat.reduceMul, Nat.reduceSub, Int.reduceAdd, Int.reduceSub, Nat.reduceLeDiff, Int.reduceLT, Int.reduceLE, Int.reduceEq, Int.reduceNeg, Int.reduceToNat]
  repeat' ((first | refine guardB_dec (fun hy => ?_) (fun hy => ?_) | refine guardB_bool (fun hy => ?_) (fun hy => ?_) | refine guardQ_ite (fun hy => ?_) (fun hy => ?_) | refine brQ_dec (fun hy => ?_) (fun hy => ?_) | refine brQ_bool (fun hy => ?_) (fun hy => ?_)) <;> (try simp only [Bool.not_eq_true', Bool.not_eq_false', Bool.and_eq_true, Bool.or_eq_false_iff, decide_eq_true_eq, decide_eq_false_iff_not] at hy) <;> simp (disch := first | rfl | omega | exact lt_new _ | assumption | decide | (simp [tk_here, tk_app, tk_0, tk_S, gr_here, gr_app, gr_0, gr_S] <;> omega) | fail) only [r65_0, r65_1, c65, rs65, gc65, h64, go_sem, ↓reduceIte, Nat.reduceLT, Nat.reduceEqDiff, Nat.reduceAdd, Nat.reduceMul, Nat.reduceSub, Int.reduceAdd, Int.reduceSub, Nat.reduceLeDiff, Int.reduceLT, Int.reduceLE, Int.reduceEq, Int.reduceNeg, Int.reduceToNat, hy])
  all_goals (try ((first | refine finQ_same ?_ | refine finQ_app ?_ | (rw [List.append_assoc]; refine finQ_app ?_)) <;> simp (disch := first | rfl | omega | exact lt_new _ | assumption | decide | (simp [tk_here, tk_app, tk_0, tk_S, gr_here, gr_app, gr_0, gr_S] <;> omega) | fail) only [go_sem, ↓reduceIte, Nat.reduceLT, Nat.reduceEqDiff, Nat.reduceAdd, Nat.reduceMul, Nat.reduceSub, Int.reduceAdd, Int.reduceSub, Nat.reduceLeDiff, Int.reduceLT, Int.reduceLE, Int.reduceEq, Int.reduceNeg, Int.reduceToNat, List.append_assoc, List.cons_append, List.nil_append, *]))
  all_goals (try first | rfl | (simp [*]; done) | grind)
@[go_sem] theorem ck_fcE (x : Fc) : ckOks [.str, .int .i64, .int .i64] (fcE.f x) = true := rfl
@[go_sem] theorem eq_fcE (x y : Fc) : eqCells (fcE.f x) (fcE.f y) = fcS x y := by
  obtain ⟨a, b, c⟩ := x
  obtain ⟨a', b', c'⟩ := y
  simp only [fcE_f, fcS, eqCells_cons, eqCells_nil, eqCell_str, eqCell_int, Fc.mk.injEq, Bool.decide_and, Bool.and_true]
def Fits (c : Cp) : Prop := c.faces.length ≤ 2 ^ 62 ∧ c.names.length ≤ 2 ^ 62 ∧ c.secrets.length ≤ 2 ^ 62 ∧ c.packets.length ≤ 2 ^ 62
theorem CpOk.fits {c : Cp} (h : CpOk c) : Fits c := by
  obtain ⟨o0, o1, o1l, o2, o2l, o3, o3l, o4, o4l⟩ := h
  exact ⟨by omega, by omega, by omega, by omega⟩
set_option maxHeartbeats 8000000 in
theorem fn18 (c d : Cp) (hF : Fits c) (H : Hp) : callL Try.prog pr 18 [.agg (cpE.f c), .agg (cpE.f d)] H = some (.bool (sameB c d), H) := by
  obtain ⟨f1, f2, f3, f4⟩ := hF
  refine pur_eq rfl rfl (by simp [go_sem]) rfl ?_
  clear H
  intro H
  refine run18 (Nat.le_of_ble_eq_true rfl) ?_
  by_cases hg : c.note = d.note ∧ (c.faces.length : Int) = d.faces.length ∧ (c.names.length : Int) = d.names.length ∧ (c.secrets.length : Int) = d.secrets.length ∧ (c.packets.length : Int) = d.packets.length
  case neg =>
    have hS : sameB c d = false := by
      unfold sameB
      by_cases h0 : c.note = d.note
      · by_cases h1 : c.faces.length = d.faces.length
        · by_cases h2 : c.names.length = d.names.length
          · by_cases h3 : c.secrets.length = d.secrets.length
            · rw [sameL_len (l := c.packets) (fun e => hg ⟨h0, by omega, by omega, by omega, by omega⟩)]; simp
            · rw [sameL_len (l := c.secrets) h3]; simp
          · rw [sameL_len (l := c.names) h2]; simp
        · rw [sameL_len (l := c.faces) h1]; simp
      · simp [h0]
    rw [hS]
    have g5 : c.note = d.note → (c.faces.length : Int) = d.faces.length → (c.names.length : Int) = d.names.length → (c.secrets.length : Int) = d.secrets.length → ¬ (c.packets.length : Int) = d.packets.length := fun a b e f g => hg ⟨a, b, e, f, g⟩
    simp (disch := first | rfl | omega | exact lt_new _ | assumption | decide | (simp [tk_here, tk_app, tk_0, tk_S, gr_here, gr_app, gr_0, gr_S] <;> omega) | fail) only [r18_0, r18_1, r18_2, c18, rs18, gc18, loadV_ptr, storeV_ptr, List.append_assoc, List.length_append, List.length_cons, List.length_nil, List.set_cons_zero, List.set_cons_succ, tk_here, tk_app, gr_here, gr_app, st_here, st_app, g5, go_sem, ↓reduceIte, Nat.reduceLT, Nat.reduceEqDiff, Nat.reduceAdd, Nat.reduceMul, Nat.reduceSub, Int.reduceAdd, Int.reduceSub, Nat.reduceLeDiff, Int.reduceLT, Int.reduceLE, Int.reduceEq, Int.reduceNeg, Int.reduceToNat]
    repeat' ((first | refine guardB_dec (fun hy => ?_) (fun hy => ?_) | refine guardB_bool (fun hy => ?_) (fun hy => ?_) | refine guardQ_ite (fun hy => ?_) (fun hy => ?_) | refine brQ_dec (fun hy => ?_) (fun hy => ?_) | refine brQ_bool (fun hy => ?_) (fun hy => ?_)) <;> (try simp only [Bool.not_eq_true', Bool.not_eq_false', Bool.and_eq_true, Bool.or_eq_false_iff, decide_eq_true_eq, decide_eq_false_iff_not] at hy) <;> simp (disch := first | rfl | omega | exact lt_new _ | assumption | decide | (simp [tk_here, tk_app, tk_0, tk_S, gr_here, gr_app, gr_0, gr_S] <;> omega) | fail) only [r18_0, r18_1, r18_2, c18, rs18, gc18, loadV_ptr, storeV_ptr, List.append_assoc, List.length_append, List.length_cons, List.length_nil, List.set_cons_zero, List.set_cons_succ, tk_here, tk_app, gr_here, gr_app, st_here, st_app, g5, go_sem, ↓reduceIte, Nat.reduceLT, Nat.reduceEqDiff, Nat.reduceAdd, Nat.reduceMul, Nat.reduceSub, Int.reduceAdd, Int.reduceSub, Nat.reduceLeDiff, Int.reduceLT, Int.reduceLE, Int.reduceEq, Int.reduceNeg, Int.reduceToNat, hy])
    all_goals (refine finQ_app ?_; simp (disch := first | rfl | omega | exact lt_new _ | assumption | decide | (simp [tk_here, tk_app, tk_0, tk_S, gr_here, gr_app, gr_0, gr_S] <;> omega) | fail) only [go_sem, ↓reduceIte, Nat.reduceLT, Nat.reduceEqDiff, Nat.reduceAdd, Nat.reduceMul, Nat.reduceSub, Int.reduceAdd, Int.reduceSub, Nat.reduceLeDiff, Int.reduceLT, Int.reduceLE, Int.reduceEq, Int.reduceNeg, Int.reduceToNat])
  obtain ⟨g1, g2, g3, g4, g5⟩ := hg
  simp (disch := first | rfl | omega | exact lt_new _ | assumption | decide | (simp [tk_here, tk_app, tk_0, tk_S, gr_here, gr_app, gr_0, gr_S] <;> omega) | fail) only [r18_0, r18_1, r18_3, c18, loadV_ptr, storeV_ptr, List.append_assoc, List.length_append, List.length_cons, List.length_nil, List.set_cons_zero, List.set_cons_succ, tk_here, tk_app, gr_here, gr_app, st_here, st_app, g1, g2, g3, g4, g5, go_sem, ↓reduceIte, Nat.reduceLT, Nat.reduceEqDiff, Nat.reduceAdd, Nat.reduceMul, Nat.reduceSub, Int.reduceAdd, Int.reduceSub, Nat.reduceLeDiff, Int.reduceLT, Int.reduceLE, Int.reduceEq, Int.reduceNeg, Int.reduceToNat]
  repeat' ((first | refine guardB_dec (fun hy => ?_) (fun hy => ?_) | refine guardB_bool (fun hy => ?_) (fun hy => ?_) | refine guardQ_ite (fun hy => ?_) (fun hy => ?_) | refine brQ_dec (fun hy => ?_) (fun hy => ?_) | refine brQ_bool (fun hy => ?_) (fun hy => ?_)) <;> (try simp only [Bool.not_eq_true', Bool.not_eq_false', Bool.and_eq_true, Bool.or_eq_false_iff, decide_eq_true_eq, decide_eq_false_iff_not] at hy) <;> simp (disch := first | rfl | omega | exact lt_new _ | assumption | decide | (simp [tk_here, tk_app, tk_0, tk_S, gr_here, gr_app, gr_0, gr_S] <;> omega) | fail) only [r18_0, r18_1, r18_3, c18, loadV_ptr, storeV_ptr, List.append_assoc, List.length_append, List.length_cons, List.length_nil, List.set_cons_zero, List.set_cons_succ, tk_here, tk_app, gr_here, gr_app, st_here, st_app, g1, g2, g3, g4, g5, go_sem, ↓reduceIte, Nat.reduceLT, Nat.reduceEqDiff, Nat.reduceAdd, Nat.reduceMul, Nat.reduceSub, Int.reduceAdd, Int.reduceSub, Nat.reduceLeDiff, Int.reduceLT, Int.reduceLE, Int.reduceEq, Int.reduceNeg, Int.reduceToNat, hy])
  refine Wp_loop (fun m T D H' => ∃ i, m = c.faces.length - i ∧ i ≤ c.faces.length ∧ D = [] ∧ H' = H ++ [.row 0 (cpE.f c) true] ∧ get T 2 = .ptr H.length 0 0 ∧ get T 3 = .ipt (cpE.f d) 0 ∧ get T 5 = .int .i64 i ∧ sameL fcS c.faces d.faces = sameL fcS (c.faces.drop i) (d.faces.drop i)) ?_ c.faces.length _ _ _ ?_
  case refine_2 => exact ⟨0, by simp (disch := first | rfl | omega | exact lt_new _ | assumption | decide | (simp [tk_here, tk_app, tk_0, tk_S, gr_here, gr_app, gr_0, gr_S] <;> omega) | fail) only [go_sem, ↓reduceIte, Nat.reduceLT, Nat.reduceEqDiff, Nat.reduceAdd, Nat.reduceMul, Nat.reduceSub, Int.reduceAdd, Int.reduceSub, Nat.reduceLeDiff, Int.reduceLT, Int.reduceLE, Int.reduceEq, Int.reduceNeg, Int.reduceToNat]; simp⟩
  rintro m T D H' ⟨i, rfl, hi, rfl, rfl, t2, t3, ti, hs⟩
  by_cases hlt : i < c.faces.length
  · have hlt' : (i : Int) < c.faces.length := by omega
    have hlt2 : (i : Int) < d.faces.length := by omega
    have hlt3 : i < d.faces.length := by omega
    rw [sameL_drop fcE hlt hlt3] at hs
    obtain ⟨x, hx⟩ : ∃ x, fcE.at c.faces i = x := ⟨_, rfl⟩
    obtain ⟨y, hy2⟩ : ∃ x, fcE.at d.faces i = x := ⟨_, rfl⟩
    rw [hx, hy2] at hs
    by_cases hq : fcS x y = true
    · rw [hq, Bool.true_and] at hs
      simp (disch := first | rfl | omega | exact lt_new _ | assumption | decide | (simp [tk_here, tk_app, tk_0, tk_S, gr_here, gr_app, gr_0, gr_S] <;> omega) | fail) only [l18_8, r18_4, r18_5, r18_7, loadV_ptr, storeV_ptr, List.append_assoc, List.length_append, List.length_cons, List.length_nil, List.set_cons_zero, List.set_cons_succ, tk_here, tk_app, gr_here, gr_app, st_here, st_app, t2, t3, ti, hlt', hx, hy2, hq, go_sem, ↓reduceIte, Nat.reduceLT, Nat.reduceEqDiff, Nat.reduceAdd, Nat.reduceMul, Nat.reduceSub, Int.reduceAdd, Int.reduceSub, Nat.reduceLeDiff, Int.reduceLT, Int.reduceLE, Int.reduceEq, Int.reduceNeg, Int.reduceToNat]
      repeat' ((first | refine guardB_dec (fun hy => ?_) (fun hy => ?_) | refine guardB_bool (fun hy => ?_) (fun hy => ?_) | refine guardQ_ite (fun hy => ?_) (fun hy => ?_) | refine brQ_dec (fun hy => ?_) (fun hy => ?_) | refine brQ_bool (fun hy => ?_) (fun hy => ?_)) <;> (try simp only [Bool.not_eq_true', Bool.not_eq_false', Bool.and_eq_true, Bool.or_eq_false_iff, decide_eq_true_eq, decide_eq_false_iff_not] at hy) <;> simp (disch := first | rfl | omega | exact lt_new _ | assumption | decide | (simp [tk_here, tk_app, tk_0, tk_S, gr_here, gr_app, gr_0, gr_S] <;> omega) | fail) only [l18_8, r18_4, r18_5, r18_7, loadV_ptr, storeV_ptr, List.append_assoc, List.length_append, List.length_cons, List.length_nil, List.set_cons_zero, List.set_cons_succ, tk_here, tk_app, gr_here, gr_app, st_here, st_app, t2, t3, ti, hlt', hx, hy2, hq, go_sem, ↓reduceIte, Nat.reduceLT, Nat.reduceEqDiff, Nat.reduceAdd, Nat.reduceMul, Nat.reduceSub, Int.reduceAdd, Int.reduceSub, Nat.reduceLeDiff, Int.reduceLT, Int.reduceLE, Int.reduceEq, Int.reduceNeg, Int.reduceToNat, hy])
      exact ⟨_, by omega, i + 1, rfl, hlt, rfl, hs⟩
    · have hS : sameB c d = false := by unfold sameB; rw [hs, Bool.eq_false_iff.2 hq]; simp
      simp (disch := first | rfl | omega | exact lt_new _ | assumption | decide | (simp [tk_here, tk_app, tk_0, tk_S, gr_here, gr_app, gr_0, gr_S] <;> omega) | fail) only [l18_8, r18_4, r18_5, r18_7, r18_6, rs18, gc18, loadV_ptr, storeV_ptr, List.append_assoc, List.length_append, List.length_cons, List.length_nil, List.set_cons_zero, List.set_cons_succ, tk_here, tk_app, gr_here, gr_app, st_here, st_app, t2, t3, ti, hlt', hx, hy2, hq, go_sem, ↓reduceIte, Nat.reduceLT, Nat.reduceEqDiff, Nat.reduceAdd, Nat.reduceMul, Nat.reduceSub, Int.reduceAdd, Int.reduceSub, Nat.reduceLeDiff, Int.reduceLT, Int.reduceLE, Int.reduceEq, Int.reduceNeg, Int.reduceToNat]
      repeat' ((first | refine guardB_dec (fun hy => ?_) (fun hy => ?_) | refine guardB_bool (fun hy => ?_) (fun hy => ?_) | refine guardQ_ite (fun hy => ?_) (fun hy => ?_) | refine brQ_dec (fun hy => ?_) (fun hy => ?_) | refine brQ_bool (fun hy => ?_) (fun hy => ?_)) <;> (try simp only [Bool.not_eq_true', Bool.not_eq_false', Bool.and_eq_true, Bool.or_eq_false_iff, decide_eq_true_eq, decide_eq_false_iff_not] at hy) <;> simp (disch := first | rfl | omega | exact lt_new _ | assumption | decide | (simp [tk_here, tk_app, tk_0, tk_S, gr_here, gr_app, gr_0, gr_S] <;> omega) | fail) only [l18_8, r18_4, r18_5, r18_7, r18_6, rs18, gc18, loadV_ptr, storeV_ptr, List.append_assoc, List.length_append, List.length_cons, List.length_nil, List.set_cons_zero, List.set_cons_succ, tk_here, tk_app, gr_here, gr_app, st_here, st_app, t2, t3, ti, hlt', hx, hy2, hq, go_sem, ↓reduceIte, Nat.reduceLT, Nat.reduceEqDiff, Nat.reduceAdd, Nat.reduceMul, Nat.reduceSub, Int.reduceAdd, Int.reduceSub, Nat.reduceLeDiff, Int.reduceLT, Int.reduceLE, Int.reduceEq, Int.reduceNeg, Int.reduceToNat, hy])
      all_goals (refine finQ_app ?_; simp (disch := first | rfl | omega | exact lt_new _ | assumption | decide | (simp [tk_here, tk_app, tk_0, tk_S, gr_here, gr_app, gr_0, gr_S] <;> omega) | fail) only [go_sem, ↓reduceIte, Nat.reduceLT, Nat.reduceEqDiff, Nat.reduceAdd, Nat.reduceMul, Nat.reduceSub, Int.reduceAdd, Int.reduceSub, Nat.reduceLeDiff, Int.reduceLT, Int.reduceLE, Int.reduceEq, Int.reduceNeg, Int.reduceToNat, hS])
  · obtain rfl : i = c.faces.length := by omega
    have hs0 : sameL fcS c.faces d.faces = true := by rw [hs, List.drop_length, List.drop_eq_nil_of_le (by omega)]; rfl
    clear hs
    simp (disch := first | rfl | omega | exact lt_new _ | assumption | decide | (simp [tk_here, tk_app, tk_0, tk_S, gr_here, gr_app, gr_0, gr_S] <;> omega) | fail) only [l18_8, r18_4, r18_9, loadV_ptr, storeV_ptr, List.append_assoc, List.length_append, List.length_cons, List.length_nil, List.set_cons_zero, List.set_cons_succ, tk_here, tk_app, gr_here, gr_app, st_here, st_app, t2, t3, ti, Int.lt_irrefl, go_sem, ↓reduceIte, Nat.reduceLT, Nat.reduceEqDiff, Nat.reduceAdd, Nat.reduceMul, Nat.reduceSub, Int.reduceAdd, Int.reduceSub, Nat.reduceLeDiff, Int.reduceLT, Int.reduceLE, Int.reduceEq, Int.reduceNeg, Int.reduceToNat]
    refine Wp_loop (fun m T D H' => ∃ i, m = c.names.length - i ∧ i ≤ c.names.length ∧ D = [] ∧ H' = H ++ [.row 0 (cpE.f c) true] ∧ get T 2 = .ptr H.length 0 0 ∧ get T 3 = .ipt (cpE.f d) 0 ∧ get T 6 = .int .i64 i ∧ sameL nmS c.names d.names = sameL nmS (c.names.drop i) (d.names.drop i)) ?_ c.names.length _ _ _ ?_
    case refine_2 => exact ⟨0, by simp (disch := first | rfl | omega | exact lt_new _ | assumption | decide | (simp [tk_here, tk_app, tk_0, tk_S, gr_here, gr_app, gr_0, gr_S] <;> omega) | fail) only [go_sem, ↓reduceIte, Nat.reduceLT, Nat.reduceEqDiff, Nat.reduceAdd, Nat.reduceMul, Nat.reduceSub, Int.reduceAdd, Int.reduceSub, Nat.reduceLeDiff, Int.reduceLT, Int.reduceLE, Int.reduceEq, Int.reduceNeg, Int.reduceToNat, t2, t3]; simp⟩
    clear t2 t3 ti
    rintro m T D H' ⟨i, rfl, hi, rfl, rfl, t2, t3, ti, hs⟩
    by_cases hlt : i < c.names.length
    · have hlt' : (i : Int) < c.names.length := by omega
      have hlt2 : (i : Int) < d.names.length := by omega
      have hlt3 : i < d.names.length := by omega
      rw [sameL_drop nmE hlt hlt3] at hs
      obtain ⟨x, hx⟩ : ∃ x, nmE.at c.names i = x := ⟨_, rfl⟩
      obtain ⟨y, hy2⟩ : ∃ x, nmE.at d.names i = x := ⟨_, rfl⟩
      rw [hx, hy2] at hs
      by_cases hq : nmS x y = true
      · rw [hq, Bool.true_and] at hs
        obtain ⟨q1, q2⟩ : x.text = y.text ∧ x.addr = y.addr := by simpa [nmS] using hq
        simp (disch := first | rfl | omega | exact lt_new _ | assumption | decide | (simp [tk_here, tk_app, tk_0, tk_S, gr_here, gr_app, gr_0, gr_S] <;> omega) | fail) only [l18_14, r18_10, r18_11, r18_13, loadV_ptr, storeV_ptr, List.append_assoc, List.length_append, List.length_cons, List.length_nil, List.set_cons_zero, List.set_cons_succ, tk_here, tk_app, gr_here, gr_app, st_here, st_app, t2, t3, ti, hlt', hx, hy2, q1, q2, fn64, go_sem, ↓reduceIte, Nat.reduceLT, Nat.reduceEqDiff, Nat.reduceAdd, Nat.reduceMul, Nat.reduceSub, Int.reduceAdd, Int.reduceSub, Nat.reduceLeDiff, Int.reduceLT, Int.reduceLE, Int.reduceEq, Int.reduceNeg, Int.reduceToNat]
        repeat' ((first | refine guardB_dec (fun hy => ?_) (fun hy => ?_) | refine guardB_bool (fun hy => ?_) (fun hy => ?_) | refine guardQ_ite (fun hy => ?_) (fun hy => ?_) | refine brQ_dec (fun hy => ?_) (fun hy => ?_) | refine brQ_bool (fun hy => ?_) (fun hy => ?_)) <;> (try simp only [Bool.not_eq_true', Bool.not_eq_false', Bool.and_eq_true, Bool.or_eq_false_iff, decide_eq_true_eq, decide_eq_false_iff_not] at hy) <;> simp (disch := first | rfl | omega | exact lt_new _ | assumption | decide | (simp [tk_here, tk_app, tk_0, tk_S, gr_here, gr_app, gr_0, gr_S] <;> omega) | fail) only [l18_14, r18_10, r18_11, r18_13, loadV_ptr, storeV_ptr, List.append_assoc, List.length_append, List.length_cons, List.length_nil, List.set_cons_zero, List.set_cons_succ, tk_here, tk_app, gr_here, gr_app, st_here, st_app, t2, t3, ti, hlt', hx, hy2, q1, q2, fn64, go_sem, ↓reduceIte, Nat.reduceLT, Nat.reduceEqDiff, Nat.reduceAdd, Nat.reduceMul, Nat.reduceSub, Int.reduceAdd, Int.reduceSub, Nat.reduceLeDiff, Int.reduceLT, Int.reduceLE, Int.reduceEq, Int.reduceNeg, Int.reduceToNat, hy])
        exact ⟨_, by omega, i + 1, rfl, hlt, rfl, hs⟩
      · have hS : sameB c d = false := by unfold sameB; rw [hs, Bool.eq_false_iff.2 hq]; simp
        have q2 : x.text = y.text → ¬ x.addr = y.addr := fun a b => hq (by simp [nmS, a, b])
        simp (disch := first | rfl | omega | exact lt_new _ | assumption | decide | (simp [tk_here, tk_app, tk_0, tk_S, gr_here, gr_app, gr_0, gr_S] <;> omega) | fail) only [l18_14, r18_10, r18_11, r18_13, r18_12, rs18, gc18, loadV_ptr, storeV_ptr, List.append_assoc, List.length_append, List.length_cons, List.length_nil, List.set_cons_zero, List.set_cons_succ, tk_here, tk_app, gr_here, gr_app, st_here, st_app, t2, t3, ti, hlt', hx, hy2, q2, fn64, go_sem, ↓reduceIte, Nat.reduceLT, Nat.reduceEqDiff, Nat.reduceAdd, Nat.reduceMul, Nat.reduceSub, Int.reduceAdd, Int.reduceSub, Nat.reduceLeDiff, Int.reduceLT, Int.reduceLE, Int.reduceEq, Int.reduceNeg, Int.reduceToNat]
        repeat' ((first | refine guardB_dec (fun hy => ?_) (fun hy => ?_) | refine guardB_bool (fun hy => ?_) (fun hy => ?_) | refine guardQ_ite (fun hy => ?_) (fun hy => ?_) | refine brQ_dec (fun hy => ?_) (fun hy => ?_) | refine brQ_bool (fun hy => ?_) (fun hy => ?_)) <;> (try simp only [Bool.not_eq_true', Bool.not_eq_false', Bool.and_eq_true, Bool.or_eq_false_iff, decide_eq_true_eq, decide_eq_false_iff_not] at hy) <;> simp (disch := first | rfl | omega | exact lt_new _ | assumption | decide | (simp [tk_here, tk_app, tk_0, tk_S, gr_here, gr_app, gr_0, gr_S] <;> omega) | fail) only [l18_14, r18_10, r18_11, r18_13, r18_12, rs18, gc18, loadV_ptr, storeV_ptr, List.append_assoc, List.length_append, List.length_cons, List.length_nil, List.set_cons_zero, List.set_cons_succ, tk_here, tk_app, gr_here, gr_app, st_here, st_app, t2, t3, ti, hlt', hx, hy2, q2, fn64, go_sem, ↓reduceIte, Nat.reduceLT, Nat.reduceEqDiff, Nat.reduceAdd, Nat.reduceMul, Nat.reduceSub, Int.reduceAdd, Int.reduceSub, Nat.reduceLeDiff, Int.reduceLT, Int.reduceLE, Int.reduceEq, Int.reduceNeg, Int.reduceToNat, hy])
        all_goals (refine finQ_app ?_; simp (disch := first | rfl | omega | exact lt_new _ | assumption | decide | (simp [tk_here, tk_app, tk_0, tk_S, gr_here, gr_app, gr_0, gr_S] <;> omega) | fail) only [go_sem, ↓reduceIte, Nat.reduceLT, Nat.reduceEqDiff, Nat.reduceAdd, Nat.reduceMul, Nat.reduceSub, Int.reduceAdd, Int.reduceSub, Nat.reduceLeDiff, Int.reduceLT, Int.reduceLE, Int.reduceEq, Int.reduceNeg, Int.reduceToNat, hS])
    · obtain rfl : i = c.names.length := by omega
      have hs1 : sameL nmS c.names d.names = true := by rw [hs, List.drop_length, List.drop_eq_nil_of_le (by omega)]; rfl
      clear hs
      simp (disch := first | rfl | omega | exact lt_new _ | assumption | decide | (simp [tk_here, tk_app, tk_0, tk_S, gr_here, gr_app, gr_0, gr_S] <;> omega) | fail) only [l18_14, r18_10, r18_15, loadV_ptr, storeV_ptr, List.append_assoc, List.length_append, List.length_cons, List.length_nil, List.set_cons_zero, List.set_cons_succ, tk_here, tk_app, gr_here, gr_app, st_here, st_app, t2, t3, ti, Int.lt_irrefl, go_sem, ↓reduceIte, Nat.reduceLT, Nat.reduceEqDiff, Nat.reduceAdd, Nat.reduceMul, Nat.reduceSub, Int.reduceAdd, Int.reduceSub, Nat.reduceLeDiff, Int.reduceLT, Int.reduceLE, Int.reduceEq, Int.reduceNeg, Int.reduceToNat]
      refine Wp_loop (fun m T D H' => ∃ i, m = c.secrets.length - i ∧ i ≤ c.secrets.length ∧ D = [] ∧ H' = H ++ [.row 0 (cpE.f c) true] ∧ get T 2 = .ptr H.length 0 0 ∧ get T 3 = .ipt (cpE.f d) 0 ∧ get T 7 = .int .i64 i ∧ sameL scS c.secrets d.secrets = sameL scS (c.secrets.drop i) (d.secrets.drop i)) ?_ c.secrets.length _ _ _ ?_
      case refine_2 => exact ⟨0, by simp (disch := first | rfl | omega | exact lt_new _ | assumption | decide | (simp [tk_here, tk_app, tk_0, tk_S, gr_here, gr_app, gr_0, gr_S] <;> omega) | fail) only [go_sem, ↓reduceIte, Nat.reduceLT, Nat.reduceEqDiff, Nat.reduceAdd, Nat.reduceMul, Nat.reduceSub, Int.reduceAdd, Int.reduceSub, Nat.reduceLeDiff, Int.reduceLT, Int.reduceLE, Int.reduceEq, Int.reduceNeg, Int.reduceToNat, t2, t3]; simp⟩
      clear t2 t3 ti
      rintro m T D H' ⟨i, rfl, hi, rfl, rfl, t2, t3, ti, hs⟩
      by_cases hlt : i < c.secrets.length
      · have hlt' : (i : Int) < c.secrets.length := by omega
        have hlt2 : (i : Int) < d.secrets.length := by omega
        have hlt3 : i < d.secrets.length := by omega
        rw [sameL_drop scE hlt hlt3] at hs
        obtain ⟨x, hx⟩ : ∃ x, scE.at c.secrets i = x := ⟨_, rfl⟩
        obtain ⟨y, hy2⟩ : ∃ x, scE.at d.secrets i = x := ⟨_, rfl⟩
        rw [hx, hy2] at hs
        by_cases hq : scS x y = true
        · rw [hq, Bool.true_and] at hs
          obtain ⟨q1, q2⟩ : x.label = y.label ∧ x.key = y.key := by simpa [scS] using hq
          simp (disch := first | rfl | omega | exact lt_new _ | assumption | decide | (simp [tk_here, tk_app, tk_0, tk_S, gr_here, gr_app, gr_0, gr_S] <;> omega) | fail) only [l18_20, r18_16, r18_17, r18_19, loadV_ptr, storeV_ptr, List.append_assoc, List.length_append, List.length_cons, List.length_nil, List.set_cons_zero, List.set_cons_succ, tk_here, tk_app, gr_here, gr_app, st_here, st_app, t2, t3, ti, hlt', hx, hy2, q1, q2, fn64, go_sem, ↓reduceIte, Nat.reduceLT, Nat.reduceEqDiff, Nat.reduceAdd, Nat.reduceMul, Nat.reduceSub, Int.reduceAdd, Int.reduceSub, Nat.reduceLeDiff, Int.reduceLT, Int.reduceLE, Int.reduceEq, Int.reduceNeg, Int.reduceToNat]
          repeat' ((first | refine guardB_dec (fun hy => ?_) (fun hy => ?_) | refine guardB_bool (fun hy => ?_) (fun hy => ?_) | refine guardQ_ite (fun hy => ?_) (fun hy => ?_) | refine brQ_dec (fun hy => ?_) (fun hy => ?_) | refine brQ_bool (fun hy => ?_) (fun hy => ?_)) <;> (try simp only [Bool.not_eq_true', Bool.not_eq_false', Bool.and_eq_true, Bool.or_eq_false_iff, decide_eq_true_eq, decide_eq_false_iff_not] at hy) <;> simp (disch := first | rfl | omega | exact lt_new _ | assumption | decide | (simp [tk_here, tk_app, tk_0, tk_S, gr_here, gr_app, gr_0, gr_S] <;> omega) | fail) only [l18_20, r18_16, r18_17, r18_19, loadV_ptr, storeV_ptr, List.append_assoc, List.length_append, List.length_cons, List.length_nil, List.set_cons_zero, List.set_cons_succ, tk_here, tk_app, gr_here, gr_app, st_here, st_app, t2, t3, ti, hlt', hx, hy2, q1, q2, fn64, go_sem, ↓reduceIte, Nat.reduceLT, Nat.reduceEqDiff, Nat.reduceAdd, Nat.reduceMul, Nat.reduceSub, Int.reduceAdd, Int.reduceSub, Nat.reduceLeDiff, Int.reduceLT, Int.reduceLE, Int.reduceEq, Int.reduceNeg, Int.reduceToNat, hy])
          exact ⟨_, by omega, i + 1, rfl, hlt, rfl, hs⟩
        · have hS : sameB c d = false := by unfold sameB; rw [hs, Bool.eq_false_iff.2 hq]; simp
          have q2 : x.label = y.label → ¬ x.key = y.key := fun a b => hq (by simp [scS, a, b])
          simp (disch := first | rfl | omega | exact lt_new _ | assumption | decide | (simp [tk_here, tk_app, tk_0, tk_S, gr_here, gr_app, gr_0, gr_S] <;> omega) | fail) only [l18_20, r18_16, r18_17, r18_19, r18_18, rs18, gc18, loadV_ptr, storeV_ptr, List.append_assoc, List.length_append, List.length_cons, List.length_nil, List.set_cons_zero, List.set_cons_succ, tk_here, tk_app, gr_here, gr_app, st_here, st_app, t2, t3, ti, hlt', hx, hy2, q2, fn64, go_sem, ↓reduceIte, Nat.reduceLT, Nat.reduceEqDiff, Nat.reduceAdd, Nat.reduceMul, Nat.reduceSub, Int.reduceAdd, Int.reduceSub, Nat.reduceLeDiff, Int.reduceLT, Int.reduceLE, Int.reduceEq, Int.reduceNeg, Int.reduceToNat]
          repeat' ((first | refine guardB_dec (fun hy => ?_) (fun hy => ?_) | refine guardB_bool (fun hy => ?_) (fun hy => ?_) | refine guardQ_ite (fun hy => ?_) (fun hy => ?_) | refine brQ_dec (fun hy => ?_) (fun hy => ?_) | refine brQ_bool (fun hy => ?_) (fun hy => ?_)) <;> (try simp only [Bool.not_eq_true', Bool.not_eq_false', Bool.and_eq_true, Bool.or_eq_false_iff, decide_eq_true_eq, decide_eq_false_iff_not] at hy) <;> simp (disch := first | rfl | omega | exact lt_new _ | assumption | decide | (simp [tk_here, tk_app, tk_0, tk_S, gr_here, gr_app, gr_0, gr_S] <;> omega) | fail) only [l18_20, r18_16, r18_17, r18_19, r18_18, rs18, gc18, loadV_ptr, storeV_ptr, List.append_assoc, List.length_append, List.length_cons, List.length_nil, List.set_cons_zero, List.set_cons_succ, tk_here, tk_app, gr_here, gr_app, st_here, st_app, t2, t3, ti, hlt', hx, hy2, q2, fn64, go_sem, ↓reduceIte, Nat.reduceLT, Nat.reduceEqDiff, Nat.reduceAdd, Nat.reduceMul, Nat.reduceSub, Int.reduceAdd, Int.reduceSub, Nat.reduceLeDiff, Int.reduceLT, Int.reduceLE, Int.reduceEq, Int.reduceNeg, Int.reduceToNat, hy])
          all_goals (refine finQ_app ?_; simp (disch := first | rfl | omega | exact lt_new _ | assumption | decide | (simp [tk_here, tk_app, tk_0, tk_S, gr_here, gr_app, gr_0, gr_S] <;> omega) | fail) only [go_sem, ↓reduceIte, Nat.reduceLT, Nat.reduceEqDiff, Nat.reduceAdd, Nat.reduceMul, Nat.reduceSub, Int.reduceAdd, Int.reduceSub, Nat.reduceLeDiff, Int.reduceLT, Int.reduceLE, Int.reduceEq, Int.reduceNeg, Int.reduceToNat, hS])
      · obtain rfl : i = c.secrets.length := by omega
        have hs2 : sameL scS c.secrets d.secrets = true := by rw [hs, List.drop_length, List.drop_eq_nil_of_le (by omega)]; rfl
        clear hs
        simp (disch := first | rfl | omega | exact lt_new _ | assumption | decide | (simp [tk_here, tk_app, tk_0, tk_S, gr_here, gr_app, gr_0, gr_S] <;> omega) | fail) only [l18_20, r18_16, r18_21, loadV_ptr, storeV_ptr, List.append_assoc, List.length_append, List.length_cons, List.length_nil, List.set_cons_zero, List.set_cons_succ, tk_here, tk_app, gr_here, gr_app, st_here, st_app, t2, t3, ti, Int.lt_irrefl, go_sem, ↓reduceIte, Nat.reduceLT, Nat.reduceEqDiff, Nat.reduceAdd, Nat.reduceMul, Nat.reduceSub, Int.reduceAdd, Int.reduceSub, Nat.reduceLeDiff, Int.reduceLT, Int.reduceLE, Int.reduceEq, Int.reduceNeg, Int.reduceToNat]
        refine Wp_loop (fun m T D H' => ∃ i, m = c.packets.length - i ∧ i ≤ c.packets.length ∧ D = [] ∧ H' = H ++ [.row 0 (cpE.f c) true] ∧ get T 2 = .ptr H.length 0 0 ∧ get T 3 = .ipt (cpE.f d) 0 ∧ get T 8 = .int .i64 i ∧ sameL pkS c.packets d.packets = sameL pkS (c.packets.drop i) (d.packets.drop i)) ?_ c.packets.length _ _ _ ?_
        case refine_2 => exact ⟨0, by simp (disch := first | rfl | omega | exact lt_new _ | assumption | decide | (simp [tk_here, tk_app, tk_0, tk_S, gr_here, gr_app, gr_0, gr_S] <;> omega) | fail) only [go_sem, ↓reduceIte, Nat.reduceLT, Nat.reduceEqDiff, Nat.reduceAdd, Nat.reduceMul, Nat.reduceSub, Int.reduceAdd, Int.reduceSub, Nat.reduceLeDiff, Int.reduceLT, Int.reduceLE, Int.reduceEq, Int.reduceNeg, Int.reduceToNat, t2, t3]; simp⟩
        clear t2 t3 ti
        rintro m T D H' ⟨i, rfl, hi, rfl, rfl, t2, t3, ti, hs⟩
        by_cases hlt : i < c.packets.length
        · have hlt' : (i : Int) < c.packets.length := by omega
          have hlt2 : (i : Int) < d.packets.length := by omega
          have hlt3 : i < d.packets.length := by omega
          rw [sameL_drop pkE hlt hlt3] at hs
          obtain ⟨x, hx⟩ : ∃ x, pkE.at c.packets i = x := ⟨_, rfl⟩
          obtain ⟨y, hy2⟩ : ∃ x, pkE.at d.packets i = x := ⟨_, rfl⟩
          rw [hx, hy2] at hs
          by_cases hq : pkS x y = true
          · rw [hq, Bool.true_and] at hs
            simp (disch := first | rfl | omega | exact lt_new _ | assumption | decide | (simp [tk_here, tk_app, tk_0, tk_S, gr_here, gr_app, gr_0, gr_S] <;> omega) | fail) only [l18_26, r18_22, r18_23, r18_25, loadV_ptr, storeV_ptr, List.append_assoc, List.length_append, List.length_cons, List.length_nil, List.set_cons_zero, List.set_cons_succ, tk_here, tk_app, gr_here, gr_app, st_here, st_app, t2, t3, ti, hlt', hx, hy2, hq, fn65, go_sem, ↓reduceIte, Nat.reduceLT, Nat.reduceEqDiff, Nat.reduceAdd, Nat.reduceMul, Nat.reduceSub, Int.reduceAdd, Int.reduceSub, Nat.reduceLeDiff, Int.reduceLT, Int.reduceLE, Int.reduceEq, Int.reduceNeg, Int.reduceToNat]
            repeat' ((first | refine guardB_dec (fun hy => ?_) (fun hy => ?_) | refine guardB_bool (fun hy => ?_) (fun hy => ?_) | refine guardQ_ite (fun hy => ?_) (fun hy => ?_) | refine brQ_dec (fun hy => ?_) (fun hy => ?_) | refine brQ_bool (fun hy => ?_) (fun hy => ?_)) <;> (try simp only [Bool.not_eq_true', Bool.not_eq_false', Bool.and_eq_true, Bool.or_eq_false_iff, decide_eq_true_eq, decide_eq_false_iff_not] at hy) <;> simp (disch := first | rfl | omega | exact lt_new _ | assumption | decide | (simp [tk_here, tk_app, tk_0, tk_S, gr_here, gr_app, gr_0, gr_S] <;> omega) | fail) only [l18_26, r18_22, r18_23, r18_25, loadV_ptr, storeV_ptr, List.append_assoc, List.length_append, List.length_cons, List.length_nil, List.set_cons_zero, List.set_cons_succ, tk_here, tk_app, gr_here, gr_app, st_here, st_app, t2, t3, ti, hlt', hx, hy2, hq, fn65, go_sem, ↓reduceIte, Nat.reduceLT, Nat.reduceEqDiff, Nat.reduceAdd, Nat.reduceMul, Nat.reduceSub, Int.reduceAdd, Int.reduceSub, Nat.reduceLeDiff, Int.reduceLT, Int.reduceLE, Int.reduceEq, Int.reduceNeg, Int.reduceToNat, hy])
            exact ⟨_, by omega, i + 1, rfl, hlt, rfl, hs⟩
          · have hS : sameB c d = false := by unfold sameB; rw [hs, Bool.eq_false_iff.2 hq]; simp
            simp (disch := first | rfl | omega | exact lt_new _ | assumption | decide | (simp [tk_here, tk_app, tk_0, tk_S, gr_here, gr_app, gr_0, gr_S] <;> omega) | fail) only [l18_26, r18_22, r18_23, r18_25, r18_24, rs18, gc18, loadV_ptr, storeV_ptr, List.append_assoc, List.length_append, List.length_cons, List.length_nil, List.set_cons_zero, List.set_cons_succ, tk_here, tk_app, gr_here, gr_app, st_here, st_app, t2, t3, ti, hlt', hx, hy2, hq, fn65, go_sem, ↓reduceIte, Nat.reduceLT, Nat.reduceEqDiff, Nat.reduceAdd, Nat.reduceMul, Nat.reduceSub, Int.reduceAdd, Int.reduceSub, Nat.reduceLeDiff, Int.reduceLT, Int.reduceLE, Int.reduceEq, Int.reduceNeg, Int.reduceToNat]
            repeat' ((first | refine guardB_dec (fun hy => ?_) (fun hy => ?_) | refine guardB_bool (fun hy => ?_) (fun hy => ?_) | refine guardQ_ite (fun hy => ?_) (fun hy => ?_) | refine brQ_dec (fun hy => ?_) (fun hy => ?_) | refine brQ_bool (fun hy => ?_) (fun hy => ?_)) <;> (try simp only [Bool.not_eq_true', Bool.not_eq_false', Bool.and_eq_true, Bool.or_eq_false_iff, decide_eq_true_eq, decide_eq_false_iff_not] at hy) <;> simp (disch := first | rfl | omega | exact lt_new _ | assumption | decide | (simp [tk_here, tk_app, tk_0, tk_S, gr_here, gr_app, gr_0, gr_S] <;> omega) | fail) only [l18_26, r18_22, r18_23, r18_25, r18_24, rs18, gc18, loadV_ptr, storeV_ptr, List.append_assoc, List.length_append, List.length_cons, List.length_nil, List.set_cons_zero, List.set_cons_succ, tk_here, tk_app, gr_here, gr_app, st_here, st_app, t2, t3, ti, hlt', hx, hy2, hq, fn65, go_sem, ↓reduceIte, Nat.reduceLT, Nat.reduceEqDiff, Nat.reduceAdd, Nat.reduceMul, Nat.reduceSub, Int.reduceAdd, Int.reduceSub, Nat.reduceLeDiff, Int.reduceLT, Int.reduceLE, Int.reduceEq, Int.reduceNeg, Int.reduceToNat, hy])
            all_goals (refine finQ_app ?_; simp (disch := first | rfl | omega | exact lt_new _ | assumption | decide | (simp [tk_here, tk_app, tk_0, tk_S, gr_here, gr_app, gr_0, gr_S] <;> omega) | fail) only [go_sem, ↓reduceIte, Nat.reduceLT, Nat.reduceEqDiff, Nat.reduceAdd, Nat.reduceMul, Nat.reduceSub, Int.reduceAdd, Int.reduceSub, Nat.reduceLeDiff, Int.reduceLT, Int.reduceLE, Int.reduceEq, Int.reduceNeg, Int.reduceToNat, hS])
        · obtain rfl : i = c.packets.length := by omega
          have hs3 : sameL pkS c.packets d.packets = true := by rw [hs, List.drop_length, List.drop_eq_nil_of_le (by omega)]; rfl
          clear hs
          have hS : sameB c d = true := by unfold sameB; rw [hs0, hs1, hs2, hs3, decide_eq_true g1]; rfl
          simp (disch := first | rfl | omega | exact lt_new _ | assumption | decide | (simp [tk_here, tk_app, tk_0, tk_S, gr_here, gr_app, gr_0, gr_S] <;> omega) | fail) only [l18_26, r18_22, r18_27, rs18, gc18, loadV_ptr, storeV_ptr, List.append_assoc, List.length_append, List.length_cons, List.length_nil, List.set_cons_zero, List.set_cons_succ, tk_here, tk_app, gr_here, gr_app, st_here, st_app, t2, t3, ti, Int.lt_irrefl, go_sem, ↓reduceIte, Nat.reduceLT, Nat.reduceEqDiff, Nat.reduceAdd, Nat.reduceMul, Nat.reduceSub, Int.reduceAdd, Int.reduceSub, Nat.reduceLeDiff, Int.reduceLT, Int.reduceLE, Int.reduceEq, Int.reduceNeg, Int.reduceToNat]
          refine finQ_app ?_
          simp (disch := first | rfl | omega | exact lt_new _ | assumption | decide | (simp [tk_here, tk_app, tk_0, tk_S, gr_here, gr_app, gr_0, gr_S] <;> omega) | fail) only [go_sem, ↓reduceIte, Nat.reduceLT, Nat.reduceEqDiff, Nat.reduceAdd, Nat.reduceMul, Nat.reduceSub, Int.reduceAdd, Int.reduceSub, Nat.reduceLeDiff, Int.reduceLT, Int.reduceLE, Int.reduceEq, Int.reduceNeg, Int.reduceToNat, hS]
end Go.Proofs.Ytejkgnmjdaohdaa
/-
  Library functions at this program's types; all captures asked. No statement of the seat stands here.
-/
namespace Go.Proofs.Ytejkgnmjdaohdaa
open Go Go.An
set_option maxRecDepth 4000
set_option linter.unusedSimpArgs false
set_option linter.unusedVariables false

def okT (n : Int) : Bool := decide (0 ≤ n) && decide (n ≤ 1000000000000000)
theorem fn68 (n : Int) (H : Hp) : callL Try.prog pr 68 [.int .i64 n] H = some (.bool (okT n), H) := by
  refine run68 (Nat.le_of_ble_eq_true rfl) ?_
  unfold okT
  simp (disch := first | rfl | omega | exact lt_new _ | assumption | decide | (simp [tk_here, tk_app, tk_0, tk_S, gr_here, gr_app, gr_0, gr_S] <;> omega) | fail) only [r68_0, r68_1, c68, rs68, gc68, go_sem, ↓reduceIte, Nat.reduceLT, Nat.reduceEqDiff, Nat.reduceAdd, Nat.reduceMul, Nat.reduceSub, Int.reduceAdd, Int.reduceSub, Nat.reduceLeDiff, Int.reduceLT, Int.reduceLE, Int.reduceEq, Int.reduceNeg, Int.reduceToNat]
  repeat' ((first | refine guardB_dec (fun hy => ?_) (fun hy => ?_) | refine guardB_bool (fun hy => ?_) (fun hy => ?_) | refine guardQ_ite (fun hy => ?_) (fun hy => ?_) | refine brQ_dec (fun hy => ?_) (fun hy => ?_) | refine brQ_bool (fun hy => ?_) (fun hy => ?_)) <;> (try simp only [Bool.not_eq_true', Bool.not_eq_false', Bool.and_eq_true, Bool.or_eq_false_iff, decide_eq_true_eq, decide_eq_false_iff_not] at hy) <;> simp (disch := first | rfl | omega | exact lt_new _ | assumption | decide | (simp [tk_here, tk_app, tk_0, tk_S, gr_here, gr_app, gr_0, gr_S] <;> omega) | fail) only [r68_0, r68_1, c68, rs68, gc68, go_sem, ↓reduceIte, Nat.reduceLT, Nat.reduceEqDiff, Nat.reduceAdd, Nat.reduceMul, Nat.reduceSub, Int.reduceAdd, Int.reduceSub, Nat.reduceLeDiff, Int.reduceLT, Int.reduceLE, Int.reduceEq, Int.reduceNeg, Int.reduceToNat, hy])
  all_goals (try ((first | refine finQ_same ?_ | refine finQ_app ?_ | (rw [List.append_assoc]; refine finQ_app ?_)) <;> simp (disch := first | rfl | omega | exact lt_new _ | assumption | decide | (simp [tk_here, tk_app, tk_0, tk_S, gr_here, gr_app, gr_0, gr_S] <;> omega) | fail) only [go_sem, ↓reduceIte, Nat.reduceLT, Nat.reduceEqDiff, Nat.reduceAdd, Nat.reduceMul, Nat.reduceSub, Int.reduceAdd, Int.reduceSub, Nat.reduceLeDiff, Int.reduceLT, Int.reduceLE, Int.reduceEq, Int.reduceNeg, Int.reduceToNat, List.append_assoc, List.cons_append, List.nil_append, *]))
  all_goals (try first | rfl | (simp [*]; done) | grind)
theorem fn72 (n : Int) (H : Hp) : callL Try.prog pr 72 [.int .i64 n] H = some (.bool (okT n), H) := by
  refine run72 (Nat.le_of_ble_eq_true rfl) ?_
  unfold okT
  simp (disch := first | rfl | omega | exact lt_new _ | assumption | decide | (simp [tk_here, tk_app, tk_0, tk_S, gr_here, gr_app, gr_0, gr_S] <;> omega) | fail) only [r72_0, r72_1, c72, rs72, gc72, go_sem, ↓reduceIte, Nat.reduceLT, Nat.reduceEqDiff, Nat.reduceAdd, Nat.reduceMul, Nat.reduceSub, Int.reduceAdd, Int.reduceSub, Nat.reduceLeDiff, Int.reduceLT, Int.reduceLE, Int.reduceEq, Int.reduceNeg, Int.reduceToNat]
  repeat' ((first | refine guardB_dec (fun hy => ?_) (fun hy => ?_) | refine guardB_bool (fun hy => ?_) (fun hy => ?_) | refine guardQ_ite (fun hy => ?_) (fun hy => ?_) | refine brQ_dec (fun hy => ?_) (fun hy => ?_) | refine brQ_bool (fun hy => ?_) (fun hy => ?_)) <;> (try simp only [Bool.not_eq_true', Bool.not_eq_false', Bool.and_eq_true, Bool.or_eq_false_iff, decide_eq_true_eq, decide_eq_false_iff_not] at hy) <;> simp (disch := first | rfl | omega | exact lt_new _ | assumption | decide | (simp [tk_here, tk_app, tk_0, tk_S, gr_here, gr_app, gr_0, gr_S] <;> omega) | fail) only [r72_0, r72_1, c72, rs72, gc72, go_sem, ↓reduceIte, Nat.reduceLT, Nat.reduceEqDiff, Nat.reduceAdd, Nat.reduceMul, Nat.reduceSub, Int.reduceAdd, Int.reduceSub, Nat.reduceLeDiff, Int.reduceLT, Int.reduceLE, Int.reduceEq, Int.reduceNeg, Int.reduceToNat, hy])
  all_goals (try ((first | refine finQ_same ?_ | refine finQ_app ?_ | (rw [List.append_assoc]; refine finQ_app ?_)) <;> simp (disch := first | rfl | omega | exact lt_new _ | assumption | decide | (simp [tk_here, tk_app, tk_0, tk_S, gr_here, gr_app, gr_0, gr_S] <;> omega) | fail) only [go_sem, ↓reduceIte, Nat.reduceLT, Nat.reduceEqDiff, Nat.reduceAdd, Nat.reduceMul, Nat.reduceSub, Int.reduceAdd, Int.reduceSub, Nat.reduceLeDiff, Int.reduceLT, Int.reduceLE, Int.reduceEq, Int.reduceNeg, Int.reduceToNat, List.append_assoc, List.cons_append, List.nil_append, *]))
  all_goals (try first | rfl | (simp [*]; done) | grind)
/-- The first thing that is wrong. -/
def askE : List Cp → Int
  | [] => 0
  | c :: l => if valE c = 0 then askE l else valE c
theorem askE_drop {l : List Cp} {i : Nat} (h : i < l.length) : askE (l.drop i) = if valE (cpE.at l i) = 0 then askE (l.drop (i + 1)) else valE (cpE.at l i) := by
  rw [cpE.drop_at h]; rfl
theorem fn54 {b : Bool} {l : List Cp} (hok : ∀ c ∈ l, CpOk c) (hl : l.length ≤ 2 ^ 62) (H : Hp) : callL Try.prog pr 54 [slV b cpE l] H = some (.int .i64 (askE l), H) := by
  refine run54 (Nat.le_of_ble_eq_true rfl) ?_
  simp (disch := first | rfl | omega | exact lt_new _ | assumption | decide | (simp [tk_here, tk_app, tk_0, tk_S, gr_here, gr_app, gr_0, gr_S] <;> omega) | fail) only [r54_0, r54_1, r54_2, r54_3, r54_4, r54_5, r54_6, r54_7, r54_9, c54, rs54, gc54, go_sem, ↓reduceIte, Nat.reduceLT, Nat.reduceEqDiff, Nat.reduceAdd, Nat.reduceMul, Nat.reduceSub, Int.reduceAdd, Int.reduceSub, Nat.reduceLeDiff, Int.reduceLT, Int.reduceLE, Int.reduceEq, Int.reduceNeg, Int.reduceToNat]
  refine Wp_loop (fun m T D H' => ∃ i G, m = l.length - i ∧ i ≤ l.length ∧ D = [] ∧ H' = H ++ G ∧ get T 6 = slV b cpE l ∧ get T 7 = .int .i64 l.length ∧ get T 8 = .int .i64 i ∧ askE l = askE (l.drop i)) ?_ l.length _ _ _ ?_
  case refine_2 => exact ⟨0, [], by simp [go_sem]⟩
  rintro m T D H' ⟨i, G, rfl, hi, rfl, rfl, t6, t7, t8, hs⟩
  by_cases hlt : i < l.length
  · have hlt' : (i : Int) < l.length := by omega
    have h57 := fn57 (cpE.at l i) (hok _ (cpE.at_mem hlt))
    rw [askE_drop hlt] at hs
    by_cases hq : valE (cpE.at l i) = 0
    · rw [if_pos hq] at hs
      simp (disch := first | rfl | omega | exact lt_new _ | assumption | decide | (simp [tk_here, tk_app, tk_0, tk_S, gr_here, gr_app, gr_0, gr_S] <;> omega) | fail) only [r54_0, r54_1, r54_2, r54_3, r54_4, r54_5, r54_6, r54_7, l54_8, r54_9, c54, rs54, gc54, loadV_ptr, storeV_ptr, List.append_assoc, List.length_append, List.length_cons, List.length_nil, List.set_cons_zero, List.set_cons_succ, tk_here, tk_app, gr_here, gr_app, st_here, st_app, t6, t7, t8, hlt', h57, hq, go_sem, ↓reduceIte, Nat.reduceLT, Nat.reduceEqDiff, Nat.reduceAdd, Nat.reduceMul, Nat.reduceSub, Int.reduceAdd, Int.reduceSub, Nat.reduceLeDiff, Int.reduceLT, Int.reduceLE, Int.reduceEq, Int.reduceNeg, Int.reduceToNat]
      exact ⟨_, by omega, i + 1, _, rfl, hlt, rfl, rfl, hs⟩
    · rw [if_neg hq] at hs
      simp (disch := first | rfl | omega | exact lt_new _ | assumption | decide | (simp [tk_here, tk_app, tk_0, tk_S, gr_here, gr_app, gr_0, gr_S] <;> omega) | fail) only [r54_0, r54_1, r54_2, r54_3, r54_4, r54_5, r54_6, r54_7, l54_8, r54_9, c54, rs54, gc54, loadV_ptr, storeV_ptr, List.append_assoc, List.length_append, List.length_cons, List.length_nil, List.set_cons_zero, List.set_cons_succ, tk_here, tk_app, gr_here, gr_app, st_here, st_app, t6, t7, t8, hlt', h57, hq, go_sem, ↓reduceIte, Nat.reduceLT, Nat.reduceEqDiff, Nat.reduceAdd, Nat.reduceMul, Nat.reduceSub, Int.reduceAdd, Int.reduceSub, Nat.reduceLeDiff, Int.reduceLT, Int.reduceLE, Int.reduceEq, Int.reduceNeg, Int.reduceToNat]
      exact finQ_app (by simp (disch := first | rfl | omega | exact lt_new _ | assumption | decide | (simp [tk_here, tk_app, tk_0, tk_S, gr_here, gr_app, gr_0, gr_S] <;> omega) | fail) only [go_sem, ↓reduceIte, Nat.reduceLT, Nat.reduceEqDiff, Nat.reduceAdd, Nat.reduceMul, Nat.reduceSub, Int.reduceAdd, Int.reduceSub, Nat.reduceLeDiff, Int.reduceLT, Int.reduceLE, Int.reduceEq, Int.reduceNeg, Int.reduceToNat, hs])
  · obtain rfl : i = l.length := by omega
    rw [List.drop_length] at hs
    simp (disch := first | rfl | omega | exact lt_new _ | assumption | decide | (simp [tk_here, tk_app, tk_0, tk_S, gr_here, gr_app, gr_0, gr_S] <;> omega) | fail) only [r54_0, r54_1, r54_2, r54_3, r54_4, r54_5, r54_6, r54_7, l54_8, r54_9, c54, rs54, gc54, t6, t7, t8, Int.lt_irrefl, go_sem, ↓reduceIte, Nat.reduceLT, Nat.reduceEqDiff, Nat.reduceAdd, Nat.reduceMul, Nat.reduceSub, Int.reduceAdd, Int.reduceSub, Nat.reduceLeDiff, Int.reduceLT, Int.reduceLE, Int.reduceEq, Int.reduceNeg, Int.reduceToNat]
    exact finQ_app (by simp (disch := first | rfl | omega | exact lt_new _ | assumption | decide | (simp [tk_here, tk_app, tk_0, tk_S, gr_here, gr_app, gr_0, gr_S] <;> omega) | fail) only [go_sem, ↓reduceIte, Nat.reduceLT, Nat.reduceEqDiff, Nat.reduceAdd, Nat.reduceMul, Nat.reduceSub, Int.reduceAdd, Int.reduceSub, Nat.reduceLeDiff, Int.reduceLT, Int.reduceLE, Int.reduceEq, Int.reduceNeg, Int.reduceToNat, hs, askE])
theorem askE_one (c : Cp) : askE [c] = valE c := by
  simp only [askE]
  split <;> simp [*]
theorem ask1 (c : Cp) (hc : CpOk c) (H : Hp) : callL Try.prog pr 54 [.isl (cpE.f c) 1 5] H = some (.int .i64 (valE c), H) := by
  have := fn54 (b := false) (l := [c]) (by simpa using hc) (by simp) H
  rw [askE_one] at this
  rw [← this]
  simp [slV, flatE, cpE_w]
end Go.Proofs.Ytejkgnmjdaohdaa
/-
  Copies of captures, walked. No statement of the seat stands here.
-/
namespace Go.Proofs.Ytejkgnmjdaohdaa
open Go Go.An
set_option maxRecDepth 4000
set_option linter.unusedSimpArgs false
set_option linter.unusedVariables false

theorem fn116 {b : Bool} {l : List Fc} (hl : l.length ≤ 2 ^ 30) (H : Hp) : ∃ v L, callL Try.prog pr 116 [slV b fcE l] H = some (v, H ++ L) ∧ RowM fcE H.length L v l := by
  suffices h : ∃ r, callL Try.prog pr 116 [slV b fcE l] H = some r ∧ ∃ v L, r = (v, H ++ L) ∧ RowM fcE H.length L v l by
    obtain ⟨_, h1, v, L, rfl, h2⟩ := h; exact ⟨v, L, h1, h2⟩
  refine ex116 (Nat.le_of_ble_eq_true rfl) ?_
  by_cases hb : b = true ∧ l = []
  · obtain ⟨rfl, rfl⟩ := hb
    simp (disch := first | rfl | omega | exact lt_new _ | assumption | decide | (simp [tk_here, tk_app, tk_0, tk_S, gr_here, gr_app, gr_0, gr_S] <;> omega) | fail) only [r116_0, r116_1, r116_2, r116_3, c116, rs116, gc116, go_sem, ↓reduceIte, Nat.reduceLT, Nat.reduceEqDiff, Nat.reduceAdd, Nat.reduceMul, Nat.reduceSub, Int.reduceAdd, Int.reduceSub, Nat.reduceLeDiff, Int.reduceLT, Int.reduceLE, Int.reduceEq, Int.reduceNeg, Int.reduceToNat, slV_nil]
    exact ⟨V.nilslice, [], by simp, Or.inl ⟨rfl, rfl⟩⟩
  · have hb2 : (b && decide (l.length = 0)) = false := by
      cases b with
      | false => rfl
      | true => simp only [true_and] at hb; simp [hb]
    obtain ⟨g, ha⟩ : ∃ g, appOf 3 32 (H ++ [.row 0 [] true]) (.slice H.length 0 0 0 3 .full) (slV b fcE l) = some (.slice H.length g 0 l.length 3 .full, H ++ [.row g (flatE fcE l) true]) := by
      have hw : fcE.w = 3 := rfl
      have hfl := flatE_len (E := fcE) (l := l)
      rw [hw] at hfl
      have hfc := flatE_cells fcE l
      unfold appOf
      rw [src_slV]
      simp only [Option.bind_some]
      rw [if_pos ⟨hfl, hfc⟩]
      simp only [getRow_last, Option.bind_some]
      rw [if_pos ⟨trivial, by omega, by omega, by simp⟩]
      by_cases hz : l.length = 0
      · obtain rfl : l = [] := List.eq_nil_of_length_eq_zero hz
        exact ⟨0, by simp [flatE]⟩
      · refine ⟨1, ?_⟩
        rw [if_neg hz, if_pos trivial, if_neg (by simp; omega), if_pos (by simp)]
        simp
    simp (disch := first | rfl | omega | exact lt_new _ | assumption | decide | (simp [tk_here, tk_app, tk_0, tk_S, gr_here, gr_app, gr_0, gr_S] <;> omega) | fail) only [r116_0, r116_1, r116_2, r116_3, c116, rs116, gc116, go_sem, ↓reduceIte, Nat.reduceLT, Nat.reduceEqDiff, Nat.reduceAdd, Nat.reduceMul, Nat.reduceSub, Int.reduceAdd, Int.reduceSub, Nat.reduceLeDiff, Int.reduceLT, Int.reduceLE, Int.reduceEq, Int.reduceNeg, Int.reduceToNat, hb2, ha]
    exact ⟨_, _, rfl, Or.inr ⟨0, g, rfl, by simp, by simp [getRow]⟩⟩

theorem fn117 {b : Bool} {l : List Nm} (hl : l.length ≤ 2 ^ 30) (H : Hp) : ∃ v L, callL Try.prog pr 117 [slV b nmE l] H = some (v, H ++ L) ∧ RowM nmE H.length L v l := by
  suffices h : ∃ r, callL Try.prog pr 117 [slV b nmE l] H = some r ∧ ∃ v L, r = (v, H ++ L) ∧ RowM nmE H.length L v l by
    obtain ⟨_, h1, v, L, rfl, h2⟩ := h; exact ⟨v, L, h1, h2⟩
  refine ex117 (Nat.le_of_ble_eq_true rfl) ?_
  by_cases hb : b = true ∧ l = []
  · obtain ⟨rfl, rfl⟩ := hb
    simp (disch := first | rfl | omega | exact lt_new _ | assumption | decide | (simp [tk_here, tk_app, tk_0, tk_S, gr_here, gr_app, gr_0, gr_S] <;> omega) | fail) only [r117_0, r117_1, r117_2, r117_3, c117, rs117, gc117, go_sem, ↓reduceIte, Nat.reduceLT, Nat.reduceEqDiff, Nat.reduceAdd, Nat.reduceMul, Nat.reduceSub, Int.reduceAdd, Int.reduceSub, Nat.reduceLeDiff, Int.reduceLT, Int.reduceLE, Int.reduceEq, Int.reduceNeg, Int.reduceToNat, slV_nil]
    exact ⟨V.nilslice, [], by simp, Or.inl ⟨rfl, rfl⟩⟩
  · have hb2 : (b && decide (l.length = 0)) = false := by
      cases b with
      | false => rfl
      | true => simp only [true_and] at hb; simp [hb]
    obtain ⟨g, ha⟩ : ∃ g, appOf 2 40 (H ++ [.row 0 [] true]) (.slice H.length 0 0 0 2 .full) (slV b nmE l) = some (.slice H.length g 0 l.length 2 .full, H ++ [.row g (flatE nmE l) true]) := by
      have hw : nmE.w = 2 := rfl
      have hfl := flatE_len (E := nmE) (l := l)
      rw [hw] at hfl
      have hfc := flatE_cells nmE l
      unfold appOf
      rw [src_slV]
      simp only [Option.bind_some]
      rw [if_pos ⟨hfl, hfc⟩]
      simp only [getRow_last, Option.bind_some]
      rw [if_pos ⟨trivial, by omega, by omega, by simp⟩]
      by_cases hz : l.length = 0
      · obtain rfl : l = [] := List.eq_nil_of_length_eq_zero hz
        exact ⟨0, by simp [flatE]⟩
      · refine ⟨1, ?_⟩
        rw [if_neg hz, if_pos trivial, if_neg (by simp; omega), if_pos (by simp)]
        simp
    simp (disch := first | rfl | omega | exact lt_new _ | assumption | decide | (simp [tk_here, tk_app, tk_0, tk_S, gr_here, gr_app, gr_0, gr_S] <;> omega) | fail) only [r117_0, r117_1, r117_2, r117_3, c117, rs117, gc117, go_sem, ↓reduceIte, Nat.reduceLT, Nat.reduceEqDiff, Nat.reduceAdd, Nat.reduceMul, Nat.reduceSub, Int.reduceAdd, Int.reduceSub, Nat.reduceLeDiff, Int.reduceLT, Int.reduceLE, Int.reduceEq, Int.reduceNeg, Int.reduceToNat, hb2, ha]
    exact ⟨_, _, rfl, Or.inr ⟨0, g, rfl, by simp, by simp [getRow]⟩⟩

theorem fn119 {b : Bool} {l : List Sc} (hl : l.length ≤ 2 ^ 30) (H : Hp) : ∃ v L, callL Try.prog pr 119 [slV b scE l] H = some (v, H ++ L) ∧ RowM scE H.length L v l := by
  suffices h : ∃ r, callL Try.prog pr 119 [slV b scE l] H = some r ∧ ∃ v L, r = (v, H ++ L) ∧ RowM scE H.length L v l by
    obtain ⟨_, h1, v, L, rfl, h2⟩ := h; exact ⟨v, L, h1, h2⟩
  refine ex119 (Nat.le_of_ble_eq_true rfl) ?_
  by_cases hb : b = true ∧ l = []
  · obtain ⟨rfl, rfl⟩ := hb
    simp (disch := first | rfl | omega | exact lt_new _ | assumption | decide | (simp [tk_here, tk_app, tk_0, tk_S, gr_here, gr_app, gr_0, gr_S] <;> omega) | fail) only [r119_0, r119_1, r119_2, r119_3, c119, rs119, gc119, go_sem, ↓reduceIte, Nat.reduceLT, Nat.reduceEqDiff, Nat.reduceAdd, Nat.reduceMul, Nat.reduceSub, Int.reduceAdd, Int.reduceSub, Nat.reduceLeDiff, Int.reduceLT, Int.reduceLE, Int.reduceEq, Int.reduceNeg, Int.reduceToNat, slV_nil]
    exact ⟨V.nilslice, [], by simp, Or.inl ⟨rfl, rfl⟩⟩
  · have hb2 : (b && decide (l.length = 0)) = false := by
      cases b with
      | false => rfl
      | true => simp only [true_and] at hb; simp [hb]
    obtain ⟨g, ha⟩ : ∃ g, appOf 2 40 (H ++ [.row 0 [] true]) (.slice H.length 0 0 0 2 .full) (slV b scE l) = some (.slice H.length g 0 l.length 2 .full, H ++ [.row g (flatE scE l) true]) := by
      have hw : scE.w = 2 := rfl
      have hfl := flatE_len (E := scE) (l := l)
      rw [hw] at hfl
      have hfc := flatE_cells scE l
      unfold appOf
      rw [src_slV]
      simp only [Option.bind_some]
      rw [if_pos ⟨hfl, hfc⟩]
      simp only [getRow_last, Option.bind_some]
      rw [if_pos ⟨trivial, by omega, by omega, by simp⟩]
      by_cases hz : l.length = 0
      · obtain rfl : l = [] := List.eq_nil_of_length_eq_zero hz
        exact ⟨0, by simp [flatE]⟩
      · refine ⟨1, ?_⟩
        rw [if_neg hz, if_pos trivial, if_neg (by simp; omega), if_pos (by simp)]
        simp
    simp (disch := first | rfl | omega | exact lt_new _ | assumption | decide | (simp [tk_here, tk_app, tk_0, tk_S, gr_here, gr_app, gr_0, gr_S] <;> omega) | fail) only [r119_0, r119_1, r119_2, r119_3, c119, rs119, gc119, go_sem, ↓reduceIte, Nat.reduceLT, Nat.reduceEqDiff, Nat.reduceAdd, Nat.reduceMul, Nat.reduceSub, Int.reduceAdd, Int.reduceSub, Nat.reduceLeDiff, Int.reduceLT, Int.reduceLE, Int.reduceEq, Int.reduceNeg, Int.reduceToNat, hb2, ha]
    exact ⟨_, _, rfl, Or.inr ⟨0, g, rfl, by simp, by simp [getRow]⟩⟩

theorem fn120 {b : Bool} {l : List Pk} (hl : l.length ≤ 2 ^ 30) (H : Hp) : ∃ v L, callL Try.prog pr 120 [slV b pkE l] H = some (v, H ++ L) ∧ RowM pkE H.length L v l := by
  suffices h : ∃ r, callL Try.prog pr 120 [slV b pkE l] H = some r ∧ ∃ v L, r = (v, H ++ L) ∧ RowM pkE H.length L v l by
    obtain ⟨_, h1, v, L, rfl, h2⟩ := h; exact ⟨v, L, h1, h2⟩
  refine ex120 (Nat.le_of_ble_eq_true rfl) ?_
  by_cases hb : b = true ∧ l = []
  · obtain ⟨rfl, rfl⟩ := hb
    simp (disch := first | rfl | omega | exact lt_new _ | assumption | decide | (simp [tk_here, tk_app, tk_0, tk_S, gr_here, gr_app, gr_0, gr_S] <;> omega) | fail) only [r120_0, r120_1, r120_2, r120_3, c120, rs120, gc120, go_sem, ↓reduceIte, Nat.reduceLT, Nat.reduceEqDiff, Nat.reduceAdd, Nat.reduceMul, Nat.reduceSub, Int.reduceAdd, Int.reduceSub, Nat.reduceLeDiff, Int.reduceLT, Int.reduceLE, Int.reduceEq, Int.reduceNeg, Int.reduceToNat, slV_nil]
    exact ⟨V.nilslice, [], by simp, Or.inl ⟨rfl, rfl⟩⟩
  · have hb2 : (b && decide (l.length = 0)) = false := by
      cases b with
      | false => rfl
      | true => simp only [true_and] at hb; simp [hb]
    obtain ⟨g, ha⟩ : ∃ g, appOf 5 64 (H ++ [.row 0 [] true]) (.slice H.length 0 0 0 5 .full) (slV b pkE l) = some (.slice H.length g 0 l.length 5 .full, H ++ [.row g (flatE pkE l) true]) := by
      have hw : pkE.w = 5 := rfl
      have hfl := flatE_len (E := pkE) (l := l)
      rw [hw] at hfl
      have hfc := flatE_cells pkE l
      unfold appOf
      rw [src_slV]
      simp only [Option.bind_some]
      rw [if_pos ⟨hfl, hfc⟩]
      simp only [getRow_last, Option.bind_some]
      rw [if_pos ⟨trivial, by omega, by omega, by simp⟩]
      by_cases hz : l.length = 0
      · obtain rfl : l = [] := List.eq_nil_of_length_eq_zero hz
        exact ⟨0, by simp [flatE]⟩
      · refine ⟨1, ?_⟩
        rw [if_neg hz, if_pos trivial, if_neg (by simp; omega), if_pos (by simp)]
        simp
    simp (disch := first | rfl | omega | exact lt_new _ | assumption | decide | (simp [tk_here, tk_app, tk_0, tk_S, gr_here, gr_app, gr_0, gr_S] <;> omega) | fail) only [r120_0, r120_1, r120_2, r120_3, c120, rs120, gc120, go_sem, ↓reduceIte, Nat.reduceLT, Nat.reduceEqDiff, Nat.reduceAdd, Nat.reduceMul, Nat.reduceSub, Int.reduceAdd, Int.reduceSub, Nat.reduceLeDiff, Int.reduceLT, Int.reduceLE, Int.reduceEq, Int.reduceNeg, Int.reduceToNat, hb2, ha]
    exact ⟨_, _, rfl, Or.inr ⟨0, g, rfl, by simp, by simp [getRow]⟩⟩


theorem gr_l {G K : Hp} {j g : Nat} (h : j < G.length) : getRow (G ++ K) j g = getRow G j g := by
  unfold getRow; rw [List.getElem?_append_left h]
theorem st_l {G K : Hp} {j : Nat} {b : AB} (h : j < G.length) : (G ++ K).set j b = G.set j b ++ K := List.set_append_left _ _ h
theorem RowM.two {α : Type} {E : Enc α} {n : Nat} {M : Hp} {v : V} {l : List α} (h : RowM E (n + 2) M v l) : (v = .nilslice ∧ l = []) ∨ ∃ j g, v = .slice (n + (j + 1 + 1)) g 0 l.length E.w .full ∧ j < M.length ∧ getRow M j g = some (flatE E l, true) := by
  rcases h with h | ⟨j, g, rfl, h⟩
  · exact Or.inl h
  · exact Or.inr ⟨j, g, by rw [show n + 2 + j = n + (j + 1 + 1) by omega], h⟩
theorem fn118 {b : Bool} {l : List UInt8} (hl : l.length ≤ 2 ^ 30) (H : Hp) : callL Try.prog pr 118 [slV b byE l] H = some (slV b byE l, H) := by
  refine run118 (Nat.le_of_ble_eq_true rfl) ?_
  by_cases hb : b = true ∧ l = []
  · obtain ⟨rfl, rfl⟩ := hb
    simp (disch := first | rfl | omega | exact lt_new _ | assumption | decide | (simp [tk_here, tk_app, tk_0, tk_S, gr_here, gr_app, gr_0, gr_S] <;> omega) | fail) only [r118_0, r118_1, r118_2, r118_3, c118, rs118, gc118, go_sem, ↓reduceIte, Nat.reduceLT, Nat.reduceEqDiff, Nat.reduceAdd, Nat.reduceMul, Nat.reduceSub, Int.reduceAdd, Int.reduceSub, Nat.reduceLeDiff, Int.reduceLT, Int.reduceLE, Int.reduceEq, Int.reduceNeg, Int.reduceToNat, slV_nil]
    exact finQ_same (by simp (disch := first | rfl | omega | exact lt_new _ | assumption | decide | (simp [tk_here, tk_app, tk_0, tk_S, gr_here, gr_app, gr_0, gr_S] <;> omega) | fail) only [go_sem, ↓reduceIte, Nat.reduceLT, Nat.reduceEqDiff, Nat.reduceAdd, Nat.reduceMul, Nat.reduceSub, Int.reduceAdd, Int.reduceSub, Nat.reduceLeDiff, Int.reduceLT, Int.reduceLE, Int.reduceEq, Int.reduceNeg, Int.reduceToNat])
  · have hb2 : (b && decide (l.length = 0)) = false := by
      cases b with
      | false => rfl
      | true => simp only [true_and] at hb; simp [hb]
    obtain ⟨g, ha⟩ : ∃ g, appOf 1 1 (H ++ [.row 0 [] true]) (.slice H.length 0 0 0 1 .full) (slV b byE l) = some (.slice H.length g 0 l.length 1 .full, H ++ [.row g (flatE byE l) true]) := by
      have hw : byE.w = 1 := rfl
      have hfl := flatE_len (E := byE) (l := l)
      rw [hw] at hfl
      have hfc := flatE_cells byE l
      unfold appOf
      rw [src_slV]
      simp only [Option.bind_some]
      rw [if_pos ⟨hfl, hfc⟩]
      simp only [getRow_last, Option.bind_some]
      rw [if_pos ⟨trivial, by omega, by omega, by simp⟩]
      by_cases hz : l.length = 0
      · obtain rfl : l = [] := List.eq_nil_of_length_eq_zero hz
        exact ⟨0, by simp [flatE]⟩
      · refine ⟨1, ?_⟩
        rw [if_neg hz, if_pos trivial, if_neg (by simpa using fun h => hz (by rw [h]; rfl)), if_pos (by simp)]
        simp
    simp (disch := first | rfl | omega | exact lt_new _ | assumption | decide | (simp [tk_here, tk_app, tk_0, tk_S, gr_here, gr_app, gr_0, gr_S] <;> omega) | fail) only [r118_0, r118_1, r118_2, r118_3, c118, rs118, gc118, go_sem, ↓reduceIte, Nat.reduceLT, Nat.reduceEqDiff, Nat.reduceAdd, Nat.reduceMul, Nat.reduceSub, Int.reduceAdd, Int.reduceSub, Nat.reduceLeDiff, Int.reduceLT, Int.reduceLE, Int.reduceEq, Int.reduceNeg, Int.reduceToNat, hb2, ha]
    refine finQ_app (by rw [show ∀ n H' f id g off m sz cp, inlR n H' f (V.slice id g off m sz cp) = inlB n H' f (V.slice id g off m sz cp) from fun _ _ _ _ _ _ _ _ _ => rfl, inlB_row (Nat.le_refl _) (w := 1) (cs := flatE byE l) (g := g) (len := l.length) (by simp) flatE_len flatE_imm]; simp (disch := first | rfl | omega | exact lt_new _ | assumption | decide | (simp [tk_here, tk_app, tk_0, tk_S, gr_here, gr_app, gr_0, gr_S] <;> omega) | fail) only [go_sem, ↓reduceIte, Nat.reduceLT, Nat.reduceEqDiff, Nat.reduceAdd, Nat.reduceMul, Nat.reduceSub, Int.reduceAdd, Int.reduceSub, Nat.reduceLeDiff, Int.reduceLT, Int.reduceLE, Int.reduceEq, Int.reduceNeg, Int.reduceToNat, slV, if_neg hb]; rfl)
def CpS (c : Cp) : Prop := (c.faces.length ≤ 2 ^ 30 ∧ c.names.length ≤ 2 ^ 30 ∧ c.secrets.length ≤ 2 ^ 30 ∧ c.packets.length ≤ 2 ^ 30) ∧ (∀ x ∈ c.names, x.addr.length ≤ 2 ^ 30) ∧ (∀ x ∈ c.secrets, x.key.length ≤ 2 ^ 30) ∧ ∀ x ∈ c.packets, x.data.length ≤ 2 ^ 30
set_option maxHeartbeats 4000000 in
/-- A copy: the packets' row lies behind the others. -/
theorem fn74s (c : Cp) (hs : CpS c) (H : Hp) : ∃ v1 v2 v3 v4 L X, callL Try.prog pr 74 [.agg (cpE.f c)] H = some (.agg [.str c.note, v1, v2, v3, v4], H ++ (L ++ X)) ∧ RowM fcE H.length L v1 c.faces ∧ RowM nmE H.length L v2 c.names ∧ RowM scE H.length L v3 c.secrets ∧ RowM pkE (H.length + L.length) X v4 c.packets := by
  suffices h : ∃ r, callL Try.prog pr 74 [.agg (cpE.f c)] H = some r ∧ ∃ v1 v2 v3 v4 L X, r = (.agg [.str c.note, v1, v2, v3, v4], H ++ (L ++ X)) ∧ RowM fcE H.length L v1 c.faces ∧ RowM nmE H.length L v2 c.names ∧ RowM scE H.length L v3 c.secrets ∧ RowM pkE (H.length + L.length) X v4 c.packets by
    obtain ⟨_, h1, v1, v2, v3, v4, L, X, rfl, h2⟩ := h; exact ⟨v1, v2, v3, v4, L, X, h1, h2⟩
  refine ex74 (Nat.le_of_ble_eq_true rfl) ?_
  obtain ⟨hlen, ha1, ha2, ha3⟩ := hs
  have e118 := fun {b l} h H => fn118 (b := b) (l := l) h H
  have hc0 : cpE.f c = [.str c.note, slV c.facesN fcE c.faces, slV c.namesN nmE c.names, slV c.secretsN scE c.secrets, slV c.packetsN pkE c.packets] := rfl
  obtain ⟨v1, L1, e1, r1⟩ := fn116 (b := c.facesN) hlen.1 (H ++ AB.row 0 [.str c.note, slV c.facesN fcE c.faces, slV c.namesN nmE c.names, slV c.secretsN scE c.secrets, slV c.packetsN pkE c.packets] true :: AB.row 0 [.str [], .nilslice, .nilslice, .nilslice, .nilslice] true :: [])
  rw [show (H ++ AB.row 0 [.str c.note, slV c.facesN fcE c.faces, slV c.namesN nmE c.names, slV c.secretsN scE c.secrets, slV c.packetsN pkE c.packets] true :: AB.row 0 [.str [], .nilslice, .nilslice, .nilslice, .nilslice] true :: []).length = H.length + 2 by simp] at r1
  obtain ⟨c11, c12, c13, c14, c15, c16, c17⟩ := r1.cell
  have n1 := fun H' => r1.len (P := Try.prog) (t := 26) (z := 3) (by kernel_rfl) H'
  have q1 := r1
  obtain ⟨v2, L2, e2, r2⟩ := fn117 (b := c.namesN) hlen.2.1 (H ++ AB.row 0 [.str c.note, v1, slV c.namesN nmE c.names, slV c.secretsN scE c.secrets, slV c.packetsN pkE c.packets] true :: AB.row 0 [.str [], .nilslice, .nilslice, .nilslice, .nilslice] true :: L1)
  rw [show (H ++ AB.row 0 [.str c.note, v1, slV c.namesN nmE c.names, slV c.secretsN scE c.secrets, slV c.packetsN pkE c.packets] true :: AB.row 0 [.str [], .nilslice, .nilslice, .nilslice, .nilslice] true :: L1).length = H.length + 2 + L1.length by simp; omega] at r2
  replace r2 := RowM.pre L1 r2
  replace q1 := RowM.app q1 L2
  obtain ⟨c21, c22, c23, c24, c25, c26, c27⟩ := r2.cell
  have n2 := fun H' => r2.len (P := Try.prog) (t := 27) (z := 2) (by kernel_rfl) H'
  simp (disch := first | rfl | omega | exact lt_new _ | assumption | decide | (simp [tk_here, tk_app, tk_0, tk_S, gr_here, gr_app, gr_0, gr_S] <;> omega) | fail) only [r74_0, r74_1, r74_2, r74_3, r74_4, r74_5, r74_6, r74_7, r74_9, r74_10, r74_11, r74_12, r74_13, r74_14, r74_16, r74_17, r74_18, r74_19, r74_20, r74_21, r74_23, c74, rs74, gc74, go_sem, ↓reduceIte, Nat.reduceLT, Nat.reduceEqDiff, Nat.reduceAdd, Nat.reduceMul, Nat.reduceSub, Int.reduceAdd, Int.reduceSub, Nat.reduceLeDiff, Int.reduceLT, Int.reduceLE, Int.reduceEq, Int.reduceNeg, Int.reduceToNat, loadV_ptr, storeV_ptr, List.append_assoc, List.length_append, List.length_cons, List.length_nil, List.set_cons_zero, List.set_cons_succ, tk_here, tk_app, gr_here, gr_app, st_here, st_app, hc0, e1, e2, n2, c11, c12, c13, c14, c15, c16, c17, c21, c22, c23, c24, c25, c26, c27]
  refine Wp_loop (fun m T D H' => ∃ i M, m = c.names.length - i ∧ i ≤ c.names.length ∧ D = [] ∧ H' = H ++ AB.row 0 [.str c.note, v1, v2, slV c.secretsN scE c.secrets, slV c.packetsN pkE c.packets] true :: AB.row 0 [.str [], .nilslice, .nilslice, .nilslice, .nilslice] true :: M ∧ get T 1 = .ptr H.length 0 0 ∧ get T 2 = .ptr (H.length + 1) 0 0 ∧ get T 18 = v2 ∧ get T 19 = .int .i64 c.names.length ∧ get T 20 = .int .i64 i ∧ RowM fcE (H.length + 2) M v1 c.faces ∧ RowM nmE (H.length + 2) M v2 c.names) ?_ c.names.length _ _ _ ?_
  case refine_2 => exact ⟨0, _, by simp (disch := first | rfl | omega | exact lt_new _ | assumption | decide | (simp [tk_here, tk_app, tk_0, tk_S, gr_here, gr_app, gr_0, gr_S] <;> omega) | fail) only [go_sem, ↓reduceIte, Nat.reduceLT, Nat.reduceEqDiff, Nat.reduceAdd, Nat.reduceMul, Nat.reduceSub, Int.reduceAdd, Int.reduceSub, Nat.reduceLeDiff, Int.reduceLT, Int.reduceLE, Int.reduceEq, Int.reduceNeg, Int.reduceToNat], by omega, rfl, rfl, by simp [go_sem], by simp [go_sem], by simp [go_sem], by simp [go_sem], by simp [go_sem], q1, r2⟩
  rintro m T D H' ⟨i, M, rfl, hi, rfl, rfl, t1, t2, t18, t19, t20, q1, q2⟩
  by_cases hlt : i < c.names.length
  · have hlt' : (i : Int) < c.names.length := by omega
    rcases RowM.two q2 with ⟨_, hnil⟩ | ⟨j, g, hv, hj, hr⟩
    · rw [hnil] at hlt; cases hlt
    have hv' : v2 = .slice (H.length + (j + 1 + 1)) g 0 c.names.length 2 .full := hv
    have p1 : partV Try.prog 97 (flatE nmE c.names) (i * 2) = some (.agg (nmE.f (nmE.at c.names i))) := ld_nmE (H := H) hlt
    have ec := e118 (b := (nmE.at c.names i).addrN) (ha1 _ (nmE.at_mem hlt))
    have hfs : setAt (flatE nmE c.names) (i * 2 + 0) [slV (nmE.at c.names i).addrN byE (nmE.at c.names i).addr] = flatE nmE c.names := flatE_same (E := nmE) hlt (by decide) rfl
    have hfl : (flatE nmE c.names).length = c.names.length * 2 := flatE_len
    have hle : i * 2 + 0 + 1 ≤ c.names.length * 2 := by omega
    have hse := (RowM.get hr).2
    subst hv'
    rw [Nat.add_zero] at hfs hle
    simp (disch := first | rfl | omega | exact lt_new _ | assumption | decide | (simp [tk_here, tk_app, tk_0, tk_S, gr_here, gr_app, gr_0, gr_S] <;> omega) | fail) only [r74_0, r74_1, r74_2, r74_3, r74_4, r74_5, r74_6, r74_7, l74_8, r74_9, r74_10, r74_11, r74_12, r74_13, r74_14, l74_15, r74_16, r74_17, r74_18, r74_19, r74_20, r74_21, l74_22, r74_23, c74, rs74, gc74, go_sem, ↓reduceIte, Nat.reduceLT, Nat.reduceEqDiff, Nat.reduceAdd, Nat.reduceMul, Nat.reduceSub, Int.reduceAdd, Int.reduceSub, Nat.reduceLeDiff, Int.reduceLT, Int.reduceLE, Int.reduceEq, Int.reduceNeg, Int.reduceToNat, loadV_ptr, storeV_ptr, List.append_assoc, List.length_append, List.length_cons, List.length_nil, List.set_cons_zero, List.set_cons_succ, tk_here, tk_app, gr_here, gr_app, st_here, st_app, gr_l hj, st_l hj, hr, hse, t1, t2, t18, t19, t20, hlt', p1, ec, hfs, hfl, hle]
    exact ⟨_, by omega, i + 1, M ++ [_], rfl, hlt, rfl, rfl, RowM.app q1 _, RowM.app q2 _⟩
  · obtain rfl : i = c.names.length := by omega
    have t0 := Int.lt_irrefl
    obtain ⟨v3, L3, e3, r3⟩ := fn119 (b := c.secretsN) hlen.2.2.1 (H ++ AB.row 0 [.str c.note, v1, v2, slV c.secretsN scE c.secrets, slV c.packetsN pkE c.packets] true :: AB.row 0 [.str [], .nilslice, .nilslice, .nilslice, .nilslice] true :: M)
    rw [show (H ++ AB.row 0 [.str c.note, v1, v2, slV c.secretsN scE c.secrets, slV c.packetsN pkE c.packets] true :: AB.row 0 [.str [], .nilslice, .nilslice, .nilslice, .nilslice] true :: M).length = H.length + 2 + M.length by simp; omega] at r3
    replace r3 := RowM.pre M r3
    replace q1 := RowM.app q1 L3
    replace q2 := RowM.app q2 L3
    obtain ⟨c31, c32, c33, c34, c35, c36, c37⟩ := r3.cell
    have n3 := fun H' => r3.len (P := Try.prog) (t := 28) (z := 2) (by kernel_rfl) H'
    simp (disch := first | rfl | omega | exact lt_new _ | assumption | decide | (simp [tk_here, tk_app, tk_0, tk_S, gr_here, gr_app, gr_0, gr_S] <;> omega) | fail) only [r74_0, r74_1, r74_2, r74_3, r74_4, r74_5, r74_6, r74_7, l74_8, r74_9, r74_10, r74_11, r74_12, r74_13, r74_14, l74_15, r74_16, r74_17, r74_18, r74_19, r74_20, r74_21, l74_22, r74_23, c74, rs74, gc74, go_sem, ↓reduceIte, Nat.reduceLT, Nat.reduceEqDiff, Nat.reduceAdd, Nat.reduceMul, Nat.reduceSub, Int.reduceAdd, Int.reduceSub, Nat.reduceLeDiff, Int.reduceLT, Int.reduceLE, Int.reduceEq, Int.reduceNeg, Int.reduceToNat, loadV_ptr, storeV_ptr, List.append_assoc, List.length_append, List.length_cons, List.length_nil, List.set_cons_zero, List.set_cons_succ, tk_here, tk_app, gr_here, gr_app, st_here, st_app, t1, t2, t18, t19, t20, t0, e3, n3, c11, c12, c13, c14, c15, c16, c17, c21, c22, c23, c24, c25, c26, c27, c31, c32, c33, c34, c35, c36, c37]
    refine Wp_loop (fun m T D H' => ∃ i M, m = c.secrets.length - i ∧ i ≤ c.secrets.length ∧ D = [] ∧ H' = H ++ AB.row 0 [.str c.note, v1, v2, v3, slV c.packetsN pkE c.packets] true :: AB.row 0 [.str [], .nilslice, .nilslice, .nilslice, .nilslice] true :: M ∧ get T 1 = .ptr H.length 0 0 ∧ get T 2 = .ptr (H.length + 1) 0 0 ∧ get T 39 = v3 ∧ get T 40 = .int .i64 c.secrets.length ∧ get T 41 = .int .i64 i ∧ RowM fcE (H.length + 2) M v1 c.faces ∧ RowM nmE (H.length + 2) M v2 c.names ∧ RowM scE (H.length + 2) M v3 c.secrets) ?_ c.secrets.length _ _ _ ?_
    case refine_2 => exact ⟨0, _, by simp (disch := first | rfl | omega | exact lt_new _ | assumption | decide | (simp [tk_here, tk_app, tk_0, tk_S, gr_here, gr_app, gr_0, gr_S] <;> omega) | fail) only [go_sem, ↓reduceIte, Nat.reduceLT, Nat.reduceEqDiff, Nat.reduceAdd, Nat.reduceMul, Nat.reduceSub, Int.reduceAdd, Int.reduceSub, Nat.reduceLeDiff, Int.reduceLT, Int.reduceLE, Int.reduceEq, Int.reduceNeg, Int.reduceToNat], by omega, rfl, rfl, by simp [go_sem, t1, t2], by simp [go_sem, t1, t2], by simp [go_sem], by simp [go_sem], by simp [go_sem], q1, q2, r3⟩
    rintro m T D H' ⟨i, M, rfl, hi, rfl, rfl, t1, t2, t39, t40, t41, q1, q2, q3⟩
    by_cases hlt : i < c.secrets.length
    · have hlt' : (i : Int) < c.secrets.length := by omega
      rcases RowM.two q3 with ⟨_, hnil⟩ | ⟨j, g, hv, hj, hr⟩
      · rw [hnil] at hlt; cases hlt
      have hv' : v3 = .slice (H.length + (j + 1 + 1)) g 0 c.secrets.length 2 .full := hv
      have p1 : partV Try.prog 100 (flatE scE c.secrets) (i * 2) = some (.agg (scE.f (scE.at c.secrets i))) := ld_scE (H := H) hlt
      have ec := e118 (b := (scE.at c.secrets i).keyN) (ha2 _ (scE.at_mem hlt))
      have hfs : setAt (flatE scE c.secrets) (i * 2 + 1) [slV (scE.at c.secrets i).keyN byE (scE.at c.secrets i).key] = flatE scE c.secrets := flatE_same (E := scE) hlt (by decide) rfl
      have hfl : (flatE scE c.secrets).length = c.secrets.length * 2 := flatE_len
      have hle : i * 2 + 1 + 1 ≤ c.secrets.length * 2 := by omega
      have hse := (RowM.get hr).2
      subst hv'
      simp (disch := first | rfl | omega | exact lt_new _ | assumption | decide | (simp [tk_here, tk_app, tk_0, tk_S, gr_here, gr_app, gr_0, gr_S] <;> omega) | fail) only [r74_0, r74_1, r74_2, r74_3, r74_4, r74_5, r74_6, r74_7, l74_8, r74_9, r74_10, r74_11, r74_12, r74_13, r74_14, l74_15, r74_16, r74_17, r74_18, r74_19, r74_20, r74_21, l74_22, r74_23, c74, rs74, gc74, go_sem, ↓reduceIte, Nat.reduceLT, Nat.reduceEqDiff, Nat.reduceAdd, Nat.reduceMul, Nat.reduceSub, Int.reduceAdd, Int.reduceSub, Nat.reduceLeDiff, Int.reduceLT, Int.reduceLE, Int.reduceEq, Int.reduceNeg, Int.reduceToNat, loadV_ptr, storeV_ptr, List.append_assoc, List.length_append, List.length_cons, List.length_nil, List.set_cons_zero, List.set_cons_succ, tk_here, tk_app, gr_here, gr_app, st_here, st_app, gr_l hj, st_l hj, hr, hse, t1, t2, t39, t40, t41, hlt', p1, ec, hfs, hfl, hle]
      exact ⟨_, by omega, i + 1, M ++ [_], rfl, hlt, rfl, rfl, RowM.app q1 _, RowM.app q2 _, RowM.app q3 _⟩
    · obtain rfl : i = c.secrets.length := by omega
      have t0 := Int.lt_irrefl
      obtain ⟨v4, L4, e4, r4⟩ := fn120 (b := c.packetsN) hlen.2.2.2 (H ++ AB.row 0 [.str c.note, v1, v2, v3, slV c.packetsN pkE c.packets] true :: AB.row 0 [.str [], .nilslice, .nilslice, .nilslice, .nilslice] true :: M)
      rw [show (H ++ AB.row 0 [.str c.note, v1, v2, v3, slV c.packetsN pkE c.packets] true :: AB.row 0 [.str [], .nilslice, .nilslice, .nilslice, .nilslice] true :: M).length = H.length + 2 + M.length by simp; omega] at r4
      obtain ⟨c41, c42, c43, c44, c45, c46, c47⟩ := r4.cell
      have n4 := fun H' => r4.len (P := Try.prog) (t := 29) (z := 5) (by kernel_rfl) H'
      simp (disch := first | rfl | omega | exact lt_new _ | assumption | decide | (simp [tk_here, tk_app, tk_0, tk_S, gr_here, gr_app, gr_0, gr_S] <;> omega) | fail) only [r74_0, r74_1, r74_2, r74_3, r74_4, r74_5, r74_6, r74_7, l74_8, r74_9, r74_10, r74_11, r74_12, r74_13, r74_14, l74_15, r74_16, r74_17, r74_18, r74_19, r74_20, r74_21, l74_22, r74_23, c74, rs74, gc74, go_sem, ↓reduceIte, Nat.reduceLT, Nat.reduceEqDiff, Nat.reduceAdd, Nat.reduceMul, Nat.reduceSub, Int.reduceAdd, Int.reduceSub, Nat.reduceLeDiff, Int.reduceLT, Int.reduceLE, Int.reduceEq, Int.reduceNeg, Int.reduceToNat, loadV_ptr, storeV_ptr, List.append_assoc, List.length_append, List.length_cons, List.length_nil, List.set_cons_zero, List.set_cons_succ, tk_here, tk_app, gr_here, gr_app, st_here, st_app, t1, t2, t39, t40, t41, t0, e4, n4, c11, c12, c13, c14, c15, c16, c17, c21, c22, c23, c24, c25, c26, c27, c31, c32, c33, c34, c35, c36, c37, c41, c42, c43, c44, c45, c46, c47]
      refine Wp_loop (fun m T D H' => ∃ i Y X, m = c.packets.length - i ∧ i ≤ c.packets.length ∧ D = [] ∧ H' = H ++ AB.row 0 [.str c.note, v1, v2, v3, v4] true :: AB.row 0 [.str [], .nilslice, .nilslice, .nilslice, .nilslice] true :: Y ∧ get T 1 = .ptr H.length 0 0 ∧ get T 2 = .ptr (H.length + 1) 0 0 ∧ get T 60 = v4 ∧ get T 61 = .int .i64 c.packets.length ∧ get T 62 = .int .i64 i ∧ Y = M ++ X ∧ RowM pkE (H.length + 2 + M.length) X v4 c.packets) ?_ c.packets.length _ _ _ ?_
      case refine_2 => exact ⟨0, _, L4, by simp (disch := first | rfl | omega | exact lt_new _ | assumption | decide | (simp [tk_here, tk_app, tk_0, tk_S, gr_here, gr_app, gr_0, gr_S] <;> omega) | fail) only [go_sem, ↓reduceIte, Nat.reduceLT, Nat.reduceEqDiff, Nat.reduceAdd, Nat.reduceMul, Nat.reduceSub, Int.reduceAdd, Int.reduceSub, Nat.reduceLeDiff, Int.reduceLT, Int.reduceLE, Int.reduceEq, Int.reduceNeg, Int.reduceToNat], by omega, rfl, rfl, by simp [go_sem, t1, t2], by simp [go_sem, t1, t2], by simp [go_sem], by simp [go_sem], by simp [go_sem], rfl, r4⟩
      rintro m T D H' ⟨i, Y, X, rfl, hi, rfl, rfl, t1, t2, t60, t61, t62, hY, qX⟩
      have q4 : RowM pkE (H.length + 2) Y v4 c.packets := by rw [hY]; exact RowM.pre M qX
      by_cases hlt : i < c.packets.length
      · have hlt' : (i : Int) < c.packets.length := by omega
        rcases RowM.two q4 with ⟨_, hnil⟩ | ⟨j, g, hv, hj, hr⟩
        · rw [hnil] at hlt; cases hlt
        have hv' : v4 = .slice (H.length + (j + 1 + 1)) g 0 c.packets.length 5 .full := hv
        have p1 : partV Try.prog 56 (flatE pkE c.packets) (i * 5) = some (.agg (pkE.f (pkE.at c.packets i))) := ld_pkE (H := H) hlt
        have ec := e118 (b := (pkE.at c.packets i).dataN) (ha3 _ (pkE.at_mem hlt))
        have hfs : setAt (flatE pkE c.packets) (i * 5 + 3) [slV (pkE.at c.packets i).dataN byE (pkE.at c.packets i).data] = flatE pkE c.packets := flatE_same (E := pkE) hlt (by decide) rfl
        have hfl : (flatE pkE c.packets).length = c.packets.length * 5 := flatE_len
        have hle : i * 5 + 3 + 1 ≤ c.packets.length * 5 := by omega
        have hse := (RowM.get hr).2
        subst hv'
        simp (disch := first | rfl | omega | exact lt_new _ | assumption | decide | (simp [tk_here, tk_app, tk_0, tk_S, gr_here, gr_app, gr_0, gr_S] <;> omega) | fail) only [r74_0, r74_1, r74_2, r74_3, r74_4, r74_5, r74_6, r74_7, l74_8, r74_9, r74_10, r74_11, r74_12, r74_13, r74_14, l74_15, r74_16, r74_17, r74_18, r74_19, r74_20, r74_21, l74_22, r74_23, c74, rs74, gc74, go_sem, ↓reduceIte, Nat.reduceLT, Nat.reduceEqDiff, Nat.reduceAdd, Nat.reduceMul, Nat.reduceSub, Int.reduceAdd, Int.reduceSub, Nat.reduceLeDiff, Int.reduceLT, Int.reduceLE, Int.reduceEq, Int.reduceNeg, Int.reduceToNat, loadV_ptr, storeV_ptr, List.append_assoc, List.length_append, List.length_cons, List.length_nil, List.set_cons_zero, List.set_cons_succ, tk_here, tk_app, gr_here, gr_app, st_here, st_app, gr_l hj, st_l hj, hr, hse, t1, t2, t60, t61, t62, hlt', p1, ec, hfs, hfl, hle]
        exact ⟨_, by omega, i + 1, Y ++ [_], X ++ [_], rfl, hlt, rfl, rfl, by rw [hY, List.append_assoc], RowM.app qX _⟩
      · obtain rfl : i = c.packets.length := by omega
        have t0 := Int.lt_irrefl
        simp (disch := first | rfl | omega | exact lt_new _ | assumption | decide | (simp [tk_here, tk_app, tk_0, tk_S, gr_here, gr_app, gr_0, gr_S] <;> omega) | fail) only [r74_0, r74_1, r74_2, r74_3, r74_4, r74_5, r74_6, r74_7, l74_8, r74_9, r74_10, r74_11, r74_12, r74_13, r74_14, l74_15, r74_16, r74_17, r74_18, r74_19, r74_20, r74_21, l74_22, r74_23, c74, rs74, gc74, go_sem, ↓reduceIte, Nat.reduceLT, Nat.reduceEqDiff, Nat.reduceAdd, Nat.reduceMul, Nat.reduceSub, Int.reduceAdd, Int.reduceSub, Nat.reduceLeDiff, Int.reduceLT, Int.reduceLE, Int.reduceEq, Int.reduceNeg, Int.reduceToNat, loadV_ptr, storeV_ptr, List.append_assoc, List.length_append, List.length_cons, List.length_nil, List.set_cons_zero, List.set_cons_succ, tk_here, tk_app, gr_here, gr_app, st_here, st_app, t1, t2, t60, t61, t62, t0, c11, c12, c13, c14, c15, c16, c17, c21, c22, c23, c24, c25, c26, c27, c31, c32, c33, c34, c35, c36, c37, c41, c42, c43, c44, c45, c46, c47]
        subst hY
        refine ⟨v1, v2, v3, v4, AB.row 0 [.str c.note, v1, v2, v3, v4] true :: AB.row 0 [.str c.note, v1, v2, v3, v4] true :: M, X, by simp, RowM.pre [_, _] q1, RowM.pre [_, _] q2, RowM.pre [_, _] q3, ?_⟩
        rw [show H.length + (AB.row 0 [.str c.note, v1, v2, v3, v4] true :: AB.row 0 [.str c.note, v1, v2, v3, v4] true :: M).length = H.length + 2 + M.length by simp; omega]
        exact qX
theorem fn74 (c : Cp) (hs : CpS c) (H : Hp) : ∃ v1 v2 v3 v4 L, callL Try.prog pr 74 [.agg (cpE.f c)] H = some (.agg [.str c.note, v1, v2, v3, v4], H ++ L) ∧ RowM fcE H.length L v1 c.faces ∧ RowM nmE H.length L v2 c.names ∧ RowM scE H.length L v3 c.secrets ∧ RowM pkE H.length L v4 c.packets := by
  obtain ⟨v1, v2, v3, v4, L, X, h1, h2, h3, h4, h5⟩ := fn74s c hs H
  exact ⟨v1, v2, v3, v4, L ++ X, h1, h2.app X, h3.app X, h4.app X, RowM.pre L h5⟩
end Go.Proofs.Ytejkgnmjdaohdaa
/-
  Rows whose cells are set one by one. No statement of the seat stands here.
-/
namespace Go.An
open Go
variable {α : Type}
theorem setAt_set {cs : List V} {j : Nat} (h : j < cs.length) (v : V) : setAt cs j [v] = cs.set j v := by
  rw [List.set_eq_take_append_cons_drop, if_pos h]
  simp [setAt]
theorem flatE_cons (E : Enc α) (a : α) (l : List α) : flatE E (a :: l) = E.f a ++ flatE E l := by simp [flatE]
theorem flatE_setc {E : Enc α} {j : Nat} {v : V} {x : α} (hj : j < E.w) : ∀ {l : List α} {i : Nat}, i < l.length → (E.f (E.at l i)).set j v = E.f x → (flatE E l).set (i * E.w + j) v = flatE E (l.set i x)
  | [], _, h, _ => by cases h
  | y :: ys, 0, _, h => by
    have e : E.at (y :: ys) 0 = y := by simp [Enc.at]
    rw [e] at h
    rw [flatE_cons, List.set_cons_zero, flatE_cons, List.set_append_left _ _ (by rw [E.len]; omega), Nat.zero_mul, Nat.zero_add, h]
  | y :: ys, i + 1, hi, h => by
    have e : E.at (y :: ys) (i + 1) = E.at ys i := by simp [Enc.at]
    rw [e] at h
    have ih := flatE_setc (E := E) (v := v) (x := x) hj (l := ys) (i := i) (by simpa using hi) h
    rw [flatE_cons, List.set_cons_succ, flatE_cons, List.set_append_right _ _ (by rw [E.len, Nat.add_mul]; omega), E.len, show (i + 1) * E.w + j - E.w = i * E.w + j by rw [Nat.add_mul]; omega, ih]
/-- One cell of one element of a row is set. -/
theorem flatE_at_set [Orc] {E : Enc α} {l : List α} {i j : Nat} {v : V} {x : α} (hi : i < l.length) (hj : j < E.w) (h : (E.f (E.at l i)).set j v = E.f x) : setAt (flatE E l) (i * E.w + j) [v] = flatE E (l.set i x) := by
  rw [setAt_set (by rw [flatE_len]; have : i * E.w + E.w ≤ l.length * E.w := by rw [← Nat.succ_mul]; exact Nat.mul_le_mul_right _ hi
                    omega), flatE_setc hj hi h]
/-- A list whose first elements are changed. -/
def mix (g : α → α) (l : List α) (i : Nat) : List α := (l.take i).map g ++ l.drop i
theorem mix_0 (g : α → α) (l : List α) : mix g l 0 = l := by simp [mix]
theorem mix_len (g : α → α) (l : List α) (i : Nat) : (mix g l i).length = l.length := by simp [mix]; omega
theorem mix_all (g : α → α) (l : List α) : mix g l l.length = l.map g := by simp [mix]
theorem mix_get (g : α → α) {l : List α} {i : Nat} (h : i < l.length) : (mix g l i)[i]? = l[i]? := by
  have : ((l.take i).map g).length = i := by simp; omega
  rw [mix, List.getElem?_append_right (by omega), this, Nat.sub_self]
  simp
theorem mix_at (E : Enc α) (g : α → α) {l : List α} {i : Nat} (h : i < l.length) : E.at (mix g l i) i = E.at l i := by
  have h1 := E.at_some (l := mix g l i) (i := i) (by rw [mix_len]; exact h)
  rw [mix_get g h, E.at_some h] at h1
  exact (Option.some.inj h1).symm
theorem mix_set (E : Enc α) (g : α → α) {l : List α} {i : Nat} (h : i < l.length) : (mix g l i).set i (g (E.at l i)) = mix g l (i + 1) := by
  have h0 : ((l.take i).map g).length = i := by simp; omega
  have h1 : l.drop i = E.at l i :: l.drop (i + 1) := by
    rw [List.drop_eq_getElem_cons h]
    have h2 := E.at_some h
    rw [List.getElem?_eq_getElem h] at h2
    rw [Option.some.inj h2]
  have h3 : (l.take (i + 1)).map g = (l.take i).map g ++ [g (E.at l i)] := by
    rw [List.take_add_one, E.at_some h]; simp
  unfold mix
  rw [List.set_append_right _ _ (by omega), h0, Nat.sub_self, h1, List.set_cons_zero, h3]
  simp
end Go.An
/-
  Captures that are told to be right; times that are moved, walked. No statement of the seat stands here.
-/
namespace Go.Proofs.Ytejkgnmjdaohdaa
open Go Go.An
set_option maxRecDepth 4000
set_option linter.unusedSimpArgs false
set_option linter.unusedVariables false

def CpEq (c d : Cp) : Prop := c.note = d.note ∧ c.faces = d.faces ∧ c.names = d.names ∧ c.secrets = d.secrets ∧ c.packets = d.packets
/-- The times of packets are small. -/
def PkT (p : Pk) : Prop := 0 ≤ p.time ∧ p.time ≤ 1000000000000000
theorem val_pk {c : Cp} (h : valE c = 0) : (∀ p ∈ c.packets, pfB p c.faces = true) ∧ (c.packets.length ≤ 100 ∧ c.secrets.length ≤ 60 ∧ c.names.length ≤ 60 ∧ c.faces.length ≤ 4) ∧ 1 ≤ c.faces.length := by
  unfold valE at h
  split at h
  · cases h
  · rename_i h1
    split at h
    · cases h
    · rename_i h2
      unfold largeB at h1
      unfold wrongB at h2
      simp only [Bool.or_eq_true, decide_eq_true_eq, not_or, List.any_eq_true, not_exists, not_and, Bool.not_eq_true', Bool.not_eq_false] at h1 h2
      refine ⟨fun p hp => h2.2 p hp, by omega, ?_⟩
      have := h2.1.1.1.1.1
      omega
theorem pf_pk {p : Pk} {fs : List Fc} (h : pfB p fs = true) : PkT p ∧ 0 ≤ p.face ∧ p.face < fs.length ∧ p.data.length ≤ 400 ∧ (p.data.length : Int) ≤ p.real ∧ p.real ≤ 1000000 := by
  unfold pfB pkB at h
  simp only [Bool.and_eq_true, decide_eq_true_eq, Bool.or_eq_true] at h
  exact ⟨⟨h.2.1.1.1.1.1.1, h.2.1.1.1.1.1.2⟩, h.1.1, h.1.2, by have := h.2.1.1.1.1.2; omega, h.2.1.2, h.2.2⟩
theorem val_S {c : Cp} (hv : valE c = 0) : CpS c := by
  obtain ⟨hpf, ⟨h1, h2, h3, h4⟩, _⟩ := val_pk hv
  have hw : (∀ n ∈ c.names, nmB n = true) ∧ ∀ s ∈ c.secrets, scB s = true := by
    unfold valE at hv
    split at hv
    · cases hv
    · split at hv
      · cases hv
      · rename_i h2
        unfold wrongB at h2
        simp only [Bool.or_eq_true, decide_eq_true_eq, not_or, List.any_eq_true, not_exists, not_and, Bool.not_eq_true', Bool.not_eq_false] at h2
        exact ⟨fun n hn => h2.1.1.2 n hn, fun n hn => h2.1.2 n hn⟩
  refine ⟨by omega, fun x hx => ?_, fun x hx => ?_, fun x hx => ?_⟩
  · have := hw.1 x hx
    unfold nmB at this
    simp only [Bool.and_eq_true, decide_eq_true_eq] at this
    omega
  · have := hw.2 x hx
    unfold scB at this
    simp only [Bool.and_eq_true, decide_eq_true_eq] at this
    omega
  · have := pf_pk (hpf x hx)
    omega
def noCp : Cp := ⟨[], true, [], true, [], true, [], true, []⟩
theorem noCp_f : cpE.f noCp = [.str [], .nilslice, .nilslice, .nilslice, .nilslice] := by
  rw [cpE_f]
  simp only [noCp, slV_nil]
theorem CpEq.rfl' (c : Cp) : CpEq c c := ⟨rfl, rfl, rfl, rfl, rfl⟩
theorem fn76 (c : Cp) {b : Bool} {l : List Pk} (H : Hp) : callL Try.prog pr 76 [.agg (cpE.f c), slV b pkE l] H = some (.agg (cpE.f {c with packetsN := b, packets := l}), H) := by
  refine run76 (Nat.le_of_ble_eq_true rfl) ?_
  simp only [cpE_f]
  simp (disch := first | rfl | omega | exact lt_new _ | assumption | decide | (simp [tk_here, tk_app, tk_0, tk_S, gr_here, gr_app, gr_0, gr_S] <;> omega) | fail) only [r76_0, r76_1, r76_2, c76, rs76, gc76, go_sem, ↓reduceIte, Nat.reduceLT, Nat.reduceEqDiff, Nat.reduceAdd, Nat.reduceMul, Nat.reduceSub, Int.reduceAdd, Int.reduceSub, Nat.reduceLeDiff, Int.reduceLT, Int.reduceLE, Int.reduceEq, Int.reduceNeg, Int.reduceToNat, loadV_ptr, storeV_ptr, List.append_assoc, List.length_append, List.length_cons, List.length_nil, List.set_cons_zero, List.set_cons_succ, tk_here, tk_app, gr_here, gr_app, st_here, st_app]
  exact finQ_app (by simp (disch := first | rfl | omega | exact lt_new _ | assumption | decide | (simp [tk_here, tk_app, tk_0, tk_S, gr_here, gr_app, gr_0, gr_S] <;> omega) | fail) only [go_sem, ↓reduceIte, Nat.reduceLT, Nat.reduceEqDiff, Nat.reduceAdd, Nat.reduceMul, Nat.reduceSub, Int.reduceAdd, Int.reduceSub, Nat.reduceLeDiff, Int.reduceLT, Int.reduceLE, Int.reduceEq, Int.reduceNeg, Int.reduceToNat])

theorem RowM.four {α : Type} {E : Enc α} {n : Nat} {L M : Hp} {v : V} {l : List α} (h : RowM E (n + 2 + L.length) M v l) : (v = .nilslice ∧ l = []) ∨ ∃ j g, v = .slice (n + (L.length + j + 1 + 1)) g 0 l.length E.w .full ∧ j < M.length ∧ getRow M j g = some (flatE E l, true) := by
  rcases h with h | ⟨j, g, rfl, h⟩
  · exact Or.inl h
  · exact Or.inr ⟨j, g, by rw [show n + 2 + L.length + j = n + (L.length + j + 1 + 1) by omega], h⟩
/-- Added to a time. -/
def addF (t b : Int) : Int × Bool := if 1000000000000000 < b ∨ b < -1000000000000000 then (0, false) else (t + b, okT (t + b))
theorem fn93 {t b : Int} (h0 : 0 ≤ t) (h1 : t ≤ 1000000000000000) (H : Hp) : callL Try.prog pr 93 [.int .i64 t, .int .i64 b] H = some (.tup [.int .i64 (addF t b).1, .bool (addF t b).2], H) := by
  have h68 := fun n H => fn68 n H
  unfold addF
  by_cases hb : 1000000000000000 < b ∨ b < -1000000000000000
  · rw [if_pos hb]
    have hb2 : ¬ 1000000000000000 < b → b < -1000000000000000 := fun h => hb.resolve_left h
    refine run93 (Nat.le_of_ble_eq_true rfl) ?_
    simp (disch := first | rfl | omega | exact lt_new _ | assumption | decide | (simp [tk_here, tk_app, tk_0, tk_S, gr_here, gr_app, gr_0, gr_S] <;> omega) | fail) only [r93_0, r93_1, r93_2, r93_3, c93, rs93, gc93, h68, hb2, go_sem, ↓reduceIte, Nat.reduceLT, Nat.reduceEqDiff, Nat.reduceAdd, Nat.reduceMul, Nat.reduceSub, Int.reduceAdd, Int.reduceSub, Nat.reduceLeDiff, Int.reduceLT, Int.reduceLE, Int.reduceEq, Int.reduceNeg, Int.reduceToNat]
    repeat' ((first | refine guardB_dec (fun hy => ?_) (fun hy => ?_) | refine guardB_bool (fun hy => ?_) (fun hy => ?_) | refine guardQ_ite (fun hy => ?_) (fun hy => ?_) | refine brQ_dec (fun hy => ?_) (fun hy => ?_) | refine brQ_bool (fun hy => ?_) (fun hy => ?_)) <;> (try simp only [Bool.not_eq_true', Bool.not_eq_false', Bool.and_eq_true, Bool.or_eq_false_iff, decide_eq_true_eq, decide_eq_false_iff_not] at hy) <;> simp (disch := first | rfl | omega | exact lt_new _ | assumption | decide | (simp [tk_here, tk_app, tk_0, tk_S, gr_here, gr_app, gr_0, gr_S] <;> omega) | fail) only [r93_0, r93_1, r93_2, r93_3, c93, rs93, gc93, h68, hb2, go_sem, ↓reduceIte, Nat.reduceLT, Nat.reduceEqDiff, Nat.reduceAdd, Nat.reduceMul, Nat.reduceSub, Int.reduceAdd, Int.reduceSub, Nat.reduceLeDiff, Int.reduceLT, Int.reduceLE, Int.reduceEq, Int.reduceNeg, Int.reduceToNat, hy])
    all_goals (try ((first | refine finQ_same ?_ | refine finQ_app ?_ | (rw [List.append_assoc]; refine finQ_app ?_)) <;> simp (disch := first | rfl | omega | exact lt_new _ | assumption | decide | (simp [tk_here, tk_app, tk_0, tk_S, gr_here, gr_app, gr_0, gr_S] <;> omega) | fail) only [go_sem, ↓reduceIte, Nat.reduceLT, Nat.reduceEqDiff, Nat.reduceAdd, Nat.reduceMul, Nat.reduceSub, Int.reduceAdd, Int.reduceSub, Nat.reduceLeDiff, Int.reduceLT, Int.reduceLE, Int.reduceEq, Int.reduceNeg, Int.reduceToNat, List.append_assoc, List.cons_append, List.nil_append, *]))
    all_goals (try first | rfl | (simp [*]; done) | grind)
  · rw [if_neg hb]
    have hb1 : ¬ 1000000000000000 < b := fun h => hb (.inl h)
    have hb2 : ¬ b < -1000000000000000 := fun h => hb (.inr h)
    have hw : IntKind.i64.wrap (t + b) = t + b := IntWalk.i64_in _ (by omega)
    refine run93 (Nat.le_of_ble_eq_true rfl) ?_
    simp (disch := first | rfl | omega | exact lt_new _ | assumption | decide | (simp [tk_here, tk_app, tk_0, tk_S, gr_here, gr_app, gr_0, gr_S] <;> omega) | fail) only [r93_0, r93_1, r93_2, r93_3, c93, rs93, gc93, h68, hb1, hb2, hw, go_sem, ↓reduceIte, Nat.reduceLT, Nat.reduceEqDiff, Nat.reduceAdd, Nat.reduceMul, Nat.reduceSub, Int.reduceAdd, Int.reduceSub, Nat.reduceLeDiff, Int.reduceLT, Int.reduceLE, Int.reduceEq, Int.reduceNeg, Int.reduceToNat]
    repeat' ((first | refine guardB_dec (fun hy => ?_) (fun hy => ?_) | refine guardB_bool (fun hy => ?_) (fun hy => ?_) | refine guardQ_ite (fun hy => ?_) (fun hy => ?_) | refine brQ_dec (fun hy => ?_) (fun hy => ?_) | refine brQ_bool (fun hy => ?_) (fun hy => ?_)) <;> (try simp only [Bool.not_eq_true', Bool.not_eq_false', Bool.and_eq_true, Bool.or_eq_false_iff, decide_eq_true_eq, decide_eq_false_iff_not] at hy) <;> simp (disch := first | rfl | omega | exact lt_new _ | assumption | decide | (simp [tk_here, tk_app, tk_0, tk_S, gr_here, gr_app, gr_0, gr_S] <;> omega) | fail) only [r93_0, r93_1, r93_2, r93_3, c93, rs93, gc93, h68, hb1, hb2, hw, go_sem, ↓reduceIte, Nat.reduceLT, Nat.reduceEqDiff, Nat.reduceAdd, Nat.reduceMul, Nat.reduceSub, Int.reduceAdd, Int.reduceSub, Nat.reduceLeDiff, Int.reduceLT, Int.reduceLE, Int.reduceEq, Int.reduceNeg, Int.reduceToNat, hy])
    all_goals (try ((first | refine finQ_same ?_ | refine finQ_app ?_ | (rw [List.append_assoc]; refine finQ_app ?_)) <;> simp (disch := first | rfl | omega | exact lt_new _ | assumption | decide | (simp [tk_here, tk_app, tk_0, tk_S, gr_here, gr_app, gr_0, gr_S] <;> omega) | fail) only [go_sem, ↓reduceIte, Nat.reduceLT, Nat.reduceEqDiff, Nat.reduceAdd, Nat.reduceMul, Nat.reduceSub, Int.reduceAdd, Int.reduceSub, Nat.reduceLeDiff, Int.reduceLT, Int.reduceLE, Int.reduceEq, Int.reduceNeg, Int.reduceToNat, List.append_assoc, List.cons_append, List.nil_append, *]))
    all_goals (try first | rfl | (simp [*]; done) | grind)
theorem fn92 {t b : Int} (h0 : 0 ≤ t) (h1 : t ≤ 1000000000000000) (H : Hp) : callL Try.prog pr 92 [.int .i64 t, .ipt [.int .i64 b] 0] H = some (.tup [.int .i64 (addF t b).1, .bool (addF t b).2], H) := by
  have h93 := fun H => fn93 (b := b) h0 h1 H
  refine run92 (Nat.le_of_ble_eq_true rfl) ?_
  simp (disch := first | rfl | omega | exact lt_new _ | assumption | decide | (simp [tk_here, tk_app, tk_0, tk_S, gr_here, gr_app, gr_0, gr_S] <;> omega) | fail) only [r92_0, r92_1, c92, rs92, gc92, h93, go_sem, ↓reduceIte, Nat.reduceLT, Nat.reduceEqDiff, Nat.reduceAdd, Nat.reduceMul, Nat.reduceSub, Int.reduceAdd, Int.reduceSub, Nat.reduceLeDiff, Int.reduceLT, Int.reduceLE, Int.reduceEq, Int.reduceNeg, Int.reduceToNat]
  repeat' ((first | refine guardB_dec (fun hy => ?_) (fun hy => ?_) | refine guardB_bool (fun hy => ?_) (fun hy => ?_) | refine guardQ_ite (fun hy => ?_) (fun hy => ?_) | refine brQ_dec (fun hy => ?_) (fun hy => ?_) | refine brQ_bool (fun hy => ?_) (fun hy => ?_)) <;> (try simp only [Bool.not_eq_true', Bool.not_eq_false', Bool.and_eq_true, Bool.or_eq_false_iff, decide_eq_true_eq, decide_eq_false_iff_not] at hy) <;> simp (disch := first | rfl | omega | exact lt_new _ | assumption | decide | (simp [tk_here, tk_app, tk_0, tk_S, gr_here, gr_app, gr_0, gr_S] <;> omega) | fail) only [r92_0, r92_1, c92, rs92, gc92, h93, go_sem, ↓reduceIte, Nat.reduceLT, Nat.reduceEqDiff, Nat.reduceAdd, Nat.reduceMul, Nat.reduceSub, Int.reduceAdd, Int.reduceSub, Nat.reduceLeDiff, Int.reduceLT, Int.reduceLE, Int.reduceEq, Int.reduceNeg, Int.reduceToNat, hy])
  all_goals (try ((first | refine finQ_same ?_ | refine finQ_app ?_ | (rw [List.append_assoc]; refine finQ_app ?_)) <;> simp (disch := first | rfl | omega | exact lt_new _ | assumption | decide | (simp [tk_here, tk_app, tk_0, tk_S, gr_here, gr_app, gr_0, gr_S] <;> omega) | fail) only [go_sem, ↓reduceIte, Nat.reduceLT, Nat.reduceEqDiff, Nat.reduceAdd, Nat.reduceMul, Nat.reduceSub, Int.reduceAdd, Int.reduceSub, Nat.reduceLeDiff, Int.reduceLT, Int.reduceLE, Int.reduceEq, Int.reduceNeg, Int.reduceToNat, List.append_assoc, List.cons_append, List.nil_append, *]))
  all_goals (try first | rfl | (simp [*]; done) | grind)
end Go.Proofs.Ytejkgnmjdaohdaa
/-
  Captures whose times are moved, walked. No statement of the seat stands here.
-/
namespace Go.Proofs.Ytejkgnmjdaohdaa
open Go Go.An
set_option maxRecDepth 4000
set_option linter.unusedSimpArgs false
set_option linter.unusedVariables false

def setT (to : Int → Int × Bool) (p : Pk) : Pk := {p with time := (to p.time).1}
def okTo (to : Int → Int × Bool) (p : Pk) : Bool := (to p.time).2
def tmF (c : Cp) (to : Int → Int × Bool) : Cp × Int := if valE c = 0 then (if c.packets.all (okTo to) = true then ({c with packets := c.packets.map (setT to)}, 0) else (noCp, 1)) else (noCp, valE c)
theorem take_all {p : Pk → Bool} {l : List Pk} {i : Nat} (h : i < l.length) : (l.take (i + 1)).all p = ((l.take i).all p && p (pkE.at l i)) := by
  rw [pkE.take_at h]; simp
theorem all_drop {p : Pk → Bool} {l : List Pk} {i : Nat} (h : i < l.length) (hp : p (pkE.at l i) = false) : l.all p = false := by
  rw [List.all_eq_false]
  exact ⟨_, pkE.at_mem h, by simp [hp]⟩
set_option maxHeartbeats 2000000 in
theorem fn91 (c : Cp) (hc : CpOk c) (to : Int → Int × Bool) (f : Nat) (ca cb : List V) (hk : ∀ v, demK f v = v.dem) (hf : valE c = 0 → ∀ p ∈ c.packets, ∀ H, callL Try.prog pr f (ca ++ [.int .i64 p.time] ++ cb) H = some (.tup [.int .i64 (to p.time).1, .bool (to p.time).2], H)) (H : Hp) : ∃ d, callL Try.prog pr 91 [.agg (cpE.f c), .fn f ca cb] H = some (.tup [.agg (cpE.f d), .int .i64 (tmF c to).2], H) ∧ CpEq d (tmF c to).1 := by
  suffices h : ∃ r, callL Try.prog pr 91 [.agg (cpE.f c), .fn f ca cb] H = some r ∧ ∃ d, r = (.tup [.agg (cpE.f d), .int .i64 (tmF c to).2], H) ∧ CpEq d (tmF c to).1 by
    obtain ⟨_, h1, d, rfl, h2⟩ := h; exact ⟨d, h1, h2⟩
  have hfy := ne_demK hk
  have h54 := ask1 c hc
  refine ex91 (Nat.le_of_ble_eq_true rfl) ?_
  unfold tmF
  by_cases hv : valE c = 0
  case neg =>
    rw [if_neg hv]
    simp (disch := first | rfl | omega | exact lt_new _ | assumption | decide | (simp [tk_here, tk_app, tk_0, tk_S, gr_here, gr_app, gr_0, gr_S] <;> omega) | fail) only [r91_0, r91_1, r91_2, r91_3, r91_4, r91_5, r91_6, r91_7, r91_8, r91_9, r91_10, r91_11, r91_12, r91_14, c91, rs91, gc91, loadV_ptr, storeV_ptr, List.append_assoc, List.length_append, List.length_cons, List.length_nil, List.set_cons_zero, List.set_cons_succ, tk_here, tk_app, gr_here, gr_app, st_here, st_app, h54, hv, go_sem, ↓reduceIte, Nat.reduceLT, Nat.reduceEqDiff, Nat.reduceAdd, Nat.reduceMul, Nat.reduceSub, Int.reduceAdd, Int.reduceSub, Nat.reduceLeDiff, Int.reduceLT, Int.reduceLE, Int.reduceEq, Int.reduceNeg, Int.reduceToNat]
    repeat' ((first | refine guardB_dec (fun hy => ?_) (fun hy => ?_) | refine guardB_bool (fun hy => ?_) (fun hy => ?_) | refine guardQ_ite (fun hy => ?_) (fun hy => ?_) | refine brQ_dec (fun hy => ?_) (fun hy => ?_) | refine brQ_bool (fun hy => ?_) (fun hy => ?_)) <;> (try simp only [Bool.not_eq_true', Bool.not_eq_false', Bool.and_eq_true, Bool.or_eq_false_iff, decide_eq_true_eq, decide_eq_false_iff_not] at hy) <;> simp (disch := first | rfl | omega | exact lt_new _ | assumption | decide | (simp [tk_here, tk_app, tk_0, tk_S, gr_here, gr_app, gr_0, gr_S] <;> omega) | fail) only [r91_0, r91_1, r91_2, r91_3, r91_4, r91_5, r91_6, r91_7, r91_8, r91_9, r91_10, r91_11, r91_12, r91_14, c91, rs91, gc91, loadV_ptr, storeV_ptr, List.append_assoc, List.length_append, List.length_cons, List.length_nil, List.set_cons_zero, List.set_cons_succ, tk_here, tk_app, gr_here, gr_app, st_here, st_app, h54, hv, go_sem, ↓reduceIte, Nat.reduceLT, Nat.reduceEqDiff, Nat.reduceAdd, Nat.reduceMul, Nat.reduceSub, Int.reduceAdd, Int.reduceSub, Nat.reduceLeDiff, Int.reduceLT, Int.reduceLE, Int.reduceEq, Int.reduceNeg, Int.reduceToNat, hy])
    exact ⟨noCp, finQ_app (by rw [noCp_f]; simp (disch := first | rfl | omega | exact lt_new _ | assumption | decide | (simp [tk_here, tk_app, tk_0, tk_S, gr_here, gr_app, gr_0, gr_S] <;> omega) | fail) only [go_sem, ↓reduceIte, Nat.reduceLT, Nat.reduceEqDiff, Nat.reduceAdd, Nat.reduceMul, Nat.reduceSub, Int.reduceAdd, Int.reduceSub, Nat.reduceLeDiff, Int.reduceLT, Int.reduceLE, Int.reduceEq, Int.reduceNeg, Int.reduceToNat]), CpEq.rfl' _⟩
  rw [if_pos hv]
  replace hf := hf hv
  have hl := (val_pk hv).2.1.1
  have hc0 : cpE.f c = [.str c.note, slV c.facesN fcE c.faces, slV c.namesN nmE c.names, slV c.secretsN scE c.secrets, slV c.packetsN pkE c.packets] := rfl
  obtain ⟨v1, v2, v3, v4, L, X, e, q1, q2, q3, q4⟩ := fn74s c (val_S hv) (H ++ .row 0 (cpE.f c) true :: .row 0 [.str [], .nilslice, .nilslice, .nilslice, .nilslice] true :: [])
  rw [show (H ++ AB.row 0 (cpE.f c) true :: .row 0 [.str [], .nilslice, .nilslice, .nilslice, .nilslice] true :: []).length = H.length + 2 by simp] at q1 q2 q3 q4
  obtain ⟨c11, c12, c13, c14, c15, c16, c17⟩ := q1.cell
  obtain ⟨c21, c22, c23, c24, c25, c26, c27⟩ := q2.cell
  obtain ⟨c31, c32, c33, c34, c35, c36, c37⟩ := q3.cell
  obtain ⟨c41, c42, c43, c44, c45, c46, c47⟩ := q4.cell
  have n4 := fun H' => q4.len (P := Try.prog) (t := 29) (z := 5) (by kernel_rfl) H'
  rw [hc0] at e
  rw [hc0] at h54
  simp (disch := first | rfl | omega | exact lt_new _ | assumption | decide | (simp [tk_here, tk_app, tk_0, tk_S, gr_here, gr_app, gr_0, gr_S] <;> omega) | fail) only [r91_0, r91_1, r91_2, r91_3, r91_4, r91_5, r91_6, r91_7, r91_8, r91_9, r91_10, r91_11, r91_12, r91_14, c91, rs91, gc91, go_sem, ↓reduceIte, Nat.reduceLT, Nat.reduceEqDiff, Nat.reduceAdd, Nat.reduceMul, Nat.reduceSub, Int.reduceAdd, Int.reduceSub, Nat.reduceLeDiff, Int.reduceLT, Int.reduceLE, Int.reduceEq, Int.reduceNeg, Int.reduceToNat, loadV_ptr, storeV_ptr, List.append_assoc, List.length_append, List.length_cons, List.length_nil, List.set_cons_zero, List.set_cons_succ, tk_here, tk_app, gr_here, gr_app, st_here, st_app, h54, hv, hc0, e, n4, c11, c12, c13, c14, c15, c16, c17, c21, c22, c23, c24, c25, c26, c27, c31, c32, c33, c34, c35, c36, c37, c41, c42, c43, c44, c45, c46, c47]
  refine Wp_loop (fun m T D H' => ∃ k G Y, m = c.packets.length - k ∧ k ≤ c.packets.length ∧ D = [] ∧ H' = H ++ AB.row 0 [.str c.note, slV c.facesN fcE c.faces, slV c.namesN nmE c.names, slV c.secretsN scE c.secrets, slV c.packetsN pkE c.packets] true :: AB.row 0 [.str [], .nilslice, .nilslice, .nilslice, .nilslice] true :: (L ++ (Y ++ AB.row 0 [.str c.note, v1, v2, v3, v4] true :: G)) ∧ get T 1 = .fn f ca cb ∧ get T 4 = .ptr (H.length + 1) 0 0 ∧ get T 7 = .ptr (H.length + (L.length + Y.length + 1 + 1)) 0 0 ∧ get T 22 = v4 ∧ get T 23 = .int .i64 c.packets.length ∧ get T 24 = .int .i64 k ∧ RowM pkE (H.length + 2 + L.length) Y v4 (mix (setT to) c.packets k) ∧ (c.packets.take k).all (okTo to) = true) ?_ c.packets.length _ _ _ ?_
  case refine_2 => exact ⟨0, [], X, by simp (disch := first | rfl | omega | exact lt_new _ | assumption | decide | (simp [tk_here, tk_app, tk_0, tk_S, gr_here, gr_app, gr_0, gr_S] <;> omega) | fail) only [go_sem, ↓reduceIte, Nat.reduceLT, Nat.reduceEqDiff, Nat.reduceAdd, Nat.reduceMul, Nat.reduceSub, Int.reduceAdd, Int.reduceSub, Nat.reduceLeDiff, Int.reduceLT, Int.reduceLE, Int.reduceEq, Int.reduceNeg, Int.reduceToNat]; simp [mix_0, q4]⟩
  rintro m T D H' ⟨k, G, Y, rfl, hk', rfl, rfl, t1, t4, t7, t22, t23, t24, qY, hall⟩
  by_cases hlt : k < c.packets.length
  · have hlt' : (k : Int) < c.packets.length := by omega
    rcases RowM.four qY with ⟨_, hnil⟩ | ⟨j, g, hv4, hj, hr⟩
    · have := congrArg List.length hnil
      rw [mix_len] at this
      rw [this] at hlt
      exact absurd hlt (Nat.not_lt_zero _)
    rw [mix_len] at hv4
    have hlm : k < (mix (setT to) c.packets k).length := by rw [mix_len]; exact hlt
    have p1 : partV Try.prog 56 (flatE pkE (mix (setT to) c.packets k)) (k * 5) = some (.agg (pkE.f (pkE.at c.packets k))) := by
      rw [← mix_at pkE (setT to) hlt]
      exact ld_pkE (H := H) hlm
    have hfk := hf _ (pkE.at_mem hlt)
    simp only [List.append_assoc, List.cons_append, List.nil_append] at hfk
    have hfl : (flatE pkE (mix (setT to) c.packets k)).length = c.packets.length * 5 := by rw [flatE_len, mix_len]; rfl
    have hle : k * 5 + 1 ≤ c.packets.length * 5 := by omega
    have hset : setAt (flatE pkE (mix (setT to) c.packets k)) (k * 5) [.int .i64 (to (pkE.at c.packets k).time).1] = flatE pkE (mix (setT to) c.packets (k + 1)) := by
      have := flatE_at_set (E := pkE) (l := mix (setT to) c.packets k) (i := k) (j := 0) (v := .int .i64 (to (pkE.at c.packets k).time).1) (x := setT to (pkE.at c.packets k)) hlm (by decide) (by rw [mix_at pkE (setT to) hlt]; rfl)
      rw [mix_set pkE (setT to) hlt, Nat.add_zero] at this
      exact this
    have hj2 : H.length + (L.length + j + 1 + 1) = H.length + (L.length + j + 1 + 1) := rfl
    subst hv4
    by_cases hq : (to (pkE.at c.packets k).time).2 = true
    · skip
      simp (disch := first | rfl | omega | exact lt_new _ | assumption | decide | (simp [tk_here, tk_app, tk_0, tk_S, gr_here, gr_app, gr_0, gr_S] <;> omega) | fail) only [r91_0, r91_1, r91_2, r91_3, r91_4, r91_5, r91_6, r91_7, r91_8, r91_9, r91_10, r91_11, r91_12, l91_13, r91_14, c91, rs91, gc91, loadV_ptr, storeV_ptr, List.append_assoc, List.length_append, List.length_cons, List.length_nil, List.set_cons_zero, List.set_cons_succ, tk_here, tk_app, gr_here, gr_app, st_here, st_app, gr_l hj, st_l hj, hr, t1, t4, t7, t22, t23, t24, hlt', p1, hk, hfk, hq, hfl, hle, hset, go_sem, ↓reduceIte, Nat.reduceLT, Nat.reduceEqDiff, Nat.reduceAdd, Nat.reduceMul, Nat.reduceSub, Int.reduceAdd, Int.reduceSub, Nat.reduceLeDiff, Int.reduceLT, Int.reduceLE, Int.reduceEq, Int.reduceNeg, Int.reduceToNat]
      repeat' ((first | refine guardB_dec (fun hy => ?_) (fun hy => ?_) | refine guardB_bool (fun hy => ?_) (fun hy => ?_) | refine guardQ_ite (fun hy => ?_) (fun hy => ?_) | refine brQ_dec (fun hy => ?_) (fun hy => ?_) | refine brQ_bool (fun hy => ?_) (fun hy => ?_)) <;> (try simp only [Bool.not_eq_true', Bool.not_eq_false', Bool.and_eq_true, Bool.or_eq_false_iff, decide_eq_true_eq, decide_eq_false_iff_not] at hy) <;> simp (disch := first | rfl | omega | exact lt_new _ | assumption | decide | (simp [tk_here, tk_app, tk_0, tk_S, gr_here, gr_app, gr_0, gr_S] <;> omega) | fail) only [r91_0, r91_1, r91_2, r91_3, r91_4, r91_5, r91_6, r91_7, r91_8, r91_9, r91_10, r91_11, r91_12, l91_13, r91_14, c91, rs91, gc91, loadV_ptr, storeV_ptr, List.append_assoc, List.length_append, List.length_cons, List.length_nil, List.set_cons_zero, List.set_cons_succ, tk_here, tk_app, gr_here, gr_app, st_here, st_app, gr_l hj, st_l hj, hr, t1, t4, t7, t22, t23, t24, hlt', p1, hk, hfk, hq, hfl, hle, hset, go_sem, ↓reduceIte, Nat.reduceLT, Nat.reduceEqDiff, Nat.reduceAdd, Nat.reduceMul, Nat.reduceSub, Int.reduceAdd, Int.reduceSub, Nat.reduceLeDiff, Int.reduceLT, Int.reduceLE, Int.reduceEq, Int.reduceNeg, Int.reduceToNat, hy])
      refine ⟨_, by omega, k + 1, G ++ [AB.row 0 (pkE.f (pkE.at c.packets k)) true], Y.set j (.row g (flatE pkE (mix (setT to) c.packets (k + 1))) true), rfl, hlt, rfl, ?_⟩
      refine ⟨by simp, by simp, Or.inr ⟨j, g, by rw [mix_len]; congr 1; omega, by simp [hj], ?_⟩, by rw [take_all hlt, hall]; simpa [okTo] using hq⟩
      unfold getRow
      simp [hj]
    · rw [Bool.not_eq_true] at hq
      have hno : c.packets.all (okTo to) = false := all_drop hlt hq
      simp (disch := first | rfl | omega | exact lt_new _ | assumption | decide | (simp [tk_here, tk_app, tk_0, tk_S, gr_here, gr_app, gr_0, gr_S] <;> omega) | fail) only [r91_0, r91_1, r91_2, r91_3, r91_4, r91_5, r91_6, r91_7, r91_8, r91_9, r91_10, r91_11, r91_12, l91_13, r91_14, c91, rs91, gc91, loadV_ptr, storeV_ptr, List.append_assoc, List.length_append, List.length_cons, List.length_nil, List.set_cons_zero, List.set_cons_succ, tk_here, tk_app, gr_here, gr_app, st_here, st_app, gr_l hj, st_l hj, hr, t1, t4, t7, t22, t23, t24, hlt', p1, hk, hfk, hq, hfl, hle, go_sem, ↓reduceIte, Nat.reduceLT, Nat.reduceEqDiff, Nat.reduceAdd, Nat.reduceMul, Nat.reduceSub, Int.reduceAdd, Int.reduceSub, Nat.reduceLeDiff, Int.reduceLT, Int.reduceLE, Int.reduceEq, Int.reduceNeg, Int.reduceToNat]
      repeat' ((first | refine guardB_dec (fun hy => ?_) (fun hy => ?_) | refine guardB_bool (fun hy => ?_) (fun hy => ?_) | refine guardQ_ite (fun hy => ?_) (fun hy => ?_) | refine brQ_dec (fun hy => ?_) (fun hy => ?_) | refine brQ_bool (fun hy => ?_) (fun hy => ?_)) <;> (try simp only [Bool.not_eq_true', Bool.not_eq_false', Bool.and_eq_true, Bool.or_eq_false_iff, decide_eq_true_eq, decide_eq_false_iff_not] at hy) <;> simp (disch := first | rfl | omega | exact lt_new _ | assumption | decide | (simp [tk_here, tk_app, tk_0, tk_S, gr_here, gr_app, gr_0, gr_S] <;> omega) | fail) only [r91_0, r91_1, r91_2, r91_3, r91_4, r91_5, r91_6, r91_7, r91_8, r91_9, r91_10, r91_11, r91_12, l91_13, r91_14, c91, rs91, gc91, loadV_ptr, storeV_ptr, List.append_assoc, List.length_append, List.length_cons, List.length_nil, List.set_cons_zero, List.set_cons_succ, tk_here, tk_app, gr_here, gr_app, st_here, st_app, gr_l hj, st_l hj, hr, t1, t4, t7, t22, t23, t24, hlt', p1, hk, hfk, hq, hfl, hle, go_sem, ↓reduceIte, Nat.reduceLT, Nat.reduceEqDiff, Nat.reduceAdd, Nat.reduceMul, Nat.reduceSub, Int.reduceAdd, Int.reduceSub, Nat.reduceLeDiff, Int.reduceLT, Int.reduceLE, Int.reduceEq, Int.reduceNeg, Int.reduceToNat, hy])
      simp only [hno, Bool.false_eq_true, if_false]
      exact ⟨noCp, finQ_app (by rw [noCp_f]; simp (disch := first | rfl | omega | exact lt_new _ | assumption | decide | (simp [tk_here, tk_app, tk_0, tk_S, gr_here, gr_app, gr_0, gr_S] <;> omega) | fail) only [go_sem, ↓reduceIte, Nat.reduceLT, Nat.reduceEqDiff, Nat.reduceAdd, Nat.reduceMul, Nat.reduceSub, Int.reduceAdd, Int.reduceSub, Nat.reduceLeDiff, Int.reduceLT, Int.reduceLE, Int.reduceEq, Int.reduceNeg, Int.reduceToNat]), CpEq.rfl' _⟩
  · obtain rfl : k = c.packets.length := by omega
    rw [List.take_length] at hall
    rw [mix_all] at qY
    simp (disch := first | rfl | omega | exact lt_new _ | assumption | decide | (simp [tk_here, tk_app, tk_0, tk_S, gr_here, gr_app, gr_0, gr_S] <;> omega) | fail) only [r91_0, r91_1, r91_2, r91_3, r91_4, r91_5, r91_6, r91_7, r91_8, r91_9, r91_10, r91_11, r91_12, l91_13, r91_14, c91, rs91, gc91, loadV_ptr, storeV_ptr, List.append_assoc, List.length_append, List.length_cons, List.length_nil, List.set_cons_zero, List.set_cons_succ, tk_here, tk_app, gr_here, gr_app, st_here, st_app, t1, t4, t7, t22, t23, t24, Int.lt_irrefl, c11, c12, c13, c14, c15, c16, c17, c21, c22, c23, c24, c25, c26, c27, c31, c32, c33, c34, c35, c36, c37, c41, c42, c43, c44, c45, c46, c47, go_sem, ↓reduceIte, Nat.reduceLT, Nat.reduceEqDiff, Nat.reduceAdd, Nat.reduceMul, Nat.reduceSub, Int.reduceAdd, Int.reduceSub, Nat.reduceLeDiff, Int.reduceLT, Int.reduceLE, Int.reduceEq, Int.reduceNeg, Int.reduceToNat]
    repeat' ((first | refine guardB_dec (fun hy => ?_) (fun hy => ?_) | refine guardB_bool (fun hy => ?_) (fun hy => ?_) | refine guardQ_ite (fun hy => ?_) (fun hy => ?_) | refine brQ_dec (fun hy => ?_) (fun hy => ?_) | refine brQ_bool (fun hy => ?_) (fun hy => ?_)) <;> (try simp only [Bool.not_eq_true', Bool.not_eq_false', Bool.and_eq_true, Bool.or_eq_false_iff, decide_eq_true_eq, decide_eq_false_iff_not] at hy) <;> simp (disch := first | rfl | omega | exact lt_new _ | assumption | decide | (simp [tk_here, tk_app, tk_0, tk_S, gr_here, gr_app, gr_0, gr_S] <;> omega) | fail) only [r91_0, r91_1, r91_2, r91_3, r91_4, r91_5, r91_6, r91_7, r91_8, r91_9, r91_10, r91_11, r91_12, l91_13, r91_14, c91, rs91, gc91, loadV_ptr, storeV_ptr, List.append_assoc, List.length_append, List.length_cons, List.length_nil, List.set_cons_zero, List.set_cons_succ, tk_here, tk_app, gr_here, gr_app, st_here, st_app, t1, t4, t7, t22, t23, t24, Int.lt_irrefl, c11, c12, c13, c14, c15, c16, c17, c21, c22, c23, c24, c25, c26, c27, c31, c32, c33, c34, c35, c36, c37, c41, c42, c43, c44, c45, c46, c47, go_sem, ↓reduceIte, Nat.reduceLT, Nat.reduceEqDiff, Nat.reduceAdd, Nat.reduceMul, Nat.reduceSub, Int.reduceAdd, Int.reduceSub, Nat.reduceLeDiff, Int.reduceLT, Int.reduceLE, Int.reduceEq, Int.reduceNeg, Int.reduceToNat, hy])
    simp only [hall, if_true]
    have hin : ∀ {α : Type} {E : Enc α} {v : V} {l : List α}, RowM E (H.length + 2) (L ++ Y) v l → ∀ A B Z, ∃ b, inlC H.length (H ++ A :: B :: (L ++ (Y ++ Z))) 8 v = some (slV b E l) := by
      intro α E v l h A B Z
      obtain ⟨b, i⟩ := RowM.inl (f := 6) (A := H) (m := H.length) (RowM.pre [A, B] (h.app Z)) rfl (Nat.le_refl _)
      simp only [List.cons_append, List.nil_append, List.append_assoc] at i
      exact ⟨b, i⟩
    obtain ⟨b1, i1⟩ := hin (q1.app Y) (AB.row 0 [.str c.note, slV c.facesN fcE c.faces, slV c.namesN nmE c.names, slV c.secretsN scE c.secrets, slV c.packetsN pkE c.packets] true) (AB.row 0 [.str c.note, v1, v2, v3, v4] true) (AB.row 0 [.str c.note, v1, v2, v3, v4] true :: G)
    obtain ⟨b2, i2⟩ := hin (q2.app Y) (AB.row 0 [.str c.note, slV c.facesN fcE c.faces, slV c.namesN nmE c.names, slV c.secretsN scE c.secrets, slV c.packetsN pkE c.packets] true) (AB.row 0 [.str c.note, v1, v2, v3, v4] true) (AB.row 0 [.str c.note, v1, v2, v3, v4] true :: G)
    obtain ⟨b3, i3⟩ := hin (q3.app Y) (AB.row 0 [.str c.note, slV c.facesN fcE c.faces, slV c.namesN nmE c.names, slV c.secretsN scE c.secrets, slV c.packetsN pkE c.packets] true) (AB.row 0 [.str c.note, v1, v2, v3, v4] true) (AB.row 0 [.str c.note, v1, v2, v3, v4] true :: G)
    obtain ⟨b4, i4⟩ := hin (RowM.pre L qY) (AB.row 0 [.str c.note, slV c.facesN fcE c.faces, slV c.namesN nmE c.names, slV c.secretsN scE c.secrets, slV c.packetsN pkE c.packets] true) (AB.row 0 [.str c.note, v1, v2, v3, v4] true) (AB.row 0 [.str c.note, v1, v2, v3, v4] true :: G)
    refine ⟨⟨c.note, b1, c.faces, b2, c.names, b3, c.secrets, b4, c.packets.map (setT to)⟩, finQ_app ?_, rfl, rfl, rfl, rfl, rfl⟩
    simp (disch := first | rfl | omega | exact lt_new _ | assumption | decide | (simp [tk_here, tk_app, tk_0, tk_S, gr_here, gr_app, gr_0, gr_S] <;> omega) | fail) only [go_sem, ↓reduceIte, Nat.reduceLT, Nat.reduceEqDiff, Nat.reduceAdd, Nat.reduceMul, Nat.reduceSub, Int.reduceAdd, Int.reduceSub, Nat.reduceLeDiff, Int.reduceLT, Int.reduceLE, Int.reduceEq, Int.reduceNeg, Int.reduceToNat, i1, i2, i3, i4, cpE_f]
theorem fn46 (c : Cp) (hc : CpOk c) (b : Int) (H : Hp) : ∃ d, callL Try.prog pr 46 [.agg (cpE.f c), .int .i64 b] H = some (.tup [.agg (cpE.f d), .int .i64 (tmF c (fun t => addF t b)).2], H) ∧ CpEq d (tmF c (fun t => addF t b)).1 := by
  obtain ⟨d, hd⟩ : ∃ d : Hp → Cp, ∀ H, callL Try.prog pr 91 [.agg (cpE.f c), .fn 92 [] [.ipt [.int .i64 b] 0]] H = some (.tup [.agg (cpE.f (d H)), .int .i64 (tmF c (fun t => addF t b)).2], H) ∧ CpEq (d H) (tmF c (fun t => addF t b)).1 := by
    have h := fun H => fn91 c hc (fun t => addF t b) 92 [] [.ipt [.int .i64 b] 0] kp92 (fun hv p hp H => by
      have := (pf_pk ((val_pk hv).1 p hp)).1
      exact fn92 this.1 this.2 H) H
    exact ⟨fun H => (h H).choose, fun H => (h H).choose_spec⟩
  have h91 := fun H => (hd H).1
  suffices h : ∃ r, callL Try.prog pr 46 [.agg (cpE.f c), .int .i64 b] H = some r ∧ ∃ d, r = (.tup [.agg (cpE.f d), .int .i64 (tmF c (fun t => addF t b)).2], H) ∧ CpEq d (tmF c (fun t => addF t b)).1 by
    obtain ⟨_, h1, d, rfl, h2⟩ := h; exact ⟨d, h1, h2⟩
  refine ex46 (Nat.le_of_ble_eq_true rfl) ?_
  simp (disch := first | rfl | omega | exact lt_new _ | assumption | decide | (simp [tk_here, tk_app, tk_0, tk_S, gr_here, gr_app, gr_0, gr_S] <;> omega) | fail) only [r46_0, r46_1, c46, rs46, gc46, loadV_ptr, storeV_ptr, List.append_assoc, List.length_append, List.length_cons, List.length_nil, List.set_cons_zero, List.set_cons_succ, tk_here, tk_app, gr_here, gr_app, st_here, st_app, h91, go_sem, ↓reduceIte, Nat.reduceLT, Nat.reduceEqDiff, Nat.reduceAdd, Nat.reduceMul, Nat.reduceSub, Int.reduceAdd, Int.reduceSub, Nat.reduceLeDiff, Int.reduceLT, Int.reduceLE, Int.reduceEq, Int.reduceNeg, Int.reduceToNat]
  repeat' ((first | refine guardB_dec (fun hy => ?_) (fun hy => ?_) | refine guardB_bool (fun hy => ?_) (fun hy => ?_) | refine guardQ_ite (fun hy => ?_) (fun hy => ?_) | refine brQ_dec (fun hy => ?_) (fun hy => ?_) | refine brQ_bool (fun hy => ?_) (fun hy => ?_)) <;> (try simp only [Bool.not_eq_true', Bool.not_eq_false', Bool.and_eq_true, Bool.or_eq_false_iff, decide_eq_true_eq, decide_eq_false_iff_not] at hy) <;> simp (disch := first | rfl | omega | exact lt_new _ | assumption | decide | (simp [tk_here, tk_app, tk_0, tk_S, gr_here, gr_app, gr_0, gr_S] <;> omega) | fail) only [r46_0, r46_1, c46, rs46, gc46, loadV_ptr, storeV_ptr, List.append_assoc, List.length_append, List.length_cons, List.length_nil, List.set_cons_zero, List.set_cons_succ, tk_here, tk_app, gr_here, gr_app, st_here, st_app, h91, go_sem, ↓reduceIte, Nat.reduceLT, Nat.reduceEqDiff, Nat.reduceAdd, Nat.reduceMul, Nat.reduceSub, Int.reduceAdd, Int.reduceSub, Nat.reduceLeDiff, Int.reduceLT, Int.reduceLE, Int.reduceEq, Int.reduceNeg, Int.reduceToNat, hy])
  exact ⟨_, finQ_app (by simp (disch := first | rfl | omega | exact lt_new _ | assumption | decide | (simp [tk_here, tk_app, tk_0, tk_S, gr_here, gr_app, gr_0, gr_S] <;> omega) | fail) only [go_sem, ↓reduceIte, Nat.reduceLT, Nat.reduceEqDiff, Nat.reduceAdd, Nat.reduceMul, Nat.reduceSub, Int.reduceAdd, Int.reduceSub, Nat.reduceLeDiff, Int.reduceLT, Int.reduceLE, Int.reduceEq, Int.reduceNeg, Int.reduceToNat]; rfl), (hd _).2⟩
end Go.Proofs.Ytejkgnmjdaohdaa
/-
  The reference's captures whose times are moved, walked. No statement of the seat stands here.
-/
namespace Go.Proofs.Ytejkgnmjdaohdaa
open Go Go.An
set_option maxRecDepth 4000
set_option linter.unusedSimpArgs false
set_option linter.unusedVariables false

def lateF (t b : Int) : Int × Bool := if (addF t b).2 = true then addF t b else (0, false)
theorem fn62 {t b : Int} (h0 : 0 ≤ t) (h1 : t ≤ 1000000000000000) (H : Hp) : callL Try.prog pr 62 [.int .i64 t, .int .i64 b] H = some (.tup [.int .i64 (lateF t b).1, .bool (lateF t b).2], H) := by
  have h72 := fun n H => fn72 n H
  unfold lateF
  by_cases hb : 1000000000000000 < b ∨ b < -1000000000000000
  · have hb2 : ¬ 1000000000000000 < b → b < -1000000000000000 := fun h => hb.resolve_left h
    have e : addF t b = (0, false) := by unfold addF; rw [if_pos hb]
    rw [e]
    refine run62 (Nat.le_of_ble_eq_true rfl) ?_
    simp (disch := first | rfl | omega | exact lt_new _ | assumption | decide | (simp [tk_here, tk_app, tk_0, tk_S, gr_here, gr_app, gr_0, gr_S] <;> omega) | fail) only [r62_0, r62_1, r62_2, r62_3, c62, rs62, gc62, h72, hb2, go_sem, ↓reduceIte, Nat.reduceLT, Nat.reduceEqDiff, Nat.reduceAdd, Nat.reduceMul, Nat.reduceSub, Int.reduceAdd, Int.reduceSub, Nat.reduceLeDiff, Int.reduceLT, Int.reduceLE, Int.reduceEq, Int.reduceNeg, Int.reduceToNat]
    repeat' ((first | refine guardB_dec (fun hy => ?_) (fun hy => ?_) | refine guardB_bool (fun hy => ?_) (fun hy => ?_) | refine guardQ_ite (fun hy => ?_) (fun hy => ?_) | refine brQ_dec (fun hy => ?_) (fun hy => ?_) | refine brQ_bool (fun hy => ?_) (fun hy => ?_)) <;> (try simp only [Bool.not_eq_true', Bool.not_eq_false', Bool.and_eq_true, Bool.or_eq_false_iff, decide_eq_true_eq, decide_eq_false_iff_not] at hy) <;> simp (disch := first | rfl | omega | exact lt_new _ | assumption | decide | (simp [tk_here, tk_app, tk_0, tk_S, gr_here, gr_app, gr_0, gr_S] <;> omega) | fail) only [r62_0, r62_1, r62_2, r62_3, c62, rs62, gc62, h72, hb2, go_sem, ↓reduceIte, Nat.reduceLT, Nat.reduceEqDiff, Nat.reduceAdd, Nat.reduceMul, Nat.reduceSub, Int.reduceAdd, Int.reduceSub, Nat.reduceLeDiff, Int.reduceLT, Int.reduceLE, Int.reduceEq, Int.reduceNeg, Int.reduceToNat, hy])
    all_goals (try ((first | refine finQ_same ?_ | refine finQ_app ?_ | (rw [List.append_assoc]; refine finQ_app ?_)) <;> simp (disch := first | rfl | omega | exact lt_new _ | assumption | decide | (simp [tk_here, tk_app, tk_0, tk_S, gr_here, gr_app, gr_0, gr_S] <;> omega) | fail) only [go_sem, ↓reduceIte, Nat.reduceLT, Nat.reduceEqDiff, Nat.reduceAdd, Nat.reduceMul, Nat.reduceSub, Int.reduceAdd, Int.reduceSub, Nat.reduceLeDiff, Int.reduceLT, Int.reduceLE, Int.reduceEq, Int.reduceNeg, Int.reduceToNat, List.append_assoc, List.cons_append, List.nil_append, *]))
    all_goals (try first | rfl | (simp [*]; done) | grind)
  · have hb1 : ¬ 1000000000000000 < b := fun h => hb (.inl h)
    have hb2 : ¬ b < -1000000000000000 := fun h => hb (.inr h)
    have hw : IntKind.i64.wrap (t + b) = t + b := IntWalk.i64_in _ (by omega)
    have e : addF t b = (t + b, okT (t + b)) := by unfold addF; rw [if_neg hb]
    rw [e]
    by_cases ho : okT (t + b) = true
    · refine run62 (Nat.le_of_ble_eq_true rfl) ?_
      simp (disch := first | rfl | omega | exact lt_new _ | assumption | decide | (simp [tk_here, tk_app, tk_0, tk_S, gr_here, gr_app, gr_0, gr_S] <;> omega) | fail) only [r62_0, r62_1, r62_2, r62_3, c62, rs62, gc62, h72, hb1, hb2, hw, ho, go_sem, ↓reduceIte, Nat.reduceLT, Nat.reduceEqDiff, Nat.reduceAdd, Nat.reduceMul, Nat.reduceSub, Int.reduceAdd, Int.reduceSub, Nat.reduceLeDiff, Int.reduceLT, Int.reduceLE, Int.reduceEq, Int.reduceNeg, Int.reduceToNat]
      repeat' ((first | refine guardB_dec (fun hy => ?_) (fun hy => ?_) | refine guardB_bool (fun hy => ?_) (fun hy => ?_) | refine guardQ_ite (fun hy => ?_) (fun hy => ?_) | refine brQ_dec (fun hy => ?_) (fun hy => ?_) | refine brQ_bool (fun hy => ?_) (fun hy => ?_)) <;> (try simp only [Bool.not_eq_true', Bool.not_eq_false', Bool.and_eq_true, Bool.or_eq_false_iff, decide_eq_true_eq, decide_eq_false_iff_not] at hy) <;> simp (disch := first | rfl | omega | exact lt_new _ | assumption | decide | (simp [tk_here, tk_app, tk_0, tk_S, gr_here, gr_app, gr_0, gr_S] <;> omega) | fail) only [r62_0, r62_1, r62_2, r62_3, c62, rs62, gc62, h72, hb1, hb2, hw, ho, go_sem, ↓reduceIte, Nat.reduceLT, Nat.reduceEqDiff, Nat.reduceAdd, Nat.reduceMul, Nat.reduceSub, Int.reduceAdd, Int.reduceSub, Nat.reduceLeDiff, Int.reduceLT, Int.reduceLE, Int.reduceEq, Int.reduceNeg, Int.reduceToNat, hy])
      all_goals (try ((first | refine finQ_same ?_ | refine finQ_app ?_ | (rw [List.append_assoc]; refine finQ_app ?_)) <;> simp (disch := first | rfl | omega | exact lt_new _ | assumption | decide | (simp [tk_here, tk_app, tk_0, tk_S, gr_here, gr_app, gr_0, gr_S] <;> omega) | fail) only [go_sem, ↓reduceIte, Nat.reduceLT, Nat.reduceEqDiff, Nat.reduceAdd, Nat.reduceMul, Nat.reduceSub, Int.reduceAdd, Int.reduceSub, Nat.reduceLeDiff, Int.reduceLT, Int.reduceLE, Int.reduceEq, Int.reduceNeg, Int.reduceToNat, List.append_assoc, List.cons_append, List.nil_append, *]))
      all_goals (try first | rfl | (simp [*]; done) | grind)
    · rw [Bool.not_eq_true] at ho
      refine run62 (Nat.le_of_ble_eq_true rfl) ?_
      simp (disch := first | rfl | omega | exact lt_new _ | assumption | decide | (simp [tk_here, tk_app, tk_0, tk_S, gr_here, gr_app, gr_0, gr_S] <;> omega) | fail) only [r62_0, r62_1, r62_2, r62_3, c62, rs62, gc62, h72, hb1, hb2, hw, ho, go_sem, ↓reduceIte, Nat.reduceLT, Nat.reduceEqDiff, Nat.reduceAdd, Nat.reduceMul, Nat.reduceSub, Int.reduceAdd, Int.reduceSub, Nat.reduceLeDiff, Int.reduceLT, Int.reduceLE, Int.reduceEq, Int.reduceNeg, Int.reduceToNat]
      repeat' ((first | refine guardB_dec (fun hy => ?_) (fun hy => ?_) | refine guardB_bool (fun hy => ?_) (fun hy => ?_) | refine guardQ_ite (fun hy => ?_) (fun hy => ?_) | refine brQ_dec (fun hy => ?_) (fun hy => ?_) | refine brQ_bool (fun hy => ?_) (fun hy => ?_)) <;> (try simp only [Bool.not_eq_true', Bool.not_eq_false', Bool.and_eq_true, Bool.or_eq_false_iff, decide_eq_true_eq, decide_eq_false_iff_not] at hy) <;> simp (disch := first | rfl | omega | exact lt_new _ | assumption | decide | (simp [tk_here, tk_app, tk_0, tk_S, gr_here, gr_app, gr_0, gr_S] <;> omega) | fail) only [r62_0, r62_1, r62_2, r62_3, c62, rs62, gc62, h72, hb1, hb2, hw, ho, go_sem, ↓reduceIte, Nat.reduceLT, Nat.reduceEqDiff, Nat.reduceAdd, Nat.reduceMul, Nat.reduceSub, Int.reduceAdd, Int.reduceSub, Nat.reduceLeDiff, Int.reduceLT, Int.reduceLE, Int.reduceEq, Int.reduceNeg, Int.reduceToNat, hy])
      all_goals (try ((first | refine finQ_same ?_ | refine finQ_app ?_ | (rw [List.append_assoc]; refine finQ_app ?_)) <;> simp (disch := first | rfl | omega | exact lt_new _ | assumption | decide | (simp [tk_here, tk_app, tk_0, tk_S, gr_here, gr_app, gr_0, gr_S] <;> omega) | fail) only [go_sem, ↓reduceIte, Nat.reduceLT, Nat.reduceEqDiff, Nat.reduceAdd, Nat.reduceMul, Nat.reduceSub, Int.reduceAdd, Int.reduceSub, Nat.reduceLeDiff, Int.reduceLT, Int.reduceLE, Int.reduceEq, Int.reduceNeg, Int.reduceToNat, List.append_assoc, List.cons_append, List.nil_append, *]))
      all_goals (try first | rfl | (simp [*]; done) | grind)
theorem setT_f (p : Pk) (x : Int) : setAt (pkE.f p) 0 [.int .i64 x] = pkE.f {p with time := x} := rfl
theorem mapT {to : Int → Int × Bool} {l : List Pk} {k : Nat} (h : k < l.length) : (l.take (k + 1)).map (setT to) = (l.take k).map (setT to) ++ [setT to (pkE.at l k)] := by
  rw [pkE.take_at h]; simp
set_option maxHeartbeats 2000000 in
theorem fn47 (c : Cp) (hc : CpOk c) (b : Int) (H : Hp) : ∃ d, callL Try.prog pr 47 [.agg (cpE.f c), .int .i64 b] H = some (.tup [.agg (cpE.f d), .int .i64 (tmF c (fun t => addF t b)).2], H) ∧ CpEq d (tmF c (fun t => addF t b)).1 := by
  suffices h : ∃ r, callL Try.prog pr 47 [.agg (cpE.f c), .int .i64 b] H = some r ∧ ∃ d, r = (.tup [.agg (cpE.f d), .int .i64 (tmF c (fun t => addF t b)).2], H) ∧ CpEq d (tmF c (fun t => addF t b)).1 by
    obtain ⟨_, h1, d, rfl, h2⟩ := h; exact ⟨d, h1, h2⟩
  have h63 := fn63 c hc
  refine ex47 (Nat.le_of_ble_eq_true rfl) ?_
  unfold tmF
  by_cases hv : valE c = 0
  case neg =>
    rw [if_neg hv]
    simp (disch := first | rfl | omega | exact lt_new _ | assumption | decide | (simp [tk_here, tk_app, tk_0, tk_S, gr_here, gr_app, gr_0, gr_S] <;> omega) | fail) only [r47_0, r47_1, r47_2, r47_3, r47_4, r47_5, r47_6, r47_7, r47_8, r47_9, r47_10, r47_11, r47_12, r47_13, r47_15, c47, rs47, gc47, loadV_ptr, storeV_ptr, List.append_assoc, List.length_append, List.length_cons, List.length_nil, List.set_cons_zero, List.set_cons_succ, tk_here, tk_app, gr_here, gr_app, st_here, st_app, h63, hv, go_sem, ↓reduceIte, Nat.reduceLT, Nat.reduceEqDiff, Nat.reduceAdd, Nat.reduceMul, Nat.reduceSub, Int.reduceAdd, Int.reduceSub, Nat.reduceLeDiff, Int.reduceLT, Int.reduceLE, Int.reduceEq, Int.reduceNeg, Int.reduceToNat]
    repeat' ((first | refine guardB_dec (fun hy => ?_) (fun hy => ?_) | refine guardB_bool (fun hy => ?_) (fun hy => ?_) | refine guardQ_ite (fun hy => ?_) (fun hy => ?_) | refine brQ_dec (fun hy => ?_) (fun hy => ?_) | refine brQ_bool (fun hy => ?_) (fun hy => ?_)) <;> (try simp only [Bool.not_eq_true', Bool.not_eq_false', Bool.and_eq_true, Bool.or_eq_false_iff, decide_eq_true_eq, decide_eq_false_iff_not] at hy) <;> simp (disch := first | rfl | omega | exact lt_new _ | assumption | decide | (simp [tk_here, tk_app, tk_0, tk_S, gr_here, gr_app, gr_0, gr_S] <;> omega) | fail) only [r47_0, r47_1, r47_2, r47_3, r47_4, r47_5, r47_6, r47_7, r47_8, r47_9, r47_10, r47_11, r47_12, r47_13, r47_15, c47, rs47, gc47, loadV_ptr, storeV_ptr, List.append_assoc, List.length_append, List.length_cons, List.length_nil, List.set_cons_zero, List.set_cons_succ, tk_here, tk_app, gr_here, gr_app, st_here, st_app, h63, hv, go_sem, ↓reduceIte, Nat.reduceLT, Nat.reduceEqDiff, Nat.reduceAdd, Nat.reduceMul, Nat.reduceSub, Int.reduceAdd, Int.reduceSub, Nat.reduceLeDiff, Int.reduceLT, Int.reduceLE, Int.reduceEq, Int.reduceNeg, Int.reduceToNat, hy])
    exact ⟨noCp, finQ_app (by rw [noCp_f]; simp (disch := first | rfl | omega | exact lt_new _ | assumption | decide | (simp [tk_here, tk_app, tk_0, tk_S, gr_here, gr_app, gr_0, gr_S] <;> omega) | fail) only [go_sem, ↓reduceIte, Nat.reduceLT, Nat.reduceEqDiff, Nat.reduceAdd, Nat.reduceMul, Nat.reduceSub, Int.reduceAdd, Int.reduceSub, Nat.reduceLeDiff, Int.reduceLT, Int.reduceLE, Int.reduceEq, Int.reduceNeg, Int.reduceToNat]), CpEq.rfl' _⟩
  rw [if_pos hv]
  have hl := (val_pk hv).2.1.1
  simp (disch := first | rfl | omega | exact lt_new _ | assumption | decide | (simp [tk_here, tk_app, tk_0, tk_S, gr_here, gr_app, gr_0, gr_S] <;> omega) | fail) only [r47_0, r47_1, r47_2, r47_3, r47_4, r47_5, r47_6, r47_7, r47_8, r47_9, r47_10, r47_11, r47_12, r47_13, r47_15, c47, rs47, gc47, loadV_ptr, storeV_ptr, List.append_assoc, List.length_append, List.length_cons, List.length_nil, List.set_cons_zero, List.set_cons_succ, tk_here, tk_app, gr_here, gr_app, st_here, st_app, h63, hv, go_sem, ↓reduceIte, Nat.reduceLT, Nat.reduceEqDiff, Nat.reduceAdd, Nat.reduceMul, Nat.reduceSub, Int.reduceAdd, Int.reduceSub, Nat.reduceLeDiff, Int.reduceLT, Int.reduceLE, Int.reduceEq, Int.reduceNeg, Int.reduceToNat]
  repeat' ((first | refine guardB_dec (fun hy => ?_) (fun hy => ?_) | refine guardB_bool (fun hy => ?_) (fun hy => ?_) | refine guardQ_ite (fun hy => ?_) (fun hy => ?_) | refine brQ_dec (fun hy => ?_) (fun hy => ?_) | refine brQ_bool (fun hy => ?_) (fun hy => ?_)) <;> (try simp only [Bool.not_eq_true', Bool.not_eq_false', Bool.and_eq_true, Bool.or_eq_false_iff, decide_eq_true_eq, decide_eq_false_iff_not] at hy) <;> simp (disch := first | rfl | omega | exact lt_new _ | assumption | decide | (simp [tk_here, tk_app, tk_0, tk_S, gr_here, gr_app, gr_0, gr_S] <;> omega) | fail) only [r47_0, r47_1, r47_2, r47_3, r47_4, r47_5, r47_6, r47_7, r47_8, r47_9, r47_10, r47_11, r47_12, r47_13, r47_15, c47, rs47, gc47, loadV_ptr, storeV_ptr, List.append_assoc, List.length_append, List.length_cons, List.length_nil, List.set_cons_zero, List.set_cons_succ, tk_here, tk_app, gr_here, gr_app, st_here, st_app, h63, hv, go_sem, ↓reduceIte, Nat.reduceLT, Nat.reduceEqDiff, Nat.reduceAdd, Nat.reduceMul, Nat.reduceSub, Int.reduceAdd, Int.reduceSub, Nat.reduceLeDiff, Int.reduceLT, Int.reduceLE, Int.reduceEq, Int.reduceNeg, Int.reduceToNat, hy])
  refine Wp_loop (fun m T D H' => ∃ k G, m = c.packets.length - k ∧ k ≤ c.packets.length ∧ D = [] ∧ H' = H ++ AB.row 0 (cpE.f c) true :: AB.row 0 [.str [], .nilslice, .nilslice, .nilslice, .nilslice] true :: .tok (((c.packets.take k).map (setT fun t => addF t b)).length * 5) :: G ∧ get T 1 = .int .i64 b ∧ get T 2 = .ptr H.length 0 0 ∧ get T 4 = .ptr (H.length + 1) 0 0 ∧ get T 7 = osV (H.length + 2) pkE ((c.packets.take k).map (setT fun t => addF t b)) ∧ get T 8 = .int .i64 k ∧ (c.packets.take k).all (okTo fun t => addF t b) = true) ?_ c.packets.length _ _ _ ?_
  case refine_2 => exact ⟨0, [], by simp (disch := first | rfl | omega | exact lt_new _ | assumption | decide | (simp [tk_here, tk_app, tk_0, tk_S, gr_here, gr_app, gr_0, gr_S] <;> omega) | fail) only [go_sem, ↓reduceIte, Nat.reduceLT, Nat.reduceEqDiff, Nat.reduceAdd, Nat.reduceMul, Nat.reduceSub, Int.reduceAdd, Int.reduceSub, Nat.reduceLeDiff, Int.reduceLT, Int.reduceLE, Int.reduceEq, Int.reduceNeg, Int.reduceToNat]; simp [osV_nil]⟩
  rintro m T D H' ⟨k, G, rfl, hk, rfl, rfl, t1, t2, t4, t7, t8, hall⟩
  have hml : ((c.packets.take k).map (setT fun t => addF t b)).length = k := by simp; omega
  by_cases hlt : k < c.packets.length
  · have hlt' : (k : Int) < c.packets.length := by omega
    have hkn := mapT (to := fun t => addF t b) hlt
    have hpt := (pf_pk ((val_pk hv).1 _ (pkE.at_mem hlt))).1
    have h62 := fun H => fn62 (b := b) hpt.1 hpt.2 H
    by_cases hq : (addF (pkE.at c.packets k).time b).2 = true
    · have e : lateF (pkE.at c.packets k).time b = addF (pkE.at c.packets k).time b := by unfold lateF; rw [if_pos hq]
      simp only [e] at h62
      simp (disch := first | rfl | omega | exact lt_new _ | assumption | decide | (simp [tk_here, tk_app, tk_0, tk_S, gr_here, gr_app, gr_0, gr_S] <;> omega) | fail) only [r47_0, r47_1, r47_2, r47_3, r47_4, r47_5, r47_6, r47_7, r47_8, r47_9, r47_10, r47_11, r47_12, r47_13, l47_14, r47_15, c47, rs47, gc47, loadV_ptr, storeV_ptr, List.append_assoc, List.length_append, List.length_cons, List.length_nil, List.set_cons_zero, List.set_cons_succ, tk_here, tk_app, gr_here, gr_app, st_here, st_app, t1, t2, t4, t7, t8, hlt', h62, hq, setT_f, go_sem, ↓reduceIte, Nat.reduceLT, Nat.reduceEqDiff, Nat.reduceAdd, Nat.reduceMul, Nat.reduceSub, Int.reduceAdd, Int.reduceSub, Nat.reduceLeDiff, Int.reduceLT, Int.reduceLE, Int.reduceEq, Int.reduceNeg, Int.reduceToNat]
      repeat' ((first | refine guardB_dec (fun hy => ?_) (fun hy => ?_) | refine guardB_bool (fun hy => ?_) (fun hy => ?_) | refine guardQ_ite (fun hy => ?_) (fun hy => ?_) | refine brQ_dec (fun hy => ?_) (fun hy => ?_) | refine brQ_bool (fun hy => ?_) (fun hy => ?_)) <;> (try simp only [Bool.not_eq_true', Bool.not_eq_false', Bool.and_eq_true, Bool.or_eq_false_iff, decide_eq_true_eq, decide_eq_false_iff_not] at hy) <;> simp (disch := first | rfl | omega | exact lt_new _ | assumption | decide | (simp [tk_here, tk_app, tk_0, tk_S, gr_here, gr_app, gr_0, gr_S] <;> omega) | fail) only [r47_0, r47_1, r47_2, r47_3, r47_4, r47_5, r47_6, r47_7, r47_8, r47_9, r47_10, r47_11, r47_12, r47_13, l47_14, r47_15, c47, rs47, gc47, loadV_ptr, storeV_ptr, List.append_assoc, List.length_append, List.length_cons, List.length_nil, List.set_cons_zero, List.set_cons_succ, tk_here, tk_app, gr_here, gr_app, st_here, st_app, t1, t2, t4, t7, t8, hlt', h62, hq, setT_f, go_sem, ↓reduceIte, Nat.reduceLT, Nat.reduceEqDiff, Nat.reduceAdd, Nat.reduceMul, Nat.reduceSub, Int.reduceAdd, Int.reduceSub, Nat.reduceLeDiff, Int.reduceLT, Int.reduceLE, Int.reduceEq, Int.reduceNeg, Int.reduceToNat, hy])
      exact ⟨_, by omega, k + 1, _, rfl, hlt, by simp [hkn, Nat.add_mul]; rfl, by rw [hkn]; rfl, rfl, by rw [take_all hlt, hall]; simpa [okTo] using hq⟩
    · rw [Bool.not_eq_true] at hq
      have e : lateF (pkE.at c.packets k).time b = (0, false) := by unfold lateF; rw [if_neg (by simp [hq])]
      simp only [e] at h62
      have hno : c.packets.all (okTo fun t => addF t b) = false := all_drop hlt hq
      simp (disch := first | rfl | omega | exact lt_new _ | assumption | decide | (simp [tk_here, tk_app, tk_0, tk_S, gr_here, gr_app, gr_0, gr_S] <;> omega) | fail) only [r47_0, r47_1, r47_2, r47_3, r47_4, r47_5, r47_6, r47_7, r47_8, r47_9, r47_10, r47_11, r47_12, r47_13, l47_14, r47_15, c47, rs47, gc47, loadV_ptr, storeV_ptr, List.append_assoc, List.length_append, List.length_cons, List.length_nil, List.set_cons_zero, List.set_cons_succ, tk_here, tk_app, gr_here, gr_app, st_here, st_app, t1, t2, t4, t7, t8, hlt', h62, hq, go_sem, ↓reduceIte, Nat.reduceLT, Nat.reduceEqDiff, Nat.reduceAdd, Nat.reduceMul, Nat.reduceSub, Int.reduceAdd, Int.reduceSub, Nat.reduceLeDiff, Int.reduceLT, Int.reduceLE, Int.reduceEq, Int.reduceNeg, Int.reduceToNat]
      repeat' ((first | refine guardB_dec (fun hy => ?_) (fun hy => ?_) | refine guardB_bool (fun hy => ?_) (fun hy => ?_) | refine guardQ_ite (fun hy => ?_) (fun hy => ?_) | refine brQ_dec (fun hy => ?_) (fun hy => ?_) | refine brQ_bool (fun hy => ?_) (fun hy => ?_)) <;> (try simp only [Bool.not_eq_true', Bool.not_eq_false', Bool.and_eq_true, Bool.or_eq_false_iff, decide_eq_true_eq, decide_eq_false_iff_not] at hy) <;> simp (disch := first | rfl | omega | exact lt_new _ | assumption | decide | (simp [tk_here, tk_app, tk_0, tk_S, gr_here, gr_app, gr_0, gr_S] <;> omega) | fail) only [r47_0, r47_1, r47_2, r47_3, r47_4, r47_5, r47_6, r47_7, r47_8, r47_9, r47_10, r47_11, r47_12, r47_13, l47_14, r47_15, c47, rs47, gc47, loadV_ptr, storeV_ptr, List.append_assoc, List.length_append, List.length_cons, List.length_nil, List.set_cons_zero, List.set_cons_succ, tk_here, tk_app, gr_here, gr_app, st_here, st_app, t1, t2, t4, t7, t8, hlt', h62, hq, go_sem, ↓reduceIte, Nat.reduceLT, Nat.reduceEqDiff, Nat.reduceAdd, Nat.reduceMul, Nat.reduceSub, Int.reduceAdd, Int.reduceSub, Nat.reduceLeDiff, Int.reduceLT, Int.reduceLE, Int.reduceEq, Int.reduceNeg, Int.reduceToNat, hy])
      simp only [hno, Bool.false_eq_true, if_false]
      exact ⟨noCp, finQ_app (by rw [noCp_f]; simp (disch := first | rfl | omega | exact lt_new _ | assumption | decide | (simp [tk_here, tk_app, tk_0, tk_S, gr_here, gr_app, gr_0, gr_S] <;> omega) | fail) only [go_sem, ↓reduceIte, Nat.reduceLT, Nat.reduceEqDiff, Nat.reduceAdd, Nat.reduceMul, Nat.reduceSub, Int.reduceAdd, Int.reduceSub, Nat.reduceLeDiff, Int.reduceLT, Int.reduceLE, Int.reduceEq, Int.reduceNeg, Int.reduceToNat]), CpEq.rfl' _⟩
  · obtain rfl : k = c.packets.length := by omega
    rw [List.take_length] at hall t7
    have h76 := fun H => fn76 c (b := true) (l := c.packets.map (setT fun t => addF t b)) H
    simp (disch := first | rfl | omega | exact lt_new _ | assumption | decide | (simp [tk_here, tk_app, tk_0, tk_S, gr_here, gr_app, gr_0, gr_S] <;> omega) | fail) only [r47_0, r47_1, r47_2, r47_3, r47_4, r47_5, r47_6, r47_7, r47_8, r47_9, r47_10, r47_11, r47_12, r47_13, l47_14, r47_15, c47, rs47, gc47, loadV_ptr, storeV_ptr, List.append_assoc, List.length_append, List.length_cons, List.length_nil, List.set_cons_zero, List.set_cons_succ, tk_here, tk_app, gr_here, gr_app, st_here, st_app, t1, t2, t4, t7, t8, Int.lt_irrefl, h76, go_sem, ↓reduceIte, Nat.reduceLT, Nat.reduceEqDiff, Nat.reduceAdd, Nat.reduceMul, Nat.reduceSub, Int.reduceAdd, Int.reduceSub, Nat.reduceLeDiff, Int.reduceLT, Int.reduceLE, Int.reduceEq, Int.reduceNeg, Int.reduceToNat]
    repeat' ((first | refine guardB_dec (fun hy => ?_) (fun hy => ?_) | refine guardB_bool (fun hy => ?_) (fun hy => ?_) | refine guardQ_ite (fun hy => ?_) (fun hy => ?_) | refine brQ_dec (fun hy => ?_) (fun hy => ?_) | refine brQ_bool (fun hy => ?_) (fun hy => ?_)) <;> (try simp only [Bool.not_eq_true', Bool.not_eq_false', Bool.and_eq_true, Bool.or_eq_false_iff, decide_eq_true_eq, decide_eq_false_iff_not] at hy) <;> simp (disch := first | rfl | omega | exact lt_new _ | assumption | decide | (simp [tk_here, tk_app, tk_0, tk_S, gr_here, gr_app, gr_0, gr_S] <;> omega) | fail) only [r47_0, r47_1, r47_2, r47_3, r47_4, r47_5, r47_6, r47_7, r47_8, r47_9, r47_10, r47_11, r47_12, r47_13, l47_14, r47_15, c47, rs47, gc47, loadV_ptr, storeV_ptr, List.append_assoc, List.length_append, List.length_cons, List.length_nil, List.set_cons_zero, List.set_cons_succ, tk_here, tk_app, gr_here, gr_app, st_here, st_app, t1, t2, t4, t7, t8, Int.lt_irrefl, h76, go_sem, ↓reduceIte, Nat.reduceLT, Nat.reduceEqDiff, Nat.reduceAdd, Nat.reduceMul, Nat.reduceSub, Int.reduceAdd, Int.reduceSub, Nat.reduceLeDiff, Int.reduceLT, Int.reduceLE, Int.reduceEq, Int.reduceNeg, Int.reduceToNat, hy])
    simp only [hall, if_true]
    exact ⟨{c with packetsN := true, packets := c.packets.map (setT fun t => addF t b)}, finQ_app (by simp (disch := first | rfl | omega | exact lt_new _ | assumption | decide | (simp [tk_here, tk_app, tk_0, tk_S, gr_here, gr_app, gr_0, gr_S] <;> omega) | fail) only [go_sem, ↓reduceIte, Nat.reduceLT, Nat.reduceEqDiff, Nat.reduceAdd, Nat.reduceMul, Nat.reduceSub, Int.reduceAdd, Int.reduceSub, Nat.reduceLeDiff, Int.reduceLT, Int.reduceLE, Int.reduceEq, Int.reduceNeg, Int.reduceToNat]), rfl, rfl, rfl, rfl, rfl⟩
end Go.Proofs.Ytejkgnmjdaohdaa
/-
  Numbers of 128 bits divided by one of 64: what the schoolbook's steps come to; plain. No statement of the seat stands here.
-/
namespace Go.Proofs.Ytejkgnmjdaohdaa
open Go Go.An
set_option maxRecDepth 4000
set_option linter.unusedSimpArgs false
set_option linter.unusedVariables false

section
variable {U V y1 y0 u1 q r : Nat}
theorem kd_mul (hV : V = y1 * 4294967296 + y0) : q * V = q * y1 * 4294967296 + q * y0 := by
  rw [hV, Nat.mul_add, Nat.mul_assoc]
theorem kd_init (hV : V = y1 * 4294967296 + y0) (h1 : 2147483648 ≤ y1) (h0 : y0 < 4294967296) (hU : U < V) : U / y1 ≤ 4294967297 := by
  have : U / y1 < 4294967298 := Nat.div_lt_of_lt_mul (by omega)
  omega
theorem kd_lt (hU : U < V) (hu : u1 < 4294967296) : (U * 4294967296 + u1) / V < 4294967296 := Nat.div_lt_of_lt_mul (by omega)
theorem kd_le (hV : V = y1 * 4294967296 + y0) (h1 : 2147483648 ≤ y1) (hU : U < V) (hu : u1 < 4294967296) : (U * 4294967296 + u1) / V ≤ U / y1 := by
  rw [Nat.le_div_iff_mul_le (by omega)]
  have h := Nat.div_mul_le_self (U * 4294967296 + u1) V
  rw [kd_mul hV] at h
  omega
theorem kd_dec (hV : V = y1 * 4294967296 + y0) (hU : U < V) (hu : u1 < 4294967296) (hr : q * y1 + r = U) (hq : (U * 4294967296 + u1) / V ≤ q) (ht : 4294967296 ≤ q ∨ 4294967296 * r + u1 < q * y0) : (U * 4294967296 + u1) / V + 1 ≤ q := by
  rcases ht with h | h
  · have := kd_lt hU hu
    omega
  · have hm := kd_mul (q := q) hV
    have : (U * 4294967296 + u1) / V < q := Nat.div_lt_of_lt_mul (by rw [Nat.mul_comm V q]; omega)
    omega
theorem kd_done (hV : V = y1 * 4294967296 + y0) (h1 : 2147483648 ≤ y1) (hr : q * y1 + r = U) (hq : (U * 4294967296 + u1) / V ≤ q) (ht : q * y0 ≤ 4294967296 * r + u1) : q = (U * 4294967296 + u1) / V := by
  refine Nat.le_antisymm ?_ hq
  rw [Nat.le_div_iff_mul_le (by omega), kd_mul hV]
  omega
theorem kd_brk (hV : V = y1 * 4294967296 + y0) (h1 : 2147483648 ≤ y1) (h0 : y0 < 4294967296) (hr : q * y1 + r = U) (hq : (U * 4294967296 + u1) / V ≤ q) (hq2 : q ≤ 4294967296) (hb : 4294967296 ≤ r) : q = (U * 4294967296 + u1) / V := by
  refine kd_done hV h1 hr hq ?_
  have a : q * y0 ≤ 4294967296 * 4294967295 := Nat.mul_le_mul hq2 (by omega)
  omega
end
/-- Two words divided by one that is above the first: the division of all, by what is shifted. -/
theorem kd_all {N y s V U d q1 R q0 R0 : Nat} (hV : V = y * 2 ^ s) (hN : U * 18446744073709551616 + d = N * 2 ^ s) (h1 : U * 4294967296 + d / 4294967296 = q1 * V + R) (h0 : R * 4294967296 + d % 4294967296 = q0 * V + R0) (hR : R0 < V) :
    q1 * 4294967296 + q0 = N / y ∧ R0 = N % y * 2 ^ s := by
  have hs : 0 < 2 ^ s := Nat.two_pow_pos s
  have hVp : 0 < V := by omega
  have hd := Nat.div_add_mod d 4294967296
  have a1 : (q1 * 4294967296 + q0) * V = q1 * V * 4294967296 + q0 * V := by rw [Nat.add_mul, Nat.mul_right_comm]
  have e : N * 2 ^ s = (q1 * 4294967296 + q0) * V + R0 := by
    rw [a1]
    omega
  have e1 : N / y = q1 * 4294967296 + q0 := by
    have h2 : N * 2 ^ s / (y * 2 ^ s) = N / y := Nat.mul_div_mul_right _ _ hs
    rw [← h2, e, ← hV, Nat.add_comm, Nat.add_mul_div_right _ _ hVp, Nat.div_eq_of_lt hR, Nat.zero_add]
  have e2 : N % y * 2 ^ s = R0 := by
    have h2 : N * 2 ^ s % (y * 2 ^ s) = N % y * 2 ^ s := Nat.mul_mod_mul_right _ _ _
    rw [← h2, e, ← hV, Nat.add_comm, Nat.add_mul_mod_self_right, Nat.mod_eq_of_lt hR]
  exact ⟨e1.symm, e2.symm⟩
theorem kd_shift {hi lo s : Nat} (hs : s ≤ 64) (hl : lo < 18446744073709551616) : (hi * 2 ^ s + lo / 2 ^ (64 - s)) * 18446744073709551616 + lo * 2 ^ s % 18446744073709551616 = (hi * 18446744073709551616 + lo) * 2 ^ s := by
  have e : lo * 2 ^ s / 18446744073709551616 = lo / 2 ^ (64 - s) := by
    have : 18446744073709551616 = 2 ^ (64 - s) * 2 ^ s := by rw [← Nat.pow_add, Nat.sub_add_cancel hs]
    rw [this]
    exact Nat.mul_div_mul_right _ _ (Nat.two_pow_pos s)
  have h := Nat.div_add_mod (lo * 2 ^ s) 18446744073709551616
  rw [e] at h
  have a1 : ∀ a b c : Nat, (a + b) * c = a * c + b * c := fun a b c => Nat.add_mul a b c
  have a2 : hi * 2 ^ s * 18446744073709551616 = hi * 18446744073709551616 * 2 ^ s := Nat.mul_right_comm _ _ _
  rw [a1, a1, a2]
  omega
end Go.Proofs.Ytejkgnmjdaohdaa
/-
  Words of 64 bits: shifts, masks, how many bits a word has; walked. No statement of the seat stands here.
-/
namespace Go.Proofs.Ytejkgnmjdaohdaa
open Go Go.An
set_option maxRecDepth 4000
set_option linter.unusedSimpArgs false
set_option linter.unusedVariables false

theorem u64m (x : Int) : IntKind.u64.wrap x = x % 18446744073709551616 := rfl
theorem u64n {n : Nat} (h : n < 18446744073709551616) : IntKind.u64.wrap (n : Int) = n := IntWalk.u64_in _ (by omega)
theorem sh_r {t : TypeId} {k : IntKind} (n s : Nat) : binV Try.prog .shr t (.int .u64 (n : Int)) (.int k (s : Int)) = some (.int .u64 ((n / 2 ^ min s 64 : Nat) : Int)) := by
  show (if (s : Int) < 0 then none else some (V.int .u64 ((n : Int).fdiv (2 ^ min (s : Int).toNat 64)))) = _
  rw [if_neg (by omega), Int.toNat_natCast, Int.fdiv_eq_ediv_of_nonneg _ (Int.le_of_lt (Int.pow_pos (by decide)))]
  rfl
theorem sh_l {t : TypeId} {k : IntKind} (n s : Nat) : binV Try.prog .shl t (.int .u64 (n : Int)) (.int k (s : Int)) = some (.int .u64 ((n * 2 ^ min s 64 % 18446744073709551616 : Nat) : Int)) := by
  show (if (s : Int) < 0 then none else some (V.int .u64 (IntKind.u64.wrap ((n : Int) * 2 ^ min (s : Int).toNat 64)))) = _
  rw [if_neg (by omega), Int.toNat_natCast, u64m]
  rfl
theorem an_m {t : TypeId} (n : Nat) (h : n < 18446744073709551616) : binV Try.prog .and t (.int .u64 (n : Int)) (.int .u64 4294967295) = some (.int .u64 ((n % 4294967296 : Nat) : Int)) := by
  rw [b_and]
  have e1 : (BitVec.ofInt 64 (n : Int)) = BitVec.ofNat 64 n := by simp
  have e2 : (BitVec.ofInt 64 (4294967295 : Int)) = BitVec.ofNat 64 4294967295 := rfl
  have : bitsV .and .u64 (n : Int) 4294967295 = some ((n % 4294967296 : Nat) : Int) := by
    show some (IntKind.u64.wrap ((BitVec.ofInt 64 (n : Int) &&& BitVec.ofInt 64 4294967295).toNat : Int)) = _
    rw [e1, e2, BitVec.toNat_and, BitVec.toNat_ofNat, BitVec.toNat_ofNat, Nat.mod_eq_of_lt (by omega)]
    have e3 : n &&& 4294967295 % 2 ^ 64 = n % 4294967296 := by
      have := Nat.and_two_pow_sub_one_eq_mod n 32
      simpa using this
    rw [e3]
    have : n % 4294967296 < 4294967296 := Nat.mod_lt _ (by omega)
    rw [u64n (by omega)]
  rw [this]
  rfl
theorem or_a {t : TypeId} {n x s : Nat} (hn : n < 2 ^ s) (hx : x * 2 ^ s + n < 18446744073709551616) : binV Try.prog .or t (.int .u64 ((x * 2 ^ s : Nat) : Int)) (.int .u64 (n : Int)) = some (.int .u64 ((x * 2 ^ s + n : Nat) : Int)) := by
  rw [b_or]
  have e1 : ∀ m : Nat, BitVec.ofInt 64 (m : Int) = BitVec.ofNat 64 m := fun m => by simp
  have : bitsV .or .u64 ((x * 2 ^ s : Nat) : Int) (n : Int) = some ((x * 2 ^ s + n : Nat) : Int) := by
    show some (IntKind.u64.wrap ((BitVec.ofInt 64 ((x * 2 ^ s : Nat) : Int) ||| BitVec.ofInt 64 (n : Int)).toNat : Int)) = _
    rw [e1, e1, BitVec.toNat_or, BitVec.toNat_ofNat, BitVec.toNat_ofNat, Nat.mod_eq_of_lt (by omega), Nat.mod_eq_of_lt (by omega)]
    have e3 : x * 2 ^ s ||| n = x * 2 ^ s + n := by
      have := Nat.shiftLeft_add_eq_or_of_lt hn x
      rw [Nat.shiftLeft_eq] at this
      rw [← this]
    rw [e3, u64n hx]
  rw [this]
  rfl
/-- How many bits a number has. -/
def bl (n : Nat) : Nat := if n = 0 then 0 else n.log2 + 1
theorem bl_le {n k : Nat} (h : n < 2 ^ k) : bl n ≤ k := by
  unfold bl
  split
  · omega
  · rename_i h0
    exact (Nat.log2_lt h0).2 h
theorem bl_spec {n : Nat} (h : n ≠ 0) : 1 ≤ bl n ∧ 2 ^ (bl n - 1) ≤ n ∧ n < 2 ^ bl n := by
  unfold bl
  rw [if_neg h]
  exact ⟨by omega, by simpa using (Nat.le_log2 h).1 (Nat.le_refl _), (Nat.log2_lt h).1 (by omega)⟩
theorem bl_div {n j : Nat} (h : 2 ^ j ≤ n) : bl n = bl (n / 2 ^ j) + j := by
  have hp : 0 < 2 ^ j := Nat.two_pow_pos j
  have h0 : n ≠ 0 := by omega
  have h1 : n / 2 ^ j ≠ 0 := by
    have := Nat.div_pos h hp
    omega
  obtain ⟨a, b, c⟩ := bl_spec h1
  have c' := (Nat.div_lt_iff_lt_mul hp).1 c
  have b' := (Nat.le_div_iff_mul_le hp).1 b
  rw [← Nat.pow_add] at c' b'
  have e1 : n.log2 < bl (n / 2 ^ j) + j := (Nat.log2_lt h0).2 c'
  have e2 : bl (n / 2 ^ j) - 1 + j ≤ n.log2 := (Nat.le_log2 h0).2 b'
  have e3 : bl n = n.log2 + 1 := if_neg h0
  omega
def tabL : List UInt8 := [0, 1, 2, 2, 3, 3, 3, 3, 4, 4, 4, 4, 4, 4, 4, 4, 5, 5, 5, 5, 5, 5, 5, 5, 5, 5, 5, 5, 5, 5, 5, 5, 6, 6, 6, 6, 6, 6, 6, 6, 6, 6, 6, 6, 6, 6, 6, 6, 6, 6, 6, 6, 6, 6, 6, 6, 6, 6, 6, 6, 6, 6, 6, 6, 7, 7, 7, 7, 7, 7, 7, 7, 7, 7, 7, 7, 7, 7, 7, 7, 7, 7, 7, 7, 7, 7, 7, 7, 7, 7, 7, 7, 7, 7, 7, 7, 7, 7, 7, 7, 7, 7, 7, 7, 7, 7, 7, 7, 7, 7, 7, 7, 7, 7, 7, 7, 7, 7, 7, 7, 7, 7, 7, 7, 7, 7, 7, 7, 8, 8, 8, 8, 8, 8, 8, 8, 8, 8, 8, 8, 8, 8, 8, 8, 8, 8, 8, 8, 8, 8, 8, 8, 8, 8, 8, 8, 8, 8, 8, 8, 8, 8, 8, 8, 8, 8, 8, 8, 8, 8, 8, 8, 8, 8, 8, 8, 8, 8, 8, 8, 8, 8, 8, 8, 8, 8, 8, 8, 8, 8, 8, 8, 8, 8, 8, 8, 8, 8, 8, 8, 8, 8, 8, 8, 8, 8, 8, 8, 8, 8, 8, 8, 8, 8, 8, 8, 8, 8, 8, 8, 8, 8, 8, 8, 8, 8, 8, 8, 8, 8, 8, 8, 8, 8, 8, 8, 8, 8, 8, 8, 8, 8, 8, 8, 8, 8, 8, 8, 8, 8, 8, 8, 8, 8, 8, 8]
theorem tab_ok : ∀ x : Fin 256, tabL[x.val]? = some (UInt8.ofNat (bl x.val)) := by decide +kernel
theorem ixT (x : Nat) (h : x < 256) : indexV Try.prog 9 (.str [0, 1, 2, 2, 3, 3, 3, 3, 4, 4, 4, 4, 4, 4, 4, 4, 5, 5, 5, 5, 5, 5, 5, 5, 5, 5, 5, 5, 5, 5, 5, 5, 6, 6, 6, 6, 6, 6, 6, 6, 6, 6, 6, 6, 6, 6, 6, 6, 6, 6, 6, 6, 6, 6, 6, 6, 6, 6, 6, 6, 6, 6, 6, 6, 7, 7, 7, 7, 7, 7, 7, 7, 7, 7, 7, 7, 7, 7, 7, 7, 7, 7, 7, 7, 7, 7, 7, 7, 7, 7, 7, 7, 7, 7, 7, 7, 7, 7, 7, 7, 7, 7, 7, 7, 7, 7, 7, 7, 7, 7, 7, 7, 7, 7, 7, 7, 7, 7, 7, 7, 7, 7, 7, 7, 7, 7, 7, 7, 8, 8, 8, 8, 8, 8, 8, 8, 8, 8, 8, 8, 8, 8, 8, 8, 8, 8, 8, 8, 8, 8, 8, 8, 8, 8, 8, 8, 8, 8, 8, 8, 8, 8, 8, 8, 8, 8, 8, 8, 8, 8, 8, 8, 8, 8, 8, 8, 8, 8, 8, 8, 8, 8, 8, 8, 8, 8, 8, 8, 8, 8, 8, 8, 8, 8, 8, 8, 8, 8, 8, 8, 8, 8, 8, 8, 8, 8, 8, 8, 8, 8, 8, 8, 8, 8, 8, 8, 8, 8, 8, 8, 8, 8, 8, 8, 8, 8, 8, 8, 8, 8, 8, 8, 8, 8, 8, 8, 8, 8, 8, 8, 8, 8, 8, 8, 8, 8, 8, 8, 8, 8, 8, 8, 8, 8, 8, 8]) (.int .u8 (x : Int)) = some (.int .u8 (bl x : Int)) := by
  have e := tab_ok ⟨x, h⟩
  have hb : bl x ≤ 8 := bl_le (k := 8) h
  show indexV Try.prog 9 (.str tabL) (.int .u8 (x : Int)) = _
  unfold indexV
  rw [u9]
  simp only [Int.toNat_natCast]
  rw [if_pos (by omega), e]
  show some (V.int .u8 ((UInt8.ofNat (bl x)).toNat : Int)) = _
  have e2 : (UInt8.ofNat (bl x)).toNat = bl x := by rw [UInt8.toNat_ofNat']; omega
  rw [e2]
theorem sr32 {t : TypeId} (n : Nat) : binV Try.prog .shr t (.int .u64 (n : Int)) (.int .u64 32) = some (.int .u64 ((n / 4294967296 : Nat) : Int)) := sh_r n 32
theorem sr16 {t : TypeId} (n : Nat) : binV Try.prog .shr t (.int .u64 (n : Int)) (.int .u64 16) = some (.int .u64 ((n / 65536 : Nat) : Int)) := sh_r n 16
theorem sr8 {t : TypeId} (n : Nat) : binV Try.prog .shr t (.int .u64 (n : Int)) (.int .u64 8) = some (.int .u64 ((n / 256 : Nat) : Int)) := sh_r n 8
set_option maxHeartbeats 16000000 in
theorem fn171 (n : Nat) (h : n < 18446744073709551616) (H : Hp) : callL Try.prog pr 171 [.int .u64 (n : Int)] H = some (.int .i64 (bl n : Int), H) := by
  refine run171 (Nat.le_of_ble_eq_true rfl) ?_
  obtain ⟨n1, hn1, c1, a1, b1⟩ : ∃ n1 : Nat, (if 4294967296 ≤ n then n / 4294967296 else n) = n1 ∧ n1 < 4294967296 ∧ (4294967296 ≤ n → bl n = bl n1 + 32) ∧ (n < 4294967296 → n1 = n) := by
    refine ⟨_, rfl, ?_, fun h => ?_, fun h => ?_⟩
    · split <;> omega
    · rw [if_pos h]; exact bl_div (j := 32) h
    · rw [if_neg (by omega)]
  obtain ⟨n2, hn2, c2, a2, b2⟩ : ∃ n2 : Nat, (if 65536 ≤ n1 then n1 / 65536 else n1) = n2 ∧ n2 < 65536 ∧ (65536 ≤ n1 → bl n1 = bl n2 + 16) ∧ (n1 < 65536 → n2 = n1) := by
    refine ⟨_, rfl, ?_, fun h => ?_, fun h => ?_⟩
    · split <;> omega
    · rw [if_pos h]; exact bl_div (j := 16) h
    · rw [if_neg (by omega)]
  obtain ⟨n3, hn3, c3, a3, b3⟩ : ∃ n3 : Nat, (if 256 ≤ n2 then n2 / 256 else n2) = n3 ∧ n3 < 256 ∧ (256 ≤ n2 → bl n2 = bl n3 + 8) ∧ (n2 < 256 → n3 = n2) := by
    refine ⟨_, rfl, ?_, fun h => ?_, fun h => ?_⟩
    · split <;> omega
    · rw [if_pos h]; exact bl_div (j := 8) h
    · rw [if_neg (by omega)]
  have hb8 : bl n3 ≤ 8 := bl_le (k := 8) c3
  have ht := ixT n3 c3
  have hw8 : IntKind.u8.wrap (n3 : Int) = n3 := IntWalk.u8_in _ (by omega)
  by_cases q0 : 4294967296 ≤ n
  · have q0' : (4294967296 : Int) ≤ n := by omega
    have e0 : n / 4294967296 = n1 := by rw [← hn1, if_pos q0]
    have z0 := a1 q0
    by_cases q1 : 65536 ≤ n1
    · have q1' : (65536 : Int) ≤ n1 := by omega
      have e1 : n1 / 65536 = n2 := by rw [← hn2, if_pos q1]
      have z1 := a2 q1
      by_cases q2 : 256 ≤ n2
      · have q2' : (256 : Int) ≤ n2 := by omega
        have e2 : n2 / 256 = n3 := by rw [← hn3, if_pos q2]
        have z2 := a3 q2
        simp (disch := first | rfl | omega | exact lt_new _ | assumption | decide | (simp [tk_here, tk_app, tk_0, tk_S, gr_here, gr_app, gr_0, gr_S] <;> omega) | fail) only [r171_0, r171_1, r171_2, r171_3, r171_4, r171_5, r171_6, r171_7, r171_8, r171_9, r171_10, c171, rs171, gc171, q0', sr32, e0, q1', sr16, e1, q2', sr8, e2, ht, hw8, go_sem, ↓reduceIte, Nat.reduceLT, Nat.reduceEqDiff, Nat.reduceAdd, Nat.reduceMul, Nat.reduceSub, Int.reduceAdd, Int.reduceSub, Nat.reduceLeDiff, Int.reduceLT, Int.reduceLE, Int.reduceEq, Int.reduceNeg, Int.reduceToNat]
        repeat' ((first | refine guardB_dec (fun hy => ?_) (fun hy => ?_) | refine guardB_bool (fun hy => ?_) (fun hy => ?_) | refine guardQ_ite (fun hy => ?_) (fun hy => ?_) | refine brQ_dec (fun hy => ?_) (fun hy => ?_) | refine brQ_bool (fun hy => ?_) (fun hy => ?_)) <;> (try simp only [Bool.not_eq_true', Bool.not_eq_false', Bool.and_eq_true, Bool.or_eq_false_iff, decide_eq_true_eq, decide_eq_false_iff_not] at hy) <;> simp (disch := first | rfl | omega | exact lt_new _ | assumption | decide | (simp [tk_here, tk_app, tk_0, tk_S, gr_here, gr_app, gr_0, gr_S] <;> omega) | fail) only [r171_0, r171_1, r171_2, r171_3, r171_4, r171_5, r171_6, r171_7, r171_8, r171_9, r171_10, c171, rs171, gc171, q0', sr32, e0, q1', sr16, e1, q2', sr8, e2, ht, hw8, go_sem, ↓reduceIte, Nat.reduceLT, Nat.reduceEqDiff, Nat.reduceAdd, Nat.reduceMul, Nat.reduceSub, Int.reduceAdd, Int.reduceSub, Nat.reduceLeDiff, Int.reduceLT, Int.reduceLE, Int.reduceEq, Int.reduceNeg, Int.reduceToNat, hy])
        refine finQ_same ?_
        have e : bl n = bl n3 + 32 + 16 + 8 := by omega
        rw [e]
        simp (disch := first | rfl | omega | exact lt_new _ | assumption | decide | (simp [tk_here, tk_app, tk_0, tk_S, gr_here, gr_app, gr_0, gr_S] <;> omega) | fail) only [go_sem, ↓reduceIte, Nat.reduceLT, Nat.reduceEqDiff, Nat.reduceAdd, Nat.reduceMul, Nat.reduceSub, Int.reduceAdd, Int.reduceSub, Nat.reduceLeDiff, Int.reduceLT, Int.reduceLE, Int.reduceEq, Int.reduceNeg, Int.reduceToNat]
        all_goals (refine congrArg (fun x => (V.int IntKind.i64 x, H)) ?_; omega)
      · have e2 : n3 = n2 := b3 (by omega)
        subst e2
        have q2' : ¬ (256 : Int) ≤ n3 := by omega
        simp (disch := first | rfl | omega | exact lt_new _ | assumption | decide | (simp [tk_here, tk_app, tk_0, tk_S, gr_here, gr_app, gr_0, gr_S] <;> omega) | fail) only [r171_0, r171_1, r171_2, r171_3, r171_4, r171_5, r171_6, r171_7, r171_8, r171_9, r171_10, c171, rs171, gc171, q0', sr32, e0, q1', sr16, e1, q2', ht, hw8, go_sem, ↓reduceIte, Nat.reduceLT, Nat.reduceEqDiff, Nat.reduceAdd, Nat.reduceMul, Nat.reduceSub, Int.reduceAdd, Int.reduceSub, Nat.reduceLeDiff, Int.reduceLT, Int.reduceLE, Int.reduceEq, Int.reduceNeg, Int.reduceToNat]
        repeat' ((first | refine guardB_dec (fun hy => ?_) (fun hy => ?_) | refine guardB_bool (fun hy => ?_) (fun hy => ?_) | refine guardQ_ite (fun hy => ?_) (fun hy => ?_) | refine brQ_dec (fun hy => ?_) (fun hy => ?_) | refine brQ_bool (fun hy => ?_) (fun hy => ?_)) <;> (try simp only [Bool.not_eq_true', Bool.not_eq_false', Bool.and_eq_true, Bool.or_eq_false_iff, decide_eq_true_eq, decide_eq_false_iff_not] at hy) <;> simp (disch := first | rfl | omega | exact lt_new _ | assumption | decide | (simp [tk_here, tk_app, tk_0, tk_S, gr_here, gr_app, gr_0, gr_S] <;> omega) | fail) only [r171_0, r171_1, r171_2, r171_3, r171_4, r171_5, r171_6, r171_7, r171_8, r171_9, r171_10, c171, rs171, gc171, q0', sr32, e0, q1', sr16, e1, q2', ht, hw8, go_sem, ↓reduceIte, Nat.reduceLT, Nat.reduceEqDiff, Nat.reduceAdd, Nat.reduceMul, Nat.reduceSub, Int.reduceAdd, Int.reduceSub, Nat.reduceLeDiff, Int.reduceLT, Int.reduceLE, Int.reduceEq, Int.reduceNeg, Int.reduceToNat, hy])
        refine finQ_same ?_
        have e : bl n = bl n3 + 32 + 16 := by omega
        rw [e]
        simp (disch := first | rfl | omega | exact lt_new _ | assumption | decide | (simp [tk_here, tk_app, tk_0, tk_S, gr_here, gr_app, gr_0, gr_S] <;> omega) | fail) only [go_sem, ↓reduceIte, Nat.reduceLT, Nat.reduceEqDiff, Nat.reduceAdd, Nat.reduceMul, Nat.reduceSub, Int.reduceAdd, Int.reduceSub, Nat.reduceLeDiff, Int.reduceLT, Int.reduceLE, Int.reduceEq, Int.reduceNeg, Int.reduceToNat]
        all_goals (refine congrArg (fun x => (V.int IntKind.i64 x, H)) ?_; omega)
    · have e1 : n2 = n1 := b2 (by omega)
      subst e1
      have q1' : ¬ (65536 : Int) ≤ n2 := by omega
      by_cases q2 : 256 ≤ n2
      · have q2' : (256 : Int) ≤ n2 := by omega
        have e2 : n2 / 256 = n3 := by rw [← hn3, if_pos q2]
        have z2 := a3 q2
        simp (disch := first | rfl | omega | exact lt_new _ | assumption | decide | (simp [tk_here, tk_app, tk_0, tk_S, gr_here, gr_app, gr_0, gr_S] <;> omega) | fail) only [r171_0, r171_1, r171_2, r171_3, r171_4, r171_5, r171_6, r171_7, r171_8, r171_9, r171_10, c171, rs171, gc171, q0', sr32, e0, q1', q2', sr8, e2, ht, hw8, go_sem, ↓reduceIte, Nat.reduceLT, Nat.reduceEqDiff, Nat.reduceAdd, Nat.reduceMul, Nat.reduceSub, Int.reduceAdd, Int.reduceSub, Nat.reduceLeDiff, Int.reduceLT, Int.reduceLE, Int.reduceEq, Int.reduceNeg, Int.reduceToNat]
        repeat' ((first | refine guardB_dec (fun hy => ?_) (fun hy => ?_) | refine guardB_bool (fun hy => ?_) (fun hy => ?_) | refine guardQ_ite (fun hy => ?_) (fun hy => ?_) | refine brQ_dec (fun hy => ?_) (fun hy => ?_) | refine brQ_bool (fun hy => ?_) (fun hy => ?_)) <;> (try simp only [Bool.not_eq_true', Bool.not_eq_false', Bool.and_eq_true, Bool.or_eq_false_iff, decide_eq_true_eq, decide_eq_false_iff_not] at hy) <;> simp (disch := first | rfl | omega | exact lt_new _ | assumption | decide | (simp [tk_here, tk_app, tk_0, tk_S, gr_here, gr_app, gr_0, gr_S] <;> omega) | fail) only [r171_0, r171_1, r171_2, r171_3, r171_4, r171_5, r171_6, r171_7, r171_8, r171_9, r171_10, c171, rs171, gc171, q0', sr32, e0, q1', q2', sr8, e2, ht, hw8, go_sem, ↓reduceIte, Nat.reduceLT, Nat.reduceEqDiff, Nat.reduceAdd, Nat.reduceMul, Nat.reduceSub, Int.reduceAdd, Int.reduceSub, Nat.reduceLeDiff, Int.reduceLT, Int.reduceLE, Int.reduceEq, Int.reduceNeg, Int.reduceToNat, hy])
        refine finQ_same ?_
        have e : bl n = bl n3 + 32 + 8 := by omega
        rw [e]
        simp (disch := first | rfl | omega | exact lt_new _ | assumption | decide | (simp [tk_here, tk_app, tk_0, tk_S, gr_here, gr_app, gr_0, gr_S] <;> omega) | fail) only [go_sem, ↓reduceIte, Nat.reduceLT, Nat.reduceEqDiff, Nat.reduceAdd, Nat.reduceMul, Nat.reduceSub, Int.reduceAdd, Int.reduceSub, Nat.reduceLeDiff, Int.reduceLT, Int.reduceLE, Int.reduceEq, Int.reduceNeg, Int.reduceToNat]
        all_goals (refine congrArg (fun x => (V.int IntKind.i64 x, H)) ?_; omega)
      · have e2 : n3 = n2 := b3 (by omega)
        subst e2
        have q2' : ¬ (256 : Int) ≤ n3 := by omega
        simp (disch := first | rfl | omega | exact lt_new _ | assumption | decide | (simp [tk_here, tk_app, tk_0, tk_S, gr_here, gr_app, gr_0, gr_S] <;> omega) | fail) only [r171_0, r171_1, r171_2, r171_3, r171_4, r171_5, r171_6, r171_7, r171_8, r171_9, r171_10, c171, rs171, gc171, q0', sr32, e0, q1', q2', ht, hw8, go_sem, ↓reduceIte, Nat.reduceLT, Nat.reduceEqDiff, Nat.reduceAdd, Nat.reduceMul, Nat.reduceSub, Int.reduceAdd, Int.reduceSub, Nat.reduceLeDiff, Int.reduceLT, Int.reduceLE, Int.reduceEq, Int.reduceNeg, Int.reduceToNat]
        repeat' ((first | refine guardB_dec (fun hy => ?_) (fun hy => ?_) | refine guardB_bool (fun hy => ?_) (fun hy => ?_) | refine guardQ_ite (fun hy => ?_) (fun hy => ?_) | refine brQ_dec (fun hy => ?_) (fun hy => ?_) | refine brQ_bool (fun hy => ?_) (fun hy => ?_)) <;> (try simp only [Bool.not_eq_true', Bool.not_eq_false', Bool.and_eq_true, Bool.or_eq_false_iff, decide_eq_true_eq, decide_eq_false_iff_not] at hy) <;> simp (disch := first | rfl | omega | exact lt_new _ | assumption | decide | (simp [tk_here, tk_app, tk_0, tk_S, gr_here, gr_app, gr_0, gr_S] <;> omega) | fail) only [r171_0, r171_1, r171_2, r171_3, r171_4, r171_5, r171_6, r171_7, r171_8, r171_9, r171_10, c171, rs171, gc171, q0', sr32, e0, q1', q2', ht, hw8, go_sem, ↓reduceIte, Nat.reduceLT, Nat.reduceEqDiff, Nat.reduceAdd, Nat.reduceMul, Nat.reduceSub, Int.reduceAdd, Int.reduceSub, Nat.reduceLeDiff, Int.reduceLT, Int.reduceLE, Int.reduceEq, Int.reduceNeg, Int.reduceToNat, hy])
        refine finQ_same ?_
        have e : bl n = bl n3 + 32 := by omega
        rw [e]
        simp (disch := first | rfl | omega | exact lt_new _ | assumption | decide | (simp [tk_here, tk_app, tk_0, tk_S, gr_here, gr_app, gr_0, gr_S] <;> omega) | fail) only [go_sem, ↓reduceIte, Nat.reduceLT, Nat.reduceEqDiff, Nat.reduceAdd, Nat.reduceMul, Nat.reduceSub, Int.reduceAdd, Int.reduceSub, Nat.reduceLeDiff, Int.reduceLT, Int.reduceLE, Int.reduceEq, Int.reduceNeg, Int.reduceToNat]
        all_goals (refine congrArg (fun x => (V.int IntKind.i64 x, H)) ?_; omega)
  · have e0 : n1 = n := b1 (by omega)
    subst e0
    have q0' : ¬ (4294967296 : Int) ≤ n1 := by omega
    by_cases q1 : 65536 ≤ n1
    · have q1' : (65536 : Int) ≤ n1 := by omega
      have e1 : n1 / 65536 = n2 := by rw [← hn2, if_pos q1]
      have z1 := a2 q1
      by_cases q2 : 256 ≤ n2
      · have q2' : (256 : Int) ≤ n2 := by omega
        have e2 : n2 / 256 = n3 := by rw [← hn3, if_pos q2]
        have z2 := a3 q2
        simp (disch := first | rfl | omega | exact lt_new _ | assumption | decide | (simp [tk_here, tk_app, tk_0, tk_S, gr_here, gr_app, gr_0, gr_S] <;> omega) | fail) only [r171_0, r171_1, r171_2, r171_3, r171_4, r171_5, r171_6, r171_7, r171_8, r171_9, r171_10, c171, rs171, gc171, q0', q1', sr16, e1, q2', sr8, e2, ht, hw8, go_sem, ↓reduceIte, Nat.reduceLT, Nat.reduceEqDiff, Nat.reduceAdd, Nat.reduceMul, Nat.reduceSub, Int.reduceAdd, Int.reduceSub, Nat.reduceLeDiff, Int.reduceLT, Int.reduceLE, Int.reduceEq, Int.reduceNeg, Int.reduceToNat]
        repeat' ((first | refine guardB_dec (fun hy => ?_) (fun hy => ?_) | refine guardB_bool (fun hy => ?_) (fun hy => ?_) | refine guardQ_ite (fun hy => ?_) (fun hy => ?_) | refine brQ_dec (fun hy => ?_) (fun hy => ?_) | refine brQ_bool (fun hy => ?_) (fun hy => ?_)) <;> (try simp only [Bool.not_eq_true', Bool.not_eq_false', Bool.and_eq_true, Bool.or_eq_false_iff, decide_eq_true_eq, decide_eq_false_iff_not] at hy) <;> simp (disch := first | rfl | omega | exact lt_new _ | assumption | decide | (simp [tk_here, tk_app, tk_0, tk_S, gr_here, gr_app, gr_0, gr_S] <;> omega) | fail) only [r171_0, r171_1, r171_2, r171_3, r171_4, r171_5, r171_6, r171_7, r171_8, r171_9, r171_10, c171, rs171, gc171, q0', q1', sr16, e1, q2', sr8, e2, ht, hw8, go_sem, ↓reduceIte, Nat.reduceLT, Nat.reduceEqDiff, Nat.reduceAdd, Nat.reduceMul, Nat.reduceSub, Int.reduceAdd, Int.reduceSub, Nat.reduceLeDiff, Int.reduceLT, Int.reduceLE, Int.reduceEq, Int.reduceNeg, Int.reduceToNat, hy])
        refine finQ_same ?_
        have e : bl n1 = bl n3 + 16 + 8 := by omega
        rw [e]
        simp (disch := first | rfl | omega | exact lt_new _ | assumption | decide | (simp [tk_here, tk_app, tk_0, tk_S, gr_here, gr_app, gr_0, gr_S] <;> omega) | fail) only [go_sem, ↓reduceIte, Nat.reduceLT, Nat.reduceEqDiff, Nat.reduceAdd, Nat.reduceMul, Nat.reduceSub, Int.reduceAdd, Int.reduceSub, Nat.reduceLeDiff, Int.reduceLT, Int.reduceLE, Int.reduceEq, Int.reduceNeg, Int.reduceToNat]
        all_goals (refine congrArg (fun x => (V.int IntKind.i64 x, H)) ?_; omega)
      · have e2 : n3 = n2 := b3 (by omega)
        subst e2
        have q2' : ¬ (256 : Int) ≤ n3 := by omega
        simp (disch := first | rfl | omega | exact lt_new _ | assumption | decide | (simp [tk_here, tk_app, tk_0, tk_S, gr_here, gr_app, gr_0, gr_S] <;> omega) | fail) only [r171_0, r171_1, r171_2, r171_3, r171_4, r171_5, r171_6, r171_7, r171_8, r171_9, r171_10, c171, rs171, gc171, q0', q1', sr16, e1, q2', ht, hw8, go_sem, ↓reduceIte, Nat.reduceLT, Nat.reduceEqDiff, Nat.reduceAdd, Nat.reduceMul, Nat.reduceSub, Int.reduceAdd, Int.reduceSub, Nat.reduceLeDiff, Int.reduceLT, Int.reduceLE, Int.reduceEq, Int.reduceNeg, Int.reduceToNat]
        repeat' ((first | refine guardB_dec (fun hy => ?_) (fun hy => ?_) | refine guardB_bool (fun hy => ?_) (fun hy => ?_) | refine guardQ_ite (fun hy => ?_) (fun hy => ?_) | refine brQ_dec (fun hy => ?_) (fun hy => ?_) | refine brQ_bool (fun hy => ?_) (fun hy => ?_)) <;> (try simp only [Bool.not_eq_true', Bool.not_eq_false', Bool.and_eq_true, Bool.or_eq_false_iff, decide_eq_true_eq, decide_eq_false_iff_not] at hy) <;> simp (disch := first | rfl | omega | exact lt_new _ | assumption | decide | (simp [tk_here, tk_app, tk_0, tk_S, gr_here, gr_app, gr_0, gr_S] <;> omega) | fail) only [r171_0, r171_1, r171_2, r171_3, r171_4, r171_5, r171_6, r171_7, r171_8, r171_9, r171_10, c171, rs171, gc171, q0', q1', sr16, e1, q2', ht, hw8, go_sem, ↓reduceIte, Nat.reduceLT, Nat.reduceEqDiff, Nat.reduceAdd, Nat.reduceMul, Nat.reduceSub, Int.reduceAdd, Int.reduceSub, Nat.reduceLeDiff, Int.reduceLT, Int.reduceLE, Int.reduceEq, Int.reduceNeg, Int.reduceToNat, hy])
        refine finQ_same ?_
        have e : bl n1 = bl n3 + 16 := by omega
        rw [e]
        simp (disch := first | rfl | omega | exact lt_new _ | assumption | decide | (simp [tk_here, tk_app, tk_0, tk_S, gr_here, gr_app, gr_0, gr_S] <;> omega) | fail) only [go_sem, ↓reduceIte, Nat.reduceLT, Nat.reduceEqDiff, Nat.reduceAdd, Nat.reduceMul, Nat.reduceSub, Int.reduceAdd, Int.reduceSub, Nat.reduceLeDiff, Int.reduceLT, Int.reduceLE, Int.reduceEq, Int.reduceNeg, Int.reduceToNat]
        all_goals (refine congrArg (fun x => (V.int IntKind.i64 x, H)) ?_; omega)
    · have e1 : n2 = n1 := b2 (by omega)
      subst e1
      have q1' : ¬ (65536 : Int) ≤ n2 := by omega
      by_cases q2 : 256 ≤ n2
      · have q2' : (256 : Int) ≤ n2 := by omega
        have e2 : n2 / 256 = n3 := by rw [← hn3, if_pos q2]
        have z2 := a3 q2
        simp (disch := first | rfl | omega | exact lt_new _ | assumption | decide | (simp [tk_here, tk_app, tk_0, tk_S, gr_here, gr_app, gr_0, gr_S] <;> omega) | fail) only [r171_0, r171_1, r171_2, r171_3, r171_4, r171_5, r171_6, r171_7, r171_8, r171_9, r171_10, c171, rs171, gc171, q0', q1', q2', sr8, e2, ht, hw8, go_sem, ↓reduceIte, Nat.reduceLT, Nat.reduceEqDiff, Nat.reduceAdd, Nat.reduceMul, Nat.reduceSub, Int.reduceAdd, Int.reduceSub, Nat.reduceLeDiff, Int.reduceLT, Int.reduceLE, Int.reduceEq, Int.reduceNeg, Int.reduceToNat]
        repeat' ((first | refine guardB_dec (fun hy => ?_) (fun hy => ?_) | refine guardB_bool (fun hy => ?_) (fun hy => ?_) | refine guardQ_ite (fun hy => ?_) (fun hy => ?_) | refine brQ_dec (fun hy => ?_) (fun hy => ?_) | refine brQ_bool (fun hy => ?_) (fun hy => ?_)) <;> (try simp only [Bool.not_eq_true', Bool.not_eq_false', Bool.and_eq_true, Bool.or_eq_false_iff, decide_eq_true_eq, decide_eq_false_iff_not] at hy) <;> simp (disch := first | rfl | omega | exact lt_new _ | assumption | decide | (simp [tk_here, tk_app, tk_0, tk_S, gr_here, gr_app, gr_0, gr_S] <;> omega) | fail) only [r171_0, r171_1, r171_2, r171_3, r171_4, r171_5, r171_6, r171_7, r171_8, r171_9, r171_10, c171, rs171, gc171, q0', q1', q2', sr8, e2, ht, hw8, go_sem, ↓reduceIte, Nat.reduceLT, Nat.reduceEqDiff, Nat.reduceAdd, Nat.reduceMul, Nat.reduceSub, Int.reduceAdd, Int.reduceSub, Nat.reduceLeDiff, Int.reduceLT, Int.reduceLE, Int.reduceEq, Int.reduceNeg, Int.reduceToNat, hy])
        refine finQ_same ?_
        have e : bl n2 = bl n3 + 8 := by omega
        rw [e]
        simp (disch := first | rfl | omega | exact lt_new _ | assumption | decide | (simp [tk_here, tk_app, tk_0, tk_S, gr_here, gr_app, gr_0, gr_S] <;> omega) | fail) only [go_sem, ↓reduceIte, Nat.reduceLT, Nat.reduceEqDiff, Nat.reduceAdd, Nat.reduceMul, Nat.reduceSub, Int.reduceAdd, Int.reduceSub, Nat.reduceLeDiff, Int.reduceLT, Int.reduceLE, Int.reduceEq, Int.reduceNeg, Int.reduceToNat]
        all_goals (refine congrArg (fun x => (V.int IntKind.i64 x, H)) ?_; omega)
      · have e2 : n3 = n2 := b3 (by omega)
        subst e2
        have q2' : ¬ (256 : Int) ≤ n3 := by omega
        simp (disch := first | rfl | omega | exact lt_new _ | assumption | decide | (simp [tk_here, tk_app, tk_0, tk_S, gr_here, gr_app, gr_0, gr_S] <;> omega) | fail) only [r171_0, r171_1, r171_2, r171_3, r171_4, r171_5, r171_6, r171_7, r171_8, r171_9, r171_10, c171, rs171, gc171, q0', q1', q2', ht, hw8, go_sem, ↓reduceIte, Nat.reduceLT, Nat.reduceEqDiff, Nat.reduceAdd, Nat.reduceMul, Nat.reduceSub, Int.reduceAdd, Int.reduceSub, Nat.reduceLeDiff, Int.reduceLT, Int.reduceLE, Int.reduceEq, Int.reduceNeg, Int.reduceToNat]
        repeat' ((first | refine guardB_dec (fun hy => ?_) (fun hy => ?_) | refine guardB_bool (fun hy => ?_) (fun hy => ?_) | refine guardQ_ite (fun hy => ?_) (fun hy => ?_) | refine brQ_dec (fun hy => ?_) (fun hy => ?_) | refine brQ_bool (fun hy => ?_) (fun hy => ?_)) <;> (try simp only [Bool.not_eq_true', Bool.not_eq_false', Bool.and_eq_true, Bool.or_eq_false_iff, decide_eq_true_eq, decide_eq_false_iff_not] at hy) <;> simp (disch := first | rfl | omega | exact lt_new _ | assumption | decide | (simp [tk_here, tk_app, tk_0, tk_S, gr_here, gr_app, gr_0, gr_S] <;> omega) | fail) only [r171_0, r171_1, r171_2, r171_3, r171_4, r171_5, r171_6, r171_7, r171_8, r171_9, r171_10, c171, rs171, gc171, q0', q1', q2', ht, hw8, go_sem, ↓reduceIte, Nat.reduceLT, Nat.reduceEqDiff, Nat.reduceAdd, Nat.reduceMul, Nat.reduceSub, Int.reduceAdd, Int.reduceSub, Nat.reduceLeDiff, Int.reduceLT, Int.reduceLE, Int.reduceEq, Int.reduceNeg, Int.reduceToNat, hy])
        refine finQ_same ?_
        have e : bl n3 = bl n3 := by omega
        rw [e]
        simp (disch := first | rfl | omega | exact lt_new _ | assumption | decide | (simp [tk_here, tk_app, tk_0, tk_S, gr_here, gr_app, gr_0, gr_S] <;> omega) | fail) only [go_sem, ↓reduceIte, Nat.reduceLT, Nat.reduceEqDiff, Nat.reduceAdd, Nat.reduceMul, Nat.reduceSub, Int.reduceAdd, Int.reduceSub, Nat.reduceLeDiff, Int.reduceLT, Int.reduceLE, Int.reduceEq, Int.reduceNeg, Int.reduceToNat]
        all_goals (refine congrArg (fun x => (V.int IntKind.i64 x, H)) ?_; omega)
end Go.Proofs.Ytejkgnmjdaohdaa
/-
  Products of two words, and division of two words by one; walked. No statement of the seat stands here.
-/
namespace Go.Proofs.Ytejkgnmjdaohdaa
open Go Go.An
set_option maxRecDepth 4000
set_option linter.unusedSimpArgs false
set_option linter.unusedVariables false

theorem prod_le {a b : Nat} (ha : a < 4294967296) (hb : b < 4294967296) : a * b ≤ 18446744065119617025 := Nat.mul_le_mul (show a ≤ 4294967295 by omega) (show b ≤ 4294967295 by omega)
theorem wmul {a b p : Nat} (h : a * b = p) (hp : p < 18446744073709551616) : IntKind.u64.wrap ((a : Int) * (b : Int)) = (p : Int) := by
  rw [← Int.natCast_mul, h]
  exact u64n hp
theorem wmulm (a b : Nat) : IntKind.u64.wrap ((a : Int) * (b : Int)) = ((a * b % 18446744073709551616 : Nat) : Int) := by
  rw [← Int.natCast_mul, u64m]
  rfl
set_option maxHeartbeats 8000000 in
theorem fn134 (a b : Nat) (ha : a < 18446744073709551616) (hb : b < 18446744073709551616) (H : Hp) : callL Try.prog pr 134 [.int .u64 (a : Int), .int .u64 (b : Int)] H = some (.tup [.int .u64 ((a * b / 18446744073709551616 : Nat) : Int), .int .u64 ((a * b % 18446744073709551616 : Nat) : Int)], H) := by
  obtain ⟨x0, hx0⟩ : ∃ x, a % 4294967296 = x := ⟨_, rfl⟩
  obtain ⟨x1, hx1⟩ : ∃ x, a / 4294967296 = x := ⟨_, rfl⟩
  obtain ⟨y0, hy0⟩ : ∃ x, b % 4294967296 = x := ⟨_, rfl⟩
  obtain ⟨y1, hy1⟩ : ∃ x, b / 4294967296 = x := ⟨_, rfl⟩
  obtain ⟨S, hS⟩ : ∃ S, x0 * y0 = S := ⟨_, rfl⟩
  obtain ⟨Q, hQ⟩ : ∃ S, x1 * y0 = S := ⟨_, rfl⟩
  obtain ⟨R, hR⟩ : ∃ S, x0 * y1 = S := ⟨_, rfl⟩
  obtain ⟨P, hP⟩ : ∃ S, x1 * y1 = S := ⟨_, rfl⟩
  have bS : S ≤ 18446744065119617025 := hS ▸ prod_le (by omega) (by omega)
  have bQ : Q ≤ 18446744065119617025 := hQ ▸ prod_le (by omega) (by omega)
  have bR : R ≤ 18446744065119617025 := hR ▸ prod_le (by omega) (by omega)
  have bP : P ≤ 18446744065119617025 := hP ▸ prod_le (by omega) (by omega)
  have hab : a * b = P * 18446744073709551616 + Q * 4294967296 + R * 4294967296 + S := by
    have e1 : a = x1 * 4294967296 + x0 := by omega
    have e2 : b = y1 * 4294967296 + y0 := by omega
    have g1 : x1 * 4294967296 * (y1 * 4294967296) = P * 18446744073709551616 := by rw [Nat.mul_mul_mul_comm, hP]
    have g2 : x1 * 4294967296 * y0 = Q * 4294967296 := by rw [Nat.mul_right_comm, hQ]
    have g3 : x0 * (y1 * 4294967296) = R * 4294967296 := by rw [← Nat.mul_assoc, hR]
    rw [e1, e2, Nat.add_mul, Nat.mul_add, Nat.mul_add, g1, g2, g3, hS]
    omega
  obtain ⟨t, ht⟩ : ∃ t, Q + S / 4294967296 = t := ⟨_, rfl⟩
  obtain ⟨w, hw⟩ : ∃ w, t % 4294967296 + R = w := ⟨_, rfl⟩
  obtain ⟨hi, hhi⟩ : ∃ z, P + t / 4294967296 + w / 4294967296 = z := ⟨_, rfl⟩
  have h1 : a * b / 18446744073709551616 = hi := by rw [hab]; omega
  have bt : t < 18446744073709551616 := by omega
  have bw : w < 18446744073709551616 := by omega
  have bh : hi < 18446744073709551616 := by rw [← h1]; exact Nat.div_lt_of_lt_mul (Nat.mul_lt_mul'' ha hb)
  have m1 := an_m (t := 175) a ha
  have m2 := an_m (t := 175) b hb
  have m3 := an_m (t := 175) t bt
  rw [hx0] at m1
  rw [hy0] at m2
  have w1 := wmul hS (by omega)
  have w2 := wmul hQ (by omega)
  have w3 := wmul hR (by omega)
  have w4 := wmul hP (by omega)
  have w5 := wmulm a b
  have e1 : (Q : Int) + ((S / 4294967296 : Nat) : Int) = (t : Int) := by omega
  have e2 : ((t % 4294967296 : Nat) : Int) + (R : Int) = (w : Int) := by omega
  have e3 : (P : Int) + ((t / 4294967296 : Nat) : Int) + ((w / 4294967296 : Nat) : Int) = (hi : Int) := by omega
  have e4 : IntKind.u64.wrap (t : Int) = t := u64n bt
  have e5 : IntKind.u64.wrap (w : Int) = w := u64n bw
  have e6 : IntKind.u64.wrap (hi : Int) = hi := u64n bh
  have e7 : IntKind.u64.wrap ((P : Int) + ((t / 4294967296 : Nat) : Int)) = ((P : Int) + ((t / 4294967296 : Nat) : Int)) := by
    rw [u64m]
    omega
  rw [h1]
  refine run134 (Nat.le_of_ble_eq_true rfl) ?_
  simp (disch := first | rfl | omega | exact lt_new _ | assumption | decide | (simp [tk_here, tk_app, tk_0, tk_S, gr_here, gr_app, gr_0, gr_S] <;> omega) | fail) only [r134_0, r134_1, r134_2, r134_3, r134_4, r134_5, r134_6, r134_7, r134_8, r134_9, r134_10, r134_11, c134, rs134, gc134, m1, m2, m3, sr32, hx1, hy1, w1, w2, w3, w4, w5, e1, e2, e3, e4, e5, e6, e7, go_sem, ↓reduceIte, Nat.reduceLT, Nat.reduceEqDiff, Nat.reduceAdd, Nat.reduceMul, Nat.reduceSub, Int.reduceAdd, Int.reduceSub, Nat.reduceLeDiff, Int.reduceLT, Int.reduceLE, Int.reduceEq, Int.reduceNeg, Int.reduceToNat]
  repeat' ((first | refine guardB_dec (fun hy => ?_) (fun hy => ?_) | refine guardB_bool (fun hy => ?_) (fun hy => ?_) | refine guardQ_ite (fun hy => ?_) (fun hy => ?_) | refine brQ_dec (fun hy => ?_) (fun hy => ?_) | refine brQ_bool (fun hy => ?_) (fun hy => ?_)) <;> (try simp only [Bool.not_eq_true', Bool.not_eq_false', Bool.and_eq_true, Bool.or_eq_false_iff, decide_eq_true_eq, decide_eq_false_iff_not] at hy) <;> simp (disch := first | rfl | omega | exact lt_new _ | assumption | decide | (simp [tk_here, tk_app, tk_0, tk_S, gr_here, gr_app, gr_0, gr_S] <;> omega) | fail) only [r134_0, r134_1, r134_2, r134_3, r134_4, r134_5, r134_6, r134_7, r134_8, r134_9, r134_10, r134_11, c134, rs134, gc134, m1, m2, m3, sr32, hx1, hy1, w1, w2, w3, w4, w5, e1, e2, e3, e4, e5, e6, e7, go_sem, ↓reduceIte, Nat.reduceLT, Nat.reduceEqDiff, Nat.reduceAdd, Nat.reduceMul, Nat.reduceSub, Int.reduceAdd, Int.reduceSub, Nat.reduceLeDiff, Int.reduceLT, Int.reduceLE, Int.reduceEq, Int.reduceNeg, Int.reduceToNat, hy])
  refine finQ_same ?_
  simp (disch := first | rfl | omega | exact lt_new _ | assumption | decide | (simp [tk_here, tk_app, tk_0, tk_S, gr_here, gr_app, gr_0, gr_S] <;> omega) | fail) only [go_sem, ↓reduceIte, Nat.reduceLT, Nat.reduceEqDiff, Nat.reduceAdd, Nat.reduceMul, Nat.reduceSub, Int.reduceAdd, Int.reduceSub, Nat.reduceLeDiff, Int.reduceLT, Int.reduceLE, Int.reduceEq, Int.reduceNeg, Int.reduceToNat]
end Go.Proofs.Ytejkgnmjdaohdaa
