/-
  Texts of this seat, laid together. No statement of the seat stands here.
-/
import Derived.Test.YtdkeiaeaahpfdaaP5
/-
  Validate of the reference, walked. No statement of the seat stands here.
-/
namespace Go.Proofs.Ytdkeiaeaahpfdaa
open Go Go.An
set_option maxRecDepth 4000
set_option linter.unusedSimpArgs false
set_option linter.unusedVariables false

theorem ix_str {l : List UInt8} {i : Nat} (h : i < l.length) : indexV Try.prog 9 (.str l) (.int .i64 i) = some (.int .u8 (byE.at l i).toNat) := by
  simp [indexV, u9, byE.at_some h]
theorem fn56 (s : List UInt8) (hs : s.length ≤ 2 ^ 62) (H : Hp) : callL Try.prog pr 56 [.str s] H = some (.bool (txB s), H) := by
  have hl : ∀ H, lenV Try.prog 9 H (.str s) = some (.int .i64 s.length) := fun H => by simp [lenV, u9, hs]
  refine run56 (Nat.le_of_ble_eq_true rfl) ?_
  simp (disch := first | rfl | omega | exact lt_new _ | assumption | decide | (simp [tk_here, tk_app, tk_0, tk_S, gr_here, gr_app, gr_0, gr_S] <;> omega) | fail) only [r56_0, r56_1, r56_2, r56_3, r56_4, r56_5, r56_7, c56, rs56, gc56, go_sem, ↓reduceIte, Nat.reduceLT, Nat.reduceEqDiff, Nat.reduceAdd, Nat.reduceMul, Nat.reduceSub, Int.reduceAdd, Int.reduceSub, Nat.reduceLeDiff, Int.reduceLT, Int.reduceLE, Int.reduceEq, Int.reduceNeg, Int.reduceToNat]
  refine Wp_loop (fun m T D H' => ∃ i, m = s.length - i ∧ i ≤ s.length ∧ D = [] ∧ H' = H ∧ get T 0 = .str s ∧ get T 3 = .int .i64 i ∧ (s.take i).any badC = false) ?_ s.length _ _ _ ?_
  · rintro m T D H' ⟨i, rfl, hi, rfl, rfl, t0, t3, hb⟩
    by_cases hlt : i < s.length
    · have hlt' : (i : Int) < s.length := by omega
      have hx := ix_str hlt
      obtain ⟨c, hc⟩ : ∃ c, byE.at s i = c := ⟨_, rfl⟩
      rw [hc] at hx
      by_cases hq : badC c = true
      · have hF : txB s = false := by unfold txB; rw [any_mem byE hlt (by rw [hc]; exact hq)]; simp
        have hq2 : ¬ (c.toNat : Int) < 32 → (126 : Int) < c.toNat := by
          unfold badC at hq; simp at hq; omega
        have hy := True.intro
        repeat' (first | simp (disch := first | rfl | omega | exact lt_new _ | assumption | decide | (simp [tk_here, tk_app, tk_0, tk_S, gr_here, gr_app, gr_0, gr_S] <;> omega) | fail) only [r56_0, r56_1, r56_2, r56_3, r56_4, r56_5, l56_6, r56_7, c56, rs56, gc56, t0, t3, hl, hlt', hx, hF, hq2, go_sem, ↓reduceIte, Nat.reduceLT, Nat.reduceEqDiff, Nat.reduceAdd, Nat.reduceMul, Nat.reduceSub, Int.reduceAdd, Int.reduceSub, Nat.reduceLeDiff, Int.reduceLT, Int.reduceLE, Int.reduceEq, Int.reduceNeg, Int.reduceToNat, hy] | ((first | refine guardB_dec (fun hy => ?_) (fun hy => ?_) | refine guardB_bool (fun hy => ?_) (fun hy => ?_) | refine guardQ_ite (fun hy => ?_) (fun hy => ?_) | refine brQ_dec (fun hy => ?_) (fun hy => ?_) | refine brQ_bool (fun hy => ?_) (fun hy => ?_)) <;> (try simp only [Bool.not_eq_true', Bool.not_eq_false', Bool.and_eq_true, Bool.or_eq_false_iff, decide_eq_true_eq, decide_eq_false_iff_not] at hy)))
        all_goals (refine finQ_same ?_; simp (disch := first | rfl | omega | exact lt_new _ | assumption | decide | (simp [tk_here, tk_app, tk_0, tk_S, gr_here, gr_app, gr_0, gr_S] <;> omega) | fail) only [go_sem, ↓reduceIte, Nat.reduceLT, Nat.reduceEqDiff, Nat.reduceAdd, Nat.reduceMul, Nat.reduceSub, Int.reduceAdd, Int.reduceSub, Nat.reduceLeDiff, Int.reduceLT, Int.reduceLE, Int.reduceEq, Int.reduceNeg, Int.reduceToNat])
      · have hn := any_none byE hlt hb (by rw [hc]; simpa using hq)
        have hq1 : ¬ (c.toNat : Int) < 32 := by unfold badC at hq; simp at hq; omega
        have hq2 : ¬ (126 : Int) < c.toNat := by unfold badC at hq; simp at hq; omega
        have hy := True.intro
        repeat' (first | simp (disch := first | rfl | omega | exact lt_new _ | assumption | decide | (simp [tk_here, tk_app, tk_0, tk_S, gr_here, gr_app, gr_0, gr_S] <;> omega) | fail) only [r56_0, r56_1, r56_2, r56_3, r56_4, r56_5, l56_6, r56_7, c56, rs56, gc56, t0, t3, hl, hlt', hx, hq1, hq2, go_sem, ↓reduceIte, Nat.reduceLT, Nat.reduceEqDiff, Nat.reduceAdd, Nat.reduceMul, Nat.reduceSub, Int.reduceAdd, Int.reduceSub, Nat.reduceLeDiff, Int.reduceLT, Int.reduceLE, Int.reduceEq, Int.reduceNeg, Int.reduceToNat, hy] | ((first | refine guardB_dec (fun hy => ?_) (fun hy => ?_) | refine guardB_bool (fun hy => ?_) (fun hy => ?_) | refine guardQ_ite (fun hy => ?_) (fun hy => ?_) | refine brQ_dec (fun hy => ?_) (fun hy => ?_) | refine brQ_bool (fun hy => ?_) (fun hy => ?_)) <;> (try simp only [Bool.not_eq_true', Bool.not_eq_false', Bool.and_eq_true, Bool.or_eq_false_iff, decide_eq_true_eq, decide_eq_false_iff_not] at hy)))
        exact ⟨_, by omega, i + 1, rfl, hlt, rfl, hn⟩
    · obtain rfl : i = s.length := by omega
      rw [List.take_length] at hb
      have e1 : ((s.length : Int) ≤ 200) = (s.length ≤ 200) := by simp; omega
      have hy := True.intro
      repeat' (first | simp (disch := first | rfl | omega | exact lt_new _ | assumption | decide | (simp [tk_here, tk_app, tk_0, tk_S, gr_here, gr_app, gr_0, gr_S] <;> omega) | fail) only [r56_0, r56_1, r56_2, r56_3, r56_4, r56_5, l56_6, r56_7, c56, rs56, gc56, t0, t3, hl, Int.lt_irrefl, go_sem, ↓reduceIte, Nat.reduceLT, Nat.reduceEqDiff, Nat.reduceAdd, Nat.reduceMul, Nat.reduceSub, Int.reduceAdd, Int.reduceSub, Nat.reduceLeDiff, Int.reduceLT, Int.reduceLE, Int.reduceEq, Int.reduceNeg, Int.reduceToNat, hy] | ((first | refine guardB_dec (fun hy => ?_) (fun hy => ?_) | refine guardB_bool (fun hy => ?_) (fun hy => ?_) | refine guardQ_ite (fun hy => ?_) (fun hy => ?_) | refine brQ_dec (fun hy => ?_) (fun hy => ?_) | refine brQ_bool (fun hy => ?_) (fun hy => ?_)) <;> (try simp only [Bool.not_eq_true', Bool.not_eq_false', Bool.and_eq_true, Bool.or_eq_false_iff, decide_eq_true_eq, decide_eq_false_iff_not] at hy)))
      refine finQ_same ?_
      simp (disch := first | rfl | omega | exact lt_new _ | assumption | decide | (simp [tk_here, tk_app, tk_0, tk_S, gr_here, gr_app, gr_0, gr_S] <;> omega) | fail) only [go_sem, ↓reduceIte, Nat.reduceLT, Nat.reduceEqDiff, Nat.reduceAdd, Nat.reduceMul, Nat.reduceSub, Int.reduceAdd, Int.reduceSub, Nat.reduceLeDiff, Int.reduceLT, Int.reduceLE, Int.reduceEq, Int.reduceNeg, Int.reduceToNat, txB, hb, e1]
  · exact ⟨0, by simp [go_sem]⟩
theorem fn57 (p : Pk) (hp : PkOk p) (snap : Int) (H : Hp) : callL Try.prog pr 57 [.agg (pkE.f p), .int .i64 snap] H = some (.bool (pkB p snap), H) := by
  have h149 := fn56 p.note (by have := hp.2.2.2.2; omega)
  have hl := hp.2.2.2.1
  refine run57 (Nat.le_of_ble_eq_true rfl) ?_
  unfold pkB
  have hy := True.intro
  repeat' (first | simp (disch := first | rfl | omega | exact lt_new _ | assumption | decide | (simp [tk_here, tk_app, tk_0, tk_S, gr_here, gr_app, gr_0, gr_S] <;> omega) | fail) only [r57_0, r57_1, r57_2, r57_3, c57, rs57, gc57, h149, go_sem, ↓reduceIte, Nat.reduceLT, Nat.reduceEqDiff, Nat.reduceAdd, Nat.reduceMul, Nat.reduceSub, Int.reduceAdd, Int.reduceSub, Nat.reduceLeDiff, Int.reduceLT, Int.reduceLE, Int.reduceEq, Int.reduceNeg, Int.reduceToNat, hy] | ((first | refine guardB_dec (fun hy => ?_) (fun hy => ?_) | refine guardB_bool (fun hy => ?_) (fun hy => ?_) | refine guardQ_ite (fun hy => ?_) (fun hy => ?_) | refine brQ_dec (fun hy => ?_) (fun hy => ?_) | refine brQ_bool (fun hy => ?_) (fun hy => ?_)) <;> (try simp only [Bool.not_eq_true', Bool.not_eq_false', Bool.and_eq_true, Bool.or_eq_false_iff, decide_eq_true_eq, decide_eq_false_iff_not] at hy)))
  all_goals (try ((first | refine finQ_same ?_ | refine finQ_app ?_ | (rw [List.append_assoc]; refine finQ_app ?_)) <;> simp (disch := first | rfl | omega | exact lt_new _ | assumption | decide | (simp [tk_here, tk_app, tk_0, tk_S, gr_here, gr_app, gr_0, gr_S] <;> omega) | fail) only [go_sem, ↓reduceIte, Nat.reduceLT, Nat.reduceEqDiff, Nat.reduceAdd, Nat.reduceMul, Nat.reduceSub, Int.reduceAdd, Int.reduceSub, Nat.reduceLeDiff, Int.reduceLT, Int.reduceLE, Int.reduceEq, Int.reduceNeg, Int.reduceToNat, List.append_assoc, List.cons_append, List.nil_append, *]))
  all_goals (try first | rfl | (simp [*]; done) | grind)
set_option maxHeartbeats 8000000 in
theorem fn44 (c : Cp) (hc : CpOk c) (H : Hp) : callL Try.prog pr 44 [.agg (cpE.f c)] H = some (.bool (!wrongB c), H) := by
  obtain ⟨o0, o1, o1l, o2, o2l, o3, o3l, o4, o4l⟩ := hc
  have h149 := fn56 c.note (by omega)
  have hwr : ∀ {b : Bool}, wrongB c = b → (!wrongB c) = !b := fun h => by rw [h]
  refine run44 (Nat.le_of_ble_eq_true rfl) ?_
  by_cases h0 : txB c.note = true ∧ ¬ (c.faces.length : Int) < 1
  case neg =>
    have hW : wrongB c = true := by
      unfold wrongB
      by_cases h1 : txB c.note = true
      · have : (c.faces.length : Int) = 0 := by have : ¬ ¬ (c.faces.length : Int) < 1 := fun h => h0 ⟨h1, h⟩; omega
        simp only [this, decide_true, Bool.true_or]
      · simp [h1]
    have h1 : txB c.note = true → (c.faces.length : Int) < 1 := fun h => by
      by_cases h2 : (c.faces.length : Int) < 1
      · exact h2
      · exact absurd ⟨h, h2⟩ h0
    have hy := True.intro
    repeat' (first | simp (disch := first | rfl | omega | exact lt_new _ | assumption | decide | (simp [tk_here, tk_app, tk_0, tk_S, gr_here, gr_app, gr_0, gr_S] <;> omega) | fail) only [r44_0, r44_1, r44_2, c44, rs44, gc44, loadV_ptr, storeV_ptr, List.append_assoc, List.length_append, List.length_cons, List.length_nil, List.set_cons_zero, List.set_cons_succ, tk_here, tk_app, gr_here, gr_app, st_here, st_app, h149, h1, go_sem, ↓reduceIte, Nat.reduceLT, Nat.reduceEqDiff, Nat.reduceAdd, Nat.reduceMul, Nat.reduceSub, Int.reduceAdd, Int.reduceSub, Nat.reduceLeDiff, Int.reduceLT, Int.reduceLE, Int.reduceEq, Int.reduceNeg, Int.reduceToNat, hy] | ((first | refine guardB_dec (fun hy => ?_) (fun hy => ?_) | refine guardB_bool (fun hy => ?_) (fun hy => ?_) | refine guardQ_ite (fun hy => ?_) (fun hy => ?_) | refine brQ_dec (fun hy => ?_) (fun hy => ?_) | refine brQ_bool (fun hy => ?_) (fun hy => ?_)) <;> (try simp only [Bool.not_eq_true', Bool.not_eq_false', Bool.and_eq_true, Bool.or_eq_false_iff, decide_eq_true_eq, decide_eq_false_iff_not] at hy)))
    all_goals (refine finQ_app ?_; simp (disch := first | rfl | omega | exact lt_new _ | assumption | decide | (simp [tk_here, tk_app, tk_0, tk_S, gr_here, gr_app, gr_0, gr_S] <;> omega) | fail) only [go_sem, ↓reduceIte, Nat.reduceLT, Nat.reduceEqDiff, Nat.reduceAdd, Nat.reduceMul, Nat.reduceSub, Int.reduceAdd, Int.reduceSub, Nat.reduceLeDiff, Int.reduceLT, Int.reduceLE, Int.reduceEq, Int.reduceNeg, Int.reduceToNat, hW])
  obtain ⟨h1, h2⟩ := h0
  have hy := True.intro
  repeat' (first | simp (disch := first | rfl | omega | exact lt_new _ | assumption | decide | (simp [tk_here, tk_app, tk_0, tk_S, gr_here, gr_app, gr_0, gr_S] <;> omega) | fail) only [r44_0, r44_1, r44_3, c44, loadV_ptr, storeV_ptr, List.append_assoc, List.length_append, List.length_cons, List.length_nil, List.set_cons_zero, List.set_cons_succ, tk_here, tk_app, gr_here, gr_app, st_here, st_app, h149, h1, h2, go_sem, ↓reduceIte, Nat.reduceLT, Nat.reduceEqDiff, Nat.reduceAdd, Nat.reduceMul, Nat.reduceSub, Int.reduceAdd, Int.reduceSub, Nat.reduceLeDiff, Int.reduceLT, Int.reduceLE, Int.reduceEq, Int.reduceNeg, Int.reduceToNat, hy] | ((first | refine guardB_dec (fun hy => ?_) (fun hy => ?_) | refine guardB_bool (fun hy => ?_) (fun hy => ?_) | refine guardQ_ite (fun hy => ?_) (fun hy => ?_) | refine brQ_dec (fun hy => ?_) (fun hy => ?_) | refine brQ_bool (fun hy => ?_) (fun hy => ?_)) <;> (try simp only [Bool.not_eq_true', Bool.not_eq_false', Bool.and_eq_true, Bool.or_eq_false_iff, decide_eq_true_eq, decide_eq_false_iff_not] at hy)))
  refine Wp_loop (fun m T D H' => ∃ i G, m = c.faces.length - i ∧ i ≤ c.faces.length ∧ D = [] ∧ H' = H ++ .row 0 (cpE.f c) true :: G ∧ get T 1 = .ptr H.length 0 0 ∧ get T 3 = .int .i64 i ∧ (c.faces.take i).any (fun x => !fcB x) = false) ?_ c.faces.length _ _ _ ?_
  case refine_2 =>
    refine ⟨0, _, rfl, by omega, rfl, rfl, ?_, ?_, rfl⟩
    all_goals simp (disch := first | rfl | omega | exact lt_new _ | assumption | decide | (simp [tk_here, tk_app, tk_0, tk_S, gr_here, gr_app, gr_0, gr_S] <;> omega) | fail) only [go_sem, ↓reduceIte, Nat.reduceLT, Nat.reduceEqDiff, Nat.reduceAdd, Nat.reduceMul, Nat.reduceSub, Int.reduceAdd, Int.reduceSub, Nat.reduceLeDiff, Int.reduceLT, Int.reduceLE, Int.reduceEq, Int.reduceNeg, Int.reduceToNat]
    all_goals first | rfl | (simp; done)
  rintro m T D H' ⟨i, G, rfl, hi, rfl, rfl, t1, tt, hb⟩
  by_cases hlt : i < c.faces.length
  · have hlt' : (i : Int) < c.faces.length := by omega
    have ld := fun H => ldF (H := H) hlt
    have hmem := fcE.at_mem hlt
    obtain ⟨x, hx⟩ : ∃ x, fcE.at c.faces i = x := ⟨_, rfl⟩
    rw [hx] at ld hmem
    have hs1 := fn56 x.name (by have := (o1 _ hmem).1; omega)
    by_cases hq : fcB x = true
    · have hn := any_none fcE hlt hb (by rw [hx]; simp [hq])
      obtain ⟨⟨⟨⟨g1, g2⟩, g3⟩, g4⟩, g5⟩ : (((txB x.name = true ∧ 0 ≤ x.link) ∧ x.link ≤ 65535) ∧ 0 ≤ x.snap) ∧ x.snap ≤ 400 := by simpa [fcB] using hq
      have n2 : ¬ x.link < 0 := by omega
      have n3 : ¬ 65535 < x.link := by omega
      have n4 : ¬ x.snap < 0 := by omega
      have n5 : ¬ 400 < x.snap := by omega
      have hy := True.intro
      repeat' (first | simp (disch := first | rfl | omega | exact lt_new _ | assumption | decide | (simp [tk_here, tk_app, tk_0, tk_S, gr_here, gr_app, gr_0, gr_S] <;> omega) | fail) only [l44_9, r44_4, r44_5, r44_6, r44_8, loadV_ptr, storeV_ptr, List.append_assoc, List.length_append, List.length_cons, List.length_nil, List.set_cons_zero, List.set_cons_succ, tk_here, tk_app, gr_here, gr_app, st_here, st_app, t1, tt, hlt', ld, hs1, g1, n2, n3, n4, n5, go_sem, ↓reduceIte, Nat.reduceLT, Nat.reduceEqDiff, Nat.reduceAdd, Nat.reduceMul, Nat.reduceSub, Int.reduceAdd, Int.reduceSub, Nat.reduceLeDiff, Int.reduceLT, Int.reduceLE, Int.reduceEq, Int.reduceNeg, Int.reduceToNat, hy] | ((first | refine guardB_dec (fun hy => ?_) (fun hy => ?_) | refine guardB_bool (fun hy => ?_) (fun hy => ?_) | refine guardQ_ite (fun hy => ?_) (fun hy => ?_) | refine brQ_dec (fun hy => ?_) (fun hy => ?_) | refine brQ_bool (fun hy => ?_) (fun hy => ?_)) <;> (try simp only [Bool.not_eq_true', Bool.not_eq_false', Bool.and_eq_true, Bool.or_eq_false_iff, decide_eq_true_eq, decide_eq_false_iff_not] at hy)))
      exact ⟨_, by omega, i + 1, _, rfl, hlt, rfl, rfl, hn⟩
    · have hW : wrongB c = true := by unfold wrongB; rw [any_mem fcE (q := fun x => !fcB x) hlt (by rw [hx]; simp [hq])]; simp
      have n5 : txB x.name = true → ¬ x.link < 0 → ¬ 65535 < x.link → ¬ x.snap < 0 → 400 < x.snap := fun a b c d => by
        by_cases e : 400 < x.snap
        · exact e
        · exact absurd (by simp [fcB, a]; omega) hq
      have hy := True.intro
      repeat' (first | simp (disch := first | rfl | omega | exact lt_new _ | assumption | decide | (simp [tk_here, tk_app, tk_0, tk_S, gr_here, gr_app, gr_0, gr_S] <;> omega) | fail) only [l44_9, r44_4, r44_5, r44_6, r44_8, r44_7, rs44, gc44, loadV_ptr, storeV_ptr, List.append_assoc, List.length_append, List.length_cons, List.length_nil, List.set_cons_zero, List.set_cons_succ, tk_here, tk_app, gr_here, gr_app, st_here, st_app, t1, tt, hlt', ld, hs1, n5, go_sem, ↓reduceIte, Nat.reduceLT, Nat.reduceEqDiff, Nat.reduceAdd, Nat.reduceMul, Nat.reduceSub, Int.reduceAdd, Int.reduceSub, Nat.reduceLeDiff, Int.reduceLT, Int.reduceLE, Int.reduceEq, Int.reduceNeg, Int.reduceToNat, hy] | ((first | refine guardB_dec (fun hy => ?_) (fun hy => ?_) | refine guardB_bool (fun hy => ?_) (fun hy => ?_) | refine guardQ_ite (fun hy => ?_) (fun hy => ?_) | refine brQ_dec (fun hy => ?_) (fun hy => ?_) | refine brQ_bool (fun hy => ?_) (fun hy => ?_)) <;> (try simp only [Bool.not_eq_true', Bool.not_eq_false', Bool.and_eq_true, Bool.or_eq_false_iff, decide_eq_true_eq, decide_eq_false_iff_not] at hy)))
      all_goals (refine finQ_app ?_; simp (disch := first | rfl | omega | exact lt_new _ | assumption | decide | (simp [tk_here, tk_app, tk_0, tk_S, gr_here, gr_app, gr_0, gr_S] <;> omega) | fail) only [go_sem, ↓reduceIte, Nat.reduceLT, Nat.reduceEqDiff, Nat.reduceAdd, Nat.reduceMul, Nat.reduceSub, Int.reduceAdd, Int.reduceSub, Nat.reduceLeDiff, Int.reduceLT, Int.reduceLE, Int.reduceEq, Int.reduceNeg, Int.reduceToNat, hW])
  · obtain rfl : i = c.faces.length := by omega
    rw [List.take_length] at hb
    have hb0 := hb
    clear hb
    have hy := True.intro
    repeat' (first | simp (disch := first | rfl | omega | exact lt_new _ | assumption | decide | (simp [tk_here, tk_app, tk_0, tk_S, gr_here, gr_app, gr_0, gr_S] <;> omega) | fail) only [l44_9, r44_4, r44_10, loadV_ptr, storeV_ptr, List.append_assoc, List.length_append, List.length_cons, List.length_nil, List.set_cons_zero, List.set_cons_succ, tk_here, tk_app, gr_here, gr_app, st_here, st_app, t1, tt, Int.lt_irrefl, go_sem, ↓reduceIte, Nat.reduceLT, Nat.reduceEqDiff, Nat.reduceAdd, Nat.reduceMul, Nat.reduceSub, Int.reduceAdd, Int.reduceSub, Nat.reduceLeDiff, Int.reduceLT, Int.reduceLE, Int.reduceEq, Int.reduceNeg, Int.reduceToNat, hy] | ((first | refine guardB_dec (fun hy => ?_) (fun hy => ?_) | refine guardB_bool (fun hy => ?_) (fun hy => ?_) | refine guardQ_ite (fun hy => ?_) (fun hy => ?_) | refine brQ_dec (fun hy => ?_) (fun hy => ?_) | refine brQ_bool (fun hy => ?_) (fun hy => ?_)) <;> (try simp only [Bool.not_eq_true', Bool.not_eq_false', Bool.and_eq_true, Bool.or_eq_false_iff, decide_eq_true_eq, decide_eq_false_iff_not] at hy)))
    refine Wp_loop (fun m T D H' => ∃ i G, m = c.names.length - i ∧ i ≤ c.names.length ∧ D = [] ∧ H' = H ++ .row 0 (cpE.f c) true :: G ∧ get T 1 = .ptr H.length 0 0 ∧ get T 5 = .int .i64 i ∧ (c.names.take i).any (fun x => !nmB x) = false) ?_ c.names.length _ _ _ ?_
    case refine_2 =>
      refine ⟨0, _, rfl, by omega, rfl, rfl, ?_, ?_, rfl⟩
      all_goals simp (disch := first | rfl | omega | exact lt_new _ | assumption | decide | (simp [tk_here, tk_app, tk_0, tk_S, gr_here, gr_app, gr_0, gr_S] <;> omega) | fail) only [go_sem, ↓reduceIte, Nat.reduceLT, Nat.reduceEqDiff, Nat.reduceAdd, Nat.reduceMul, Nat.reduceSub, Int.reduceAdd, Int.reduceSub, Nat.reduceLeDiff, Int.reduceLT, Int.reduceLE, Int.reduceEq, Int.reduceNeg, Int.reduceToNat, t1]
      all_goals first | rfl | (simp; done)
    clear t1 tt
    rintro m T D H' ⟨i, G, rfl, hi, rfl, rfl, t1, tt, hb⟩
    by_cases hlt : i < c.names.length
    · have hlt' : (i : Int) < c.names.length := by omega
      have ld := fun H => ldN (H := H) hlt
      have hmem := nmE.at_mem hlt
      obtain ⟨x, hx⟩ : ∃ x, nmE.at c.names i = x := ⟨_, rfl⟩
      rw [hx] at ld hmem
      have hs1 := fn56 x.text (by have := (o2 _ hmem).2; omega)
      have hlb := (o2 _ hmem).1
      by_cases hq : nmB x = true
      · have hn := any_none nmE hlt hb (by rw [hx]; simp [hq])
        obtain ⟨⟨g1, g2⟩, g3⟩ : (txB x.text = true ∧ 1 ≤ x.addr.length) ∧ x.addr.length ≤ 16 := by simpa [nmB] using hq
        have n2 : ¬ (x.addr.length : Int) < 1 := by omega
        have n3 : ¬ (16 : Int) < x.addr.length := by omega
        have hy := True.intro
        repeat' (first | simp (disch := first | rfl | omega | exact lt_new _ | assumption | decide | (simp [tk_here, tk_app, tk_0, tk_S, gr_here, gr_app, gr_0, gr_S] <;> omega) | fail) only [l44_16, r44_11, r44_12, r44_13, r44_15, loadV_ptr, storeV_ptr, List.append_assoc, List.length_append, List.length_cons, List.length_nil, List.set_cons_zero, List.set_cons_succ, tk_here, tk_app, gr_here, gr_app, st_here, st_app, t1, tt, hlt', ld, hs1, g1, n2, n3, go_sem, ↓reduceIte, Nat.reduceLT, Nat.reduceEqDiff, Nat.reduceAdd, Nat.reduceMul, Nat.reduceSub, Int.reduceAdd, Int.reduceSub, Nat.reduceLeDiff, Int.reduceLT, Int.reduceLE, Int.reduceEq, Int.reduceNeg, Int.reduceToNat, hy] | ((first | refine guardB_dec (fun hy => ?_) (fun hy => ?_) | refine guardB_bool (fun hy => ?_) (fun hy => ?_) | refine guardQ_ite (fun hy => ?_) (fun hy => ?_) | refine brQ_dec (fun hy => ?_) (fun hy => ?_) | refine brQ_bool (fun hy => ?_) (fun hy => ?_)) <;> (try simp only [Bool.not_eq_true', Bool.not_eq_false', Bool.and_eq_true, Bool.or_eq_false_iff, decide_eq_true_eq, decide_eq_false_iff_not] at hy)))
        exact ⟨_, by omega, i + 1, _, rfl, hlt, rfl, rfl, hn⟩
      · have hW : wrongB c = true := by unfold wrongB; rw [any_mem nmE (q := fun x => !nmB x) hlt (by rw [hx]; simp [hq])]; simp
        have n5 : ¬ (x.addr.length : Int) < 1 → ¬ (16 : Int) < x.addr.length → txB x.text = false := fun a b => by
          cases e : txB x.text with
          | false => rfl
          | true => exact absurd (by simp [nmB, e]; omega) hq
        have hy := True.intro
        repeat' (first | simp (disch := first | rfl | omega | exact lt_new _ | assumption | decide | (simp [tk_here, tk_app, tk_0, tk_S, gr_here, gr_app, gr_0, gr_S] <;> omega) | fail) only [l44_16, r44_11, r44_12, r44_13, r44_15, r44_14, rs44, gc44, loadV_ptr, storeV_ptr, List.append_assoc, List.length_append, List.length_cons, List.length_nil, List.set_cons_zero, List.set_cons_succ, tk_here, tk_app, gr_here, gr_app, st_here, st_app, t1, tt, hlt', ld, hs1, n5, go_sem, ↓reduceIte, Nat.reduceLT, Nat.reduceEqDiff, Nat.reduceAdd, Nat.reduceMul, Nat.reduceSub, Int.reduceAdd, Int.reduceSub, Nat.reduceLeDiff, Int.reduceLT, Int.reduceLE, Int.reduceEq, Int.reduceNeg, Int.reduceToNat, hy] | ((first | refine guardB_dec (fun hy => ?_) (fun hy => ?_) | refine guardB_bool (fun hy => ?_) (fun hy => ?_) | refine guardQ_ite (fun hy => ?_) (fun hy => ?_) | refine brQ_dec (fun hy => ?_) (fun hy => ?_) | refine brQ_bool (fun hy => ?_) (fun hy => ?_)) <;> (try simp only [Bool.not_eq_true', Bool.not_eq_false', Bool.and_eq_true, Bool.or_eq_false_iff, decide_eq_true_eq, decide_eq_false_iff_not] at hy)))
        all_goals (refine finQ_app ?_; simp (disch := first | rfl | omega | exact lt_new _ | assumption | decide | (simp [tk_here, tk_app, tk_0, tk_S, gr_here, gr_app, gr_0, gr_S] <;> omega) | fail) only [go_sem, ↓reduceIte, Nat.reduceLT, Nat.reduceEqDiff, Nat.reduceAdd, Nat.reduceMul, Nat.reduceSub, Int.reduceAdd, Int.reduceSub, Nat.reduceLeDiff, Int.reduceLT, Int.reduceLE, Int.reduceEq, Int.reduceNeg, Int.reduceToNat, hW])
    · obtain rfl : i = c.names.length := by omega
      rw [List.take_length] at hb
      have hb1 := hb
      clear hb
      have hy := True.intro
      repeat' (first | simp (disch := first | rfl | omega | exact lt_new _ | assumption | decide | (simp [tk_here, tk_app, tk_0, tk_S, gr_here, gr_app, gr_0, gr_S] <;> omega) | fail) only [l44_16, r44_11, r44_17, loadV_ptr, storeV_ptr, List.append_assoc, List.length_append, List.length_cons, List.length_nil, List.set_cons_zero, List.set_cons_succ, tk_here, tk_app, gr_here, gr_app, st_here, st_app, t1, tt, Int.lt_irrefl, go_sem, ↓reduceIte, Nat.reduceLT, Nat.reduceEqDiff, Nat.reduceAdd, Nat.reduceMul, Nat.reduceSub, Int.reduceAdd, Int.reduceSub, Nat.reduceLeDiff, Int.reduceLT, Int.reduceLE, Int.reduceEq, Int.reduceNeg, Int.reduceToNat, hy] | ((first | refine guardB_dec (fun hy => ?_) (fun hy => ?_) | refine guardB_bool (fun hy => ?_) (fun hy => ?_) | refine guardQ_ite (fun hy => ?_) (fun hy => ?_) | refine brQ_dec (fun hy => ?_) (fun hy => ?_) | refine brQ_bool (fun hy => ?_) (fun hy => ?_)) <;> (try simp only [Bool.not_eq_true', Bool.not_eq_false', Bool.and_eq_true, Bool.or_eq_false_iff, decide_eq_true_eq, decide_eq_false_iff_not] at hy)))
      refine Wp_loop (fun m T D H' => ∃ i G, m = c.secrets.length - i ∧ i ≤ c.secrets.length ∧ D = [] ∧ H' = H ++ .row 0 (cpE.f c) true :: G ∧ get T 1 = .ptr H.length 0 0 ∧ get T 7 = .int .i64 i ∧ (c.secrets.take i).any (fun x => !scB x) = false) ?_ c.secrets.length _ _ _ ?_
      case refine_2 =>
        refine ⟨0, _, rfl, by omega, rfl, rfl, ?_, ?_, rfl⟩
        all_goals simp (disch := first | rfl | omega | exact lt_new _ | assumption | decide | (simp [tk_here, tk_app, tk_0, tk_S, gr_here, gr_app, gr_0, gr_S] <;> omega) | fail) only [go_sem, ↓reduceIte, Nat.reduceLT, Nat.reduceEqDiff, Nat.reduceAdd, Nat.reduceMul, Nat.reduceSub, Int.reduceAdd, Int.reduceSub, Nat.reduceLeDiff, Int.reduceLT, Int.reduceLE, Int.reduceEq, Int.reduceNeg, Int.reduceToNat, t1]
        all_goals first | rfl | (simp; done)
      clear t1 tt
      rintro m T D H' ⟨i, G, rfl, hi, rfl, rfl, t1, tt, hb⟩
      by_cases hlt : i < c.secrets.length
      · have hlt' : (i : Int) < c.secrets.length := by omega
        have ld := fun H => ldS (H := H) hlt
        have hmem := scE.at_mem hlt
        obtain ⟨x, hx⟩ : ∃ x, scE.at c.secrets i = x := ⟨_, rfl⟩
        rw [hx] at ld hmem
        have hs1 := fn56 x.label (by have := (o3 _ hmem).1; omega)
        have hlb := (o3 _ hmem).2
        by_cases hq : scB x = true
        · have hn := any_none scE hlt hb (by rw [hx]; simp [hq])
          obtain ⟨⟨⟨g1, n2⟩, g3⟩, g4⟩ : ((txB x.label = true ∧ ¬ x.label = []) ∧ 1 ≤ x.key.length) ∧ x.key.length ≤ 200 := by simpa [scB] using hq
          have n3 : ¬ (x.key.length : Int) < 1 := by omega
          have n4 : ¬ (200 : Int) < x.key.length := by omega
          have hy := True.intro
          repeat' (first | simp (disch := first | rfl | omega | exact lt_new _ | assumption | decide | (simp [tk_here, tk_app, tk_0, tk_S, gr_here, gr_app, gr_0, gr_S] <;> omega) | fail) only [l44_23, r44_18, r44_19, r44_20, r44_22, loadV_ptr, storeV_ptr, List.append_assoc, List.length_append, List.length_cons, List.length_nil, List.set_cons_zero, List.set_cons_succ, tk_here, tk_app, gr_here, gr_app, st_here, st_app, t1, tt, hlt', ld, hs1, g1, n2, n3, n4, go_sem, ↓reduceIte, Nat.reduceLT, Nat.reduceEqDiff, Nat.reduceAdd, Nat.reduceMul, Nat.reduceSub, Int.reduceAdd, Int.reduceSub, Nat.reduceLeDiff, Int.reduceLT, Int.reduceLE, Int.reduceEq, Int.reduceNeg, Int.reduceToNat, hy] | ((first | refine guardB_dec (fun hy => ?_) (fun hy => ?_) | refine guardB_bool (fun hy => ?_) (fun hy => ?_) | refine guardQ_ite (fun hy => ?_) (fun hy => ?_) | refine brQ_dec (fun hy => ?_) (fun hy => ?_) | refine brQ_bool (fun hy => ?_) (fun hy => ?_)) <;> (try simp only [Bool.not_eq_true', Bool.not_eq_false', Bool.and_eq_true, Bool.or_eq_false_iff, decide_eq_true_eq, decide_eq_false_iff_not] at hy)))
          exact ⟨_, by omega, i + 1, _, rfl, hlt, rfl, rfl, hn⟩
        · have hW : wrongB c = true := by unfold wrongB; rw [any_mem scE (q := fun x => !scB x) hlt (by rw [hx]; simp [hq])]; simp
          have n5 : txB x.label = true → ¬ x.label = [] → ¬ (x.key.length : Int) < 1 → (200 : Int) < x.key.length := fun a b d => by
            by_cases e : (200 : Int) < x.key.length
            · exact e
            · exact absurd (by simp [scB, a, b]; omega) hq
          have hy := True.intro
          repeat' (first | simp (disch := first | rfl | omega | exact lt_new _ | assumption | decide | (simp [tk_here, tk_app, tk_0, tk_S, gr_here, gr_app, gr_0, gr_S] <;> omega) | fail) only [l44_23, r44_18, r44_19, r44_20, r44_22, r44_21, rs44, gc44, loadV_ptr, storeV_ptr, List.append_assoc, List.length_append, List.length_cons, List.length_nil, List.set_cons_zero, List.set_cons_succ, tk_here, tk_app, gr_here, gr_app, st_here, st_app, t1, tt, hlt', ld, hs1, n5, go_sem, ↓reduceIte, Nat.reduceLT, Nat.reduceEqDiff, Nat.reduceAdd, Nat.reduceMul, Nat.reduceSub, Int.reduceAdd, Int.reduceSub, Nat.reduceLeDiff, Int.reduceLT, Int.reduceLE, Int.reduceEq, Int.reduceNeg, Int.reduceToNat, hy] | ((first | refine guardB_dec (fun hy => ?_) (fun hy => ?_) | refine guardB_bool (fun hy => ?_) (fun hy => ?_) | refine guardQ_ite (fun hy => ?_) (fun hy => ?_) | refine brQ_dec (fun hy => ?_) (fun hy => ?_) | refine brQ_bool (fun hy => ?_) (fun hy => ?_)) <;> (try simp only [Bool.not_eq_true', Bool.not_eq_false', Bool.and_eq_true, Bool.or_eq_false_iff, decide_eq_true_eq, decide_eq_false_iff_not] at hy)))
          all_goals (refine finQ_app ?_; simp (disch := first | rfl | omega | exact lt_new _ | assumption | decide | (simp [tk_here, tk_app, tk_0, tk_S, gr_here, gr_app, gr_0, gr_S] <;> omega) | fail) only [go_sem, ↓reduceIte, Nat.reduceLT, Nat.reduceEqDiff, Nat.reduceAdd, Nat.reduceMul, Nat.reduceSub, Int.reduceAdd, Int.reduceSub, Nat.reduceLeDiff, Int.reduceLT, Int.reduceLE, Int.reduceEq, Int.reduceNeg, Int.reduceToNat, hW])
      · obtain rfl : i = c.secrets.length := by omega
        rw [List.take_length] at hb
        have hb2 := hb
        clear hb
        have hy := True.intro
        repeat' (first | simp (disch := first | rfl | omega | exact lt_new _ | assumption | decide | (simp [tk_here, tk_app, tk_0, tk_S, gr_here, gr_app, gr_0, gr_S] <;> omega) | fail) only [l44_23, r44_18, r44_24, loadV_ptr, storeV_ptr, List.append_assoc, List.length_append, List.length_cons, List.length_nil, List.set_cons_zero, List.set_cons_succ, tk_here, tk_app, gr_here, gr_app, st_here, st_app, t1, tt, Int.lt_irrefl, go_sem, ↓reduceIte, Nat.reduceLT, Nat.reduceEqDiff, Nat.reduceAdd, Nat.reduceMul, Nat.reduceSub, Int.reduceAdd, Int.reduceSub, Nat.reduceLeDiff, Int.reduceLT, Int.reduceLE, Int.reduceEq, Int.reduceNeg, Int.reduceToNat, hy] | ((first | refine guardB_dec (fun hy => ?_) (fun hy => ?_) | refine guardB_bool (fun hy => ?_) (fun hy => ?_) | refine guardQ_ite (fun hy => ?_) (fun hy => ?_) | refine brQ_dec (fun hy => ?_) (fun hy => ?_) | refine brQ_bool (fun hy => ?_) (fun hy => ?_)) <;> (try simp only [Bool.not_eq_true', Bool.not_eq_false', Bool.and_eq_true, Bool.or_eq_false_iff, decide_eq_true_eq, decide_eq_false_iff_not] at hy)))
        refine Wp_loop (fun m T D H' => ∃ i G, m = c.packets.length - i ∧ i ≤ c.packets.length ∧ D = [] ∧ H' = H ++ .row 0 (cpE.f c) true :: G ∧ get T 1 = .ptr H.length 0 0 ∧ get T 9 = .int .i64 i ∧ (c.packets.take i).any (fun x => !pfB x c.faces) = false) ?_ c.packets.length _ _ _ ?_
        case refine_2 =>
          refine ⟨0, _, rfl, by omega, rfl, rfl, ?_, ?_, rfl⟩
          all_goals simp (disch := first | rfl | omega | exact lt_new _ | assumption | decide | (simp [tk_here, tk_app, tk_0, tk_S, gr_here, gr_app, gr_0, gr_S] <;> omega) | fail) only [go_sem, ↓reduceIte, Nat.reduceLT, Nat.reduceEqDiff, Nat.reduceAdd, Nat.reduceMul, Nat.reduceSub, Int.reduceAdd, Int.reduceSub, Nat.reduceLeDiff, Int.reduceLT, Int.reduceLE, Int.reduceEq, Int.reduceNeg, Int.reduceToNat, t1]
          all_goals first | rfl | (simp; done)
        clear t1 tt
        rintro m T D H' ⟨i, G, rfl, hi, rfl, rfl, t1, tt, hb⟩
        by_cases hlt : i < c.packets.length
        · have hlt' : (i : Int) < c.packets.length := by omega
          have ld := fun H => ldP (H := H) hlt
          have hmem := pkE.at_mem hlt
          obtain ⟨x, hx⟩ : ∃ x, pkE.at c.packets i = x := ⟨_, rfl⟩
          rw [hx] at ld hmem
          have hs1 := fn57 x (o4 _ hmem)
          by_cases hq : pfB x c.faces = true
          · have hn := any_none pkE hlt hb (by rw [hx]; simp [hq])
            obtain ⟨⟨g1, g2⟩, g3⟩ : (0 ≤ x.face ∧ x.face < (c.faces.length : Int)) ∧ pkB x (fcE.at c.faces x.face.toNat).snap = true := by simpa [pfB] using hq
            have n2 : ¬ x.face < 0 := by omega
            have n3 : ¬ (c.faces.length : Int) ≤ x.face := by omega
            have l2 := fun H => ldF2 (H := H) (l := c.faces) (i := x.face.toNat) (by omega)
            have hy := True.intro
            repeat' (first | simp (disch := first | rfl | omega | exact lt_new _ | assumption | decide | (simp [tk_here, tk_app, tk_0, tk_S, gr_here, gr_app, gr_0, gr_S] <;> omega) | fail) only [l44_30, r44_25, r44_26, r44_27, r44_29, loadV_ptr, storeV_ptr, List.append_assoc, List.length_append, List.length_cons, List.length_nil, List.set_cons_zero, List.set_cons_succ, tk_here, tk_app, gr_here, gr_app, st_here, st_app, t1, tt, hlt', ld, hs1, g3, n2, n3, g1, g2, l2, go_sem, ↓reduceIte, Nat.reduceLT, Nat.reduceEqDiff, Nat.reduceAdd, Nat.reduceMul, Nat.reduceSub, Int.reduceAdd, Int.reduceSub, Nat.reduceLeDiff, Int.reduceLT, Int.reduceLE, Int.reduceEq, Int.reduceNeg, Int.reduceToNat, hy] | ((first | refine guardB_dec (fun hy => ?_) (fun hy => ?_) | refine guardB_bool (fun hy => ?_) (fun hy => ?_) | refine guardQ_ite (fun hy => ?_) (fun hy => ?_) | refine brQ_dec (fun hy => ?_) (fun hy => ?_) | refine brQ_bool (fun hy => ?_) (fun hy => ?_)) <;> (try simp only [Bool.not_eq_true', Bool.not_eq_false', Bool.and_eq_true, Bool.or_eq_false_iff, decide_eq_true_eq, decide_eq_false_iff_not] at hy)))
            exact ⟨_, by omega, i + 1, _, rfl, hlt, rfl, rfl, hn⟩
          · have hW : wrongB c = true := by unfold wrongB; rw [any_mem pkE (q := fun x => !pfB x c.faces) hlt (by rw [hx]; simp [hq])]; simp
            have n5 : ∀ (_ : ¬ x.face < 0) (_ : ¬ (c.faces.length : Int) ≤ x.face), pkB x (fcE.at c.faces x.face.toNat).snap = false := fun a b => by
              cases e : pkB x (fcE.at c.faces x.face.toNat).snap with
              | false => rfl
              | true => exact absurd (by simp [pfB, e]; omega) hq
            have l2 := fun H (a : ¬ x.face < 0) (b : ¬ (c.faces.length : Int) ≤ x.face) => ldF2 (H := H) (l := c.faces) (i := x.face.toNat) (by omega)
            have hy := True.intro
            repeat' (first | simp (disch := first | rfl | omega | exact lt_new _ | assumption | decide | (simp [tk_here, tk_app, tk_0, tk_S, gr_here, gr_app, gr_0, gr_S] <;> omega) | fail) only [l44_30, r44_25, r44_26, r44_27, r44_29, r44_28, rs44, gc44, loadV_ptr, storeV_ptr, List.append_assoc, List.length_append, List.length_cons, List.length_nil, List.set_cons_zero, List.set_cons_succ, tk_here, tk_app, gr_here, gr_app, st_here, st_app, t1, tt, hlt', ld, hs1, n5, l2, go_sem, ↓reduceIte, Nat.reduceLT, Nat.reduceEqDiff, Nat.reduceAdd, Nat.reduceMul, Nat.reduceSub, Int.reduceAdd, Int.reduceSub, Nat.reduceLeDiff, Int.reduceLT, Int.reduceLE, Int.reduceEq, Int.reduceNeg, Int.reduceToNat, hy] | ((first | refine guardB_dec (fun hy => ?_) (fun hy => ?_) | refine guardB_bool (fun hy => ?_) (fun hy => ?_) | refine guardQ_ite (fun hy => ?_) (fun hy => ?_) | refine brQ_dec (fun hy => ?_) (fun hy => ?_) | refine brQ_bool (fun hy => ?_) (fun hy => ?_)) <;> (try simp only [Bool.not_eq_true', Bool.not_eq_false', Bool.and_eq_true, Bool.or_eq_false_iff, decide_eq_true_eq, decide_eq_false_iff_not] at hy)))
            all_goals (refine finQ_app ?_; simp (disch := first | rfl | omega | exact lt_new _ | assumption | decide | (simp [tk_here, tk_app, tk_0, tk_S, gr_here, gr_app, gr_0, gr_S] <;> omega) | fail) only [go_sem, ↓reduceIte, Nat.reduceLT, Nat.reduceEqDiff, Nat.reduceAdd, Nat.reduceMul, Nat.reduceSub, Int.reduceAdd, Int.reduceSub, Nat.reduceLeDiff, Int.reduceLT, Int.reduceLE, Int.reduceEq, Int.reduceNeg, Int.reduceToNat, hW])
        · obtain rfl : i = c.packets.length := by omega
          rw [List.take_length] at hb
          have hW : wrongB c = false := by
            have hz : ¬ (c.faces.length : Int) = 0 := by omega
            unfold wrongB
            rw [decide_eq_false hz, h1, hb0, hb1, hb2, hb]; rfl
          have hy := True.intro
          repeat' (first | simp (disch := first | rfl | omega | exact lt_new _ | assumption | decide | (simp [tk_here, tk_app, tk_0, tk_S, gr_here, gr_app, gr_0, gr_S] <;> omega) | fail) only [l44_30, r44_25, r44_31, rs44, gc44, loadV_ptr, storeV_ptr, List.append_assoc, List.length_append, List.length_cons, List.length_nil, List.set_cons_zero, List.set_cons_succ, tk_here, tk_app, gr_here, gr_app, st_here, st_app, t1, tt, Int.lt_irrefl, go_sem, ↓reduceIte, Nat.reduceLT, Nat.reduceEqDiff, Nat.reduceAdd, Nat.reduceMul, Nat.reduceSub, Int.reduceAdd, Int.reduceSub, Nat.reduceLeDiff, Int.reduceLT, Int.reduceLE, Int.reduceEq, Int.reduceNeg, Int.reduceToNat, hy] | ((first | refine guardB_dec (fun hy => ?_) (fun hy => ?_) | refine guardB_bool (fun hy => ?_) (fun hy => ?_) | refine guardQ_ite (fun hy => ?_) (fun hy => ?_) | refine brQ_dec (fun hy => ?_) (fun hy => ?_) | refine brQ_bool (fun hy => ?_) (fun hy => ?_)) <;> (try simp only [Bool.not_eq_true', Bool.not_eq_false', Bool.and_eq_true, Bool.or_eq_false_iff, decide_eq_true_eq, decide_eq_false_iff_not] at hy)))
          refine finQ_app ?_
          simp (disch := first | rfl | omega | exact lt_new _ | assumption | decide | (simp [tk_here, tk_app, tk_0, tk_S, gr_here, gr_app, gr_0, gr_S] <;> omega) | fail) only [go_sem, ↓reduceIte, Nat.reduceLT, Nat.reduceEqDiff, Nat.reduceAdd, Nat.reduceMul, Nat.reduceSub, Int.reduceAdd, Int.reduceSub, Nat.reduceLeDiff, Int.reduceLT, Int.reduceLE, Int.reduceEq, Int.reduceNeg, Int.reduceToNat, hW]
theorem fn19 (c : Cp) (hc : CpOk c) (H : Hp) : callL Try.prog pr 19 [.agg (cpE.f c)] H = some (.int .i64 (valE c), H) := by
  have h113 := fn44 c hc
  refine pur_eq rfl rfl (by simp [go_sem]) rfl ?_
  clear H
  intro H
  refine run19 (Nat.le_of_ble_eq_true rfl) ?_
  unfold valE
  by_cases hL : largeB c = true
  · rw [if_pos hL]
    unfold largeB at hL
    simp only [Bool.or_eq_true, decide_eq_true_eq] at hL
    have hy := True.intro
    repeat' (first | simp (disch := first | rfl | omega | exact lt_new _ | assumption | decide | (simp [tk_here, tk_app, tk_0, tk_S, gr_here, gr_app, gr_0, gr_S] <;> omega) | fail) only [r19_0, r19_1, r19_2, r19_3, r19_4, r19_5, c19, rs19, gc19, loadV_ptr, storeV_ptr, List.append_assoc, List.length_append, List.length_cons, List.length_nil, List.set_cons_zero, List.set_cons_succ, tk_here, tk_app, gr_here, gr_app, st_here, st_app, h113, go_sem, ↓reduceIte, Nat.reduceLT, Nat.reduceEqDiff, Nat.reduceAdd, Nat.reduceMul, Nat.reduceSub, Int.reduceAdd, Int.reduceSub, Nat.reduceLeDiff, Int.reduceLT, Int.reduceLE, Int.reduceEq, Int.reduceNeg, Int.reduceToNat, hy] | ((first | refine guardB_dec (fun hy => ?_) (fun hy => ?_) | refine guardB_bool (fun hy => ?_) (fun hy => ?_) | refine guardQ_ite (fun hy => ?_) (fun hy => ?_) | refine brQ_dec (fun hy => ?_) (fun hy => ?_) | refine brQ_bool (fun hy => ?_) (fun hy => ?_)) <;> (try simp only [Bool.not_eq_true', Bool.not_eq_false', Bool.and_eq_true, Bool.or_eq_false_iff, decide_eq_true_eq, decide_eq_false_iff_not] at hy)))
    all_goals first | (refine finQ_app ?_; simp (disch := first | rfl | omega | exact lt_new _ | assumption | decide | (simp [tk_here, tk_app, tk_0, tk_S, gr_here, gr_app, gr_0, gr_S] <;> omega) | fail) only [go_sem, ↓reduceIte, Nat.reduceLT, Nat.reduceEqDiff, Nat.reduceAdd, Nat.reduceMul, Nat.reduceSub, Int.reduceAdd, Int.reduceSub, Nat.reduceLeDiff, Int.reduceLT, Int.reduceLE, Int.reduceEq, Int.reduceNeg, Int.reduceToNat]; done) | omega
  · rw [if_neg hL]
    unfold largeB at hL
    simp only [Bool.or_eq_true, decide_eq_true_eq, not_or] at hL
    obtain ⟨⟨⟨q1, q2⟩, q3⟩, q4⟩ := hL
    cases hw : wrongB c
    all_goals
      have hy := True.intro
      repeat' (first | simp (disch := first | rfl | omega | exact lt_new _ | assumption | decide | (simp [tk_here, tk_app, tk_0, tk_S, gr_here, gr_app, gr_0, gr_S] <;> omega) | fail) only [r19_0, r19_1, r19_2, r19_3, r19_4, r19_5, c19, rs19, gc19, loadV_ptr, storeV_ptr, List.append_assoc, List.length_append, List.length_cons, List.length_nil, List.set_cons_zero, List.set_cons_succ, tk_here, tk_app, gr_here, gr_app, st_here, st_app, q1, q2, q3, q4, h113, hw, go_sem, ↓reduceIte, Nat.reduceLT, Nat.reduceEqDiff, Nat.reduceAdd, Nat.reduceMul, Nat.reduceSub, Int.reduceAdd, Int.reduceSub, Nat.reduceLeDiff, Int.reduceLT, Int.reduceLE, Int.reduceEq, Int.reduceNeg, Int.reduceToNat, hy] | ((first | refine guardB_dec (fun hy => ?_) (fun hy => ?_) | refine guardB_bool (fun hy => ?_) (fun hy => ?_) | refine guardQ_ite (fun hy => ?_) (fun hy => ?_) | refine brQ_dec (fun hy => ?_) (fun hy => ?_) | refine brQ_bool (fun hy => ?_) (fun hy => ?_)) <;> (try simp only [Bool.not_eq_true', Bool.not_eq_false', Bool.and_eq_true, Bool.or_eq_false_iff, decide_eq_true_eq, decide_eq_false_iff_not] at hy)))
      refine finQ_app ?_
      simp (disch := first | rfl | omega | exact lt_new _ | assumption | decide | (simp [tk_here, tk_app, tk_0, tk_S, gr_here, gr_app, gr_0, gr_S] <;> omega) | fail) only [go_sem, ↓reduceIte, Nat.reduceLT, Nat.reduceEqDiff, Nat.reduceAdd, Nat.reduceMul, Nat.reduceSub, Int.reduceAdd, Int.reduceSub, Nat.reduceLeDiff, Int.reduceLT, Int.reduceLE, Int.reduceEq, Int.reduceNeg, Int.reduceToNat]
end Go.Proofs.Ytdkeiaeaahpfdaa
/-
  How much captures weigh, and whether captures are equal, for the reference; walked. No statement of the seat stands here.
-/
namespace Go.Proofs.Ytdkeiaeaahpfdaa
open Go Go.An
set_option maxRecDepth 4000
set_option linter.unusedSimpArgs false
set_option linter.unusedVariables false

theorem fn17 (c : Cp) (hc : CpOk c) (H : Hp) : ∃ n, callL Try.prog pr 17 [.agg (cpE.f c)] H = some (.int .i64 n, H) := by
  suffices h : ∃ r, callL Try.prog pr 17 [.agg (cpE.f c)] H = some r ∧ ∃ n, r = (.int .i64 n, H) by
    obtain ⟨r, h1, n, rfl⟩ := h; exact ⟨n, h1⟩
  obtain ⟨o0, o1, o1l, o2, o2l, o3, o3l, o4, o4l⟩ := hc
  refine ex17 (Nat.le_of_ble_eq_true rfl) ?_
  simp (disch := first | rfl | omega | exact lt_new _ | assumption | decide | (simp [tk_here, tk_app, tk_0, tk_S, gr_here, gr_app, gr_0, gr_S] <;> omega) | fail) only [r17_0, r17_1, r17_2, c17, loadV_ptr, storeV_ptr, List.append_assoc, List.length_append, List.length_cons, List.length_nil, List.set_cons_zero, List.set_cons_succ, tk_here, tk_app, gr_here, gr_app, st_here, st_app, go_sem, ↓reduceIte, Nat.reduceLT, Nat.reduceEqDiff, Nat.reduceAdd, Nat.reduceMul, Nat.reduceSub, Int.reduceAdd, Int.reduceSub, Nat.reduceLeDiff, Int.reduceLT, Int.reduceLE, Int.reduceEq, Int.reduceNeg, Int.reduceToNat]
  refine Wp_loop (fun m T D H' => ∃ i n, m = c.faces.length - i ∧ i ≤ c.faces.length ∧ D = [] ∧ H' = H ++ [.row 0 (cpE.f c) true] ∧ get T 1 = .ptr H.length 0 0 ∧ get T 4 = .int .i64 i ∧ get T 3 = .int .i64 n) ?_ c.faces.length _ _ _ ?_
  case refine_2 => exact ⟨0, _, by simp (disch := first | rfl | omega | exact lt_new _ | assumption | decide | (simp [tk_here, tk_app, tk_0, tk_S, gr_here, gr_app, gr_0, gr_S] <;> omega) | fail) only [go_sem, ↓reduceIte, Nat.reduceLT, Nat.reduceEqDiff, Nat.reduceAdd, Nat.reduceMul, Nat.reduceSub, Int.reduceAdd, Int.reduceSub, Nat.reduceLeDiff, Int.reduceLT, Int.reduceLE, Int.reduceEq, Int.reduceNeg, Int.reduceToNat]; simp; rfl⟩
  rintro m T D H' ⟨i, n, rfl, hi, rfl, rfl, t1, ti, t3⟩
  by_cases hlt : i < c.faces.length
  · have hlt' : (i : Int) < c.faces.length := by omega
    have q1 := (o1 _ (fcE.at_mem hlt)).1
    simp (disch := first | rfl | omega | exact lt_new _ | assumption | decide | (simp [tk_here, tk_app, tk_0, tk_S, gr_here, gr_app, gr_0, gr_S] <;> omega) | fail) only [l17_6, r17_3, r17_4, r17_5, loadV_ptr, storeV_ptr, List.append_assoc, List.length_append, List.length_cons, List.length_nil, List.set_cons_zero, List.set_cons_succ, tk_here, tk_app, gr_here, gr_app, st_here, st_app, t1, ti, t3, hlt', go_sem, ↓reduceIte, Nat.reduceLT, Nat.reduceEqDiff, Nat.reduceAdd, Nat.reduceMul, Nat.reduceSub, Int.reduceAdd, Int.reduceSub, Nat.reduceLeDiff, Int.reduceLT, Int.reduceLE, Int.reduceEq, Int.reduceNeg, Int.reduceToNat]
    exact ⟨_, by omega, i + 1, _, rfl, hlt, rfl, rfl⟩
  · obtain rfl : i = c.faces.length := by omega
    simp (disch := first | rfl | omega | exact lt_new _ | assumption | decide | (simp [tk_here, tk_app, tk_0, tk_S, gr_here, gr_app, gr_0, gr_S] <;> omega) | fail) only [l17_6, r17_3, r17_7, loadV_ptr, storeV_ptr, List.append_assoc, List.length_append, List.length_cons, List.length_nil, List.set_cons_zero, List.set_cons_succ, tk_here, tk_app, gr_here, gr_app, st_here, st_app, t1, ti, t3, Int.lt_irrefl, go_sem, ↓reduceIte, Nat.reduceLT, Nat.reduceEqDiff, Nat.reduceAdd, Nat.reduceMul, Nat.reduceSub, Int.reduceAdd, Int.reduceSub, Nat.reduceLeDiff, Int.reduceLT, Int.reduceLE, Int.reduceEq, Int.reduceNeg, Int.reduceToNat]
    refine Wp_loop (fun m T D H' => ∃ i n, m = c.names.length - i ∧ i ≤ c.names.length ∧ D = [] ∧ H' = H ++ [.row 0 (cpE.f c) true] ∧ get T 1 = .ptr H.length 0 0 ∧ get T 5 = .int .i64 i ∧ get T 3 = .int .i64 n) ?_ c.names.length _ _ _ ?_
    case refine_2 => exact ⟨0, _, by simp (disch := first | rfl | omega | exact lt_new _ | assumption | decide | (simp [tk_here, tk_app, tk_0, tk_S, gr_here, gr_app, gr_0, gr_S] <;> omega) | fail) only [go_sem, ↓reduceIte, Nat.reduceLT, Nat.reduceEqDiff, Nat.reduceAdd, Nat.reduceMul, Nat.reduceSub, Int.reduceAdd, Int.reduceSub, Nat.reduceLeDiff, Int.reduceLT, Int.reduceLE, Int.reduceEq, Int.reduceNeg, Int.reduceToNat, t1, t3]; simp; rfl⟩
    clear t1 t3 ti
    rintro m T D H' ⟨i, n, rfl, hi, rfl, rfl, t1, ti, t3⟩
    by_cases hlt : i < c.names.length
    · have hlt' : (i : Int) < c.names.length := by omega
      have q1 := o2 _ (nmE.at_mem hlt)
      have q2 := q1.2
      simp (disch := first | rfl | omega | exact lt_new _ | assumption | decide | (simp [tk_here, tk_app, tk_0, tk_S, gr_here, gr_app, gr_0, gr_S] <;> omega) | fail) only [l17_11, r17_8, r17_9, r17_10, loadV_ptr, storeV_ptr, List.append_assoc, List.length_append, List.length_cons, List.length_nil, List.set_cons_zero, List.set_cons_succ, tk_here, tk_app, gr_here, gr_app, st_here, st_app, t1, ti, t3, hlt', go_sem, ↓reduceIte, Nat.reduceLT, Nat.reduceEqDiff, Nat.reduceAdd, Nat.reduceMul, Nat.reduceSub, Int.reduceAdd, Int.reduceSub, Nat.reduceLeDiff, Int.reduceLT, Int.reduceLE, Int.reduceEq, Int.reduceNeg, Int.reduceToNat]
      exact ⟨_, by omega, i + 1, _, rfl, hlt, rfl, rfl⟩
    · obtain rfl : i = c.names.length := by omega
      simp (disch := first | rfl | omega | exact lt_new _ | assumption | decide | (simp [tk_here, tk_app, tk_0, tk_S, gr_here, gr_app, gr_0, gr_S] <;> omega) | fail) only [l17_11, r17_8, r17_12, loadV_ptr, storeV_ptr, List.append_assoc, List.length_append, List.length_cons, List.length_nil, List.set_cons_zero, List.set_cons_succ, tk_here, tk_app, gr_here, gr_app, st_here, st_app, t1, ti, t3, Int.lt_irrefl, go_sem, ↓reduceIte, Nat.reduceLT, Nat.reduceEqDiff, Nat.reduceAdd, Nat.reduceMul, Nat.reduceSub, Int.reduceAdd, Int.reduceSub, Nat.reduceLeDiff, Int.reduceLT, Int.reduceLE, Int.reduceEq, Int.reduceNeg, Int.reduceToNat]
      refine Wp_loop (fun m T D H' => ∃ i n, m = c.secrets.length - i ∧ i ≤ c.secrets.length ∧ D = [] ∧ H' = H ++ [.row 0 (cpE.f c) true] ∧ get T 1 = .ptr H.length 0 0 ∧ get T 6 = .int .i64 i ∧ get T 3 = .int .i64 n) ?_ c.secrets.length _ _ _ ?_
      case refine_2 => exact ⟨0, _, by simp (disch := first | rfl | omega | exact lt_new _ | assumption | decide | (simp [tk_here, tk_app, tk_0, tk_S, gr_here, gr_app, gr_0, gr_S] <;> omega) | fail) only [go_sem, ↓reduceIte, Nat.reduceLT, Nat.reduceEqDiff, Nat.reduceAdd, Nat.reduceMul, Nat.reduceSub, Int.reduceAdd, Int.reduceSub, Nat.reduceLeDiff, Int.reduceLT, Int.reduceLE, Int.reduceEq, Int.reduceNeg, Int.reduceToNat, t1, t3]; simp; rfl⟩
      clear t1 t3 ti
      rintro m T D H' ⟨i, n, rfl, hi, rfl, rfl, t1, ti, t3⟩
      by_cases hlt : i < c.secrets.length
      · have hlt' : (i : Int) < c.secrets.length := by omega
        have q1 := (o3 _ (scE.at_mem hlt)).1
        simp (disch := first | rfl | omega | exact lt_new _ | assumption | decide | (simp [tk_here, tk_app, tk_0, tk_S, gr_here, gr_app, gr_0, gr_S] <;> omega) | fail) only [l17_16, r17_13, r17_14, r17_15, loadV_ptr, storeV_ptr, List.append_assoc, List.length_append, List.length_cons, List.length_nil, List.set_cons_zero, List.set_cons_succ, tk_here, tk_app, gr_here, gr_app, st_here, st_app, t1, ti, t3, hlt', go_sem, ↓reduceIte, Nat.reduceLT, Nat.reduceEqDiff, Nat.reduceAdd, Nat.reduceMul, Nat.reduceSub, Int.reduceAdd, Int.reduceSub, Nat.reduceLeDiff, Int.reduceLT, Int.reduceLE, Int.reduceEq, Int.reduceNeg, Int.reduceToNat]
        exact ⟨_, by omega, i + 1, _, rfl, hlt, rfl, rfl⟩
      · obtain rfl : i = c.secrets.length := by omega
        simp (disch := first | rfl | omega | exact lt_new _ | assumption | decide | (simp [tk_here, tk_app, tk_0, tk_S, gr_here, gr_app, gr_0, gr_S] <;> omega) | fail) only [l17_16, r17_13, r17_17, loadV_ptr, storeV_ptr, List.append_assoc, List.length_append, List.length_cons, List.length_nil, List.set_cons_zero, List.set_cons_succ, tk_here, tk_app, gr_here, gr_app, st_here, st_app, t1, ti, t3, Int.lt_irrefl, go_sem, ↓reduceIte, Nat.reduceLT, Nat.reduceEqDiff, Nat.reduceAdd, Nat.reduceMul, Nat.reduceSub, Int.reduceAdd, Int.reduceSub, Nat.reduceLeDiff, Int.reduceLT, Int.reduceLE, Int.reduceEq, Int.reduceNeg, Int.reduceToNat]
        refine Wp_loop (fun m T D H' => ∃ i n, m = c.packets.length - i ∧ i ≤ c.packets.length ∧ D = [] ∧ H' = H ++ [.row 0 (cpE.f c) true] ∧ get T 1 = .ptr H.length 0 0 ∧ get T 7 = .int .i64 i ∧ get T 3 = .int .i64 n) ?_ c.packets.length _ _ _ ?_
        case refine_2 => exact ⟨0, _, by simp (disch := first | rfl | omega | exact lt_new _ | assumption | decide | (simp [tk_here, tk_app, tk_0, tk_S, gr_here, gr_app, gr_0, gr_S] <;> omega) | fail) only [go_sem, ↓reduceIte, Nat.reduceLT, Nat.reduceEqDiff, Nat.reduceAdd, Nat.reduceMul, Nat.reduceSub, Int.reduceAdd, Int.reduceSub, Nat.reduceLeDiff, Int.reduceLT, Int.reduceLE, Int.reduceEq, Int.reduceNeg, Int.reduceToNat, t1, t3]; simp; rfl⟩
        clear t1 t3 ti
        rintro m T D H' ⟨i, n, rfl, hi, rfl, rfl, t1, ti, t3⟩
        by_cases hlt : i < c.packets.length
        · have hlt' : (i : Int) < c.packets.length := by omega
          have q1 := (o4 _ (pkE.at_mem hlt)).2.2.2.2
          simp (disch := first | rfl | omega | exact lt_new _ | assumption | decide | (simp [tk_here, tk_app, tk_0, tk_S, gr_here, gr_app, gr_0, gr_S] <;> omega) | fail) only [l17_21, r17_18, r17_19, r17_20, loadV_ptr, storeV_ptr, List.append_assoc, List.length_append, List.length_cons, List.length_nil, List.set_cons_zero, List.set_cons_succ, tk_here, tk_app, gr_here, gr_app, st_here, st_app, t1, ti, t3, hlt', go_sem, ↓reduceIte, Nat.reduceLT, Nat.reduceEqDiff, Nat.reduceAdd, Nat.reduceMul, Nat.reduceSub, Int.reduceAdd, Int.reduceSub, Nat.reduceLeDiff, Int.reduceLT, Int.reduceLE, Int.reduceEq, Int.reduceNeg, Int.reduceToNat]
          exact ⟨_, by omega, i + 1, _, rfl, hlt, rfl, rfl⟩
        · obtain rfl : i = c.packets.length := by omega
          simp (disch := first | rfl | omega | exact lt_new _ | assumption | decide | (simp [tk_here, tk_app, tk_0, tk_S, gr_here, gr_app, gr_0, gr_S] <;> omega) | fail) only [l17_21, r17_18, r17_22, rs17, gc17, loadV_ptr, storeV_ptr, List.append_assoc, List.length_append, List.length_cons, List.length_nil, List.set_cons_zero, List.set_cons_succ, tk_here, tk_app, gr_here, gr_app, st_here, st_app, t1, ti, t3, Int.lt_irrefl, go_sem, ↓reduceIte, Nat.reduceLT, Nat.reduceEqDiff, Nat.reduceAdd, Nat.reduceMul, Nat.reduceSub, Int.reduceAdd, Int.reduceSub, Nat.reduceLeDiff, Int.reduceLT, Int.reduceLE, Int.reduceEq, Int.reduceNeg, Int.reduceToNat]
          exact ⟨n, finQ_app (by simp (disch := first | rfl | omega | exact lt_new _ | assumption | decide | (simp [tk_here, tk_app, tk_0, tk_S, gr_here, gr_app, gr_0, gr_S] <;> omega) | fail) only [go_sem, ↓reduceIte, Nat.reduceLT, Nat.reduceEqDiff, Nat.reduceAdd, Nat.reduceMul, Nat.reduceSub, Int.reduceAdd, Int.reduceSub, Nat.reduceLeDiff, Int.reduceLT, Int.reduceLE, Int.reduceEq, Int.reduceNeg, Int.reduceToNat])⟩
theorem fn21 {b b' : Bool} {l l' : List UInt8} (H : Hp) : callL Try.prog pr 21 [slV b byE l, slV b' byE l'] H = some (.bool (decide (l = l')), H) := by
  refine run21 (Nat.le_of_ble_eq_true rfl) ?_
  have hy := True.intro
  repeat' (first | simp (disch := first | rfl | omega | exact lt_new _ | assumption | decide | (simp [tk_here, tk_app, tk_0, tk_S, gr_here, gr_app, gr_0, gr_S] <;> omega) | fail) only [r21_0, r21_1, c21, rs21, gc21, go_sem, ↓reduceIte, Nat.reduceLT, Nat.reduceEqDiff, Nat.reduceAdd, Nat.reduceMul, Nat.reduceSub, Int.reduceAdd, Int.reduceSub, Nat.reduceLeDiff, Int.reduceLT, Int.reduceLE, Int.reduceEq, Int.reduceNeg, Int.reduceToNat, hy] | ((first | refine guardB_dec (fun hy => ?_) (fun hy => ?_) | refine guardB_bool (fun hy => ?_) (fun hy => ?_) | refine guardQ_ite (fun hy => ?_) (fun hy => ?_) | refine brQ_dec (fun hy => ?_) (fun hy => ?_) | refine brQ_bool (fun hy => ?_) (fun hy => ?_)) <;> (try simp only [Bool.not_eq_true', Bool.not_eq_false', Bool.and_eq_true, Bool.or_eq_false_iff, decide_eq_true_eq, decide_eq_false_iff_not] at hy)))
  all_goals (try ((first | refine finQ_same ?_ | refine finQ_app ?_ | (rw [List.append_assoc]; refine finQ_app ?_)) <;> simp (disch := first | rfl | omega | exact lt_new _ | assumption | decide | (simp [tk_here, tk_app, tk_0, tk_S, gr_here, gr_app, gr_0, gr_S] <;> omega) | fail) only [go_sem, ↓reduceIte, Nat.reduceLT, Nat.reduceEqDiff, Nat.reduceAdd, Nat.reduceMul, Nat.reduceSub, Int.reduceAdd, Int.reduceSub, Nat.reduceLeDiff, Int.reduceLT, Int.reduceLE, Int.reduceEq, Int.reduceNeg, Int.reduceToNat, List.append_assoc, List.cons_append, List.nil_append, *]))
  all_goals (try first | rfl | (simp [*]; done) | grind)
def pkS (p q : Pk) : Bool := decide (p.time = q.time) && decide (p.face = q.face) && decide (p.real = q.real) && decide (p.note = q.note) && decide (p.data = q.data)
def nmS (p q : Nm) : Bool := decide (p.text = q.text) && decide (p.addr = q.addr)
def scS (p q : Sc) : Bool := decide (p.label = q.label) && decide (p.key = q.key)
def fcS (p q : Fc) : Bool := decide (p = q)
def sameB (c d : Cp) : Bool := decide (c.note = d.note) && sameL fcS c.faces d.faces && sameL nmS c.names d.names && sameL scS c.secrets d.secrets && sameL pkS c.packets d.packets
theorem fn22 (p q : Pk) (H : Hp) : callL Try.prog pr 22 [.agg (pkE.f p), .agg (pkE.f q)] H = some (.bool (pkS p q), H) := by
  have h64 := fun H => fn21 (b := p.dataN) (b' := q.dataN) (l := p.data) (l' := q.data) H
  refine run22 (Nat.le_of_ble_eq_true rfl) ?_
  unfold pkS
  have hy := True.intro
  repeat' (first | simp (disch := first | rfl | omega | exact lt_new _ | assumption | decide | (simp [tk_here, tk_app, tk_0, tk_S, gr_here, gr_app, gr_0, gr_S] <;> omega) | fail) only [r22_0, r22_1, c22, rs22, gc22, h64, go_sem, ↓reduceIte, Nat.reduceLT, Nat.reduceEqDiff, Nat.reduceAdd, Nat.reduceMul, Nat.reduceSub, Int.reduceAdd, Int.reduceSub, Nat.reduceLeDiff, Int.reduceLT, Int.reduceLE, Int.reduceEq, Int.reduceNeg, Int.reduceToNat, hy] | ((first | refine guardB_dec (fun hy => ?_) (fun hy => ?_) | refine guardB_bool (fun hy => ?_) (fun hy => ?_) | refine guardQ_ite (fun hy => ?_) (fun hy => ?_) | refine brQ_dec (fun hy => ?_) (fun hy => ?_) | refine brQ_bool (fun hy => ?_) (fun hy => ?_)) <;> (try simp only [Bool.not_eq_true', Bool.not_eq_false', Bool.and_eq_true, Bool.or_eq_false_iff, decide_eq_true_eq, decide_eq_false_iff_not] at hy)))
  all_goals (try ((first | refine finQ_same ?_ | refine finQ_app ?_ | (rw [List.append_assoc]; refine finQ_app ?_)) <;> simp (disch := first | rfl | omega | exact lt_new _ | assumption | decide | (simp [tk_here, tk_app, tk_0, tk_S, gr_here, gr_app, gr_0, gr_S] <;> omega) | fail) only [go_sem, ↓reduceIte, Nat.reduceLT, Nat.reduceEqDiff, Nat.reduceAdd, Nat.reduceMul, Nat.reduceSub, Int.reduceAdd, Int.reduceSub, Nat.reduceLeDiff, Int.reduceLT, Int.reduceLE, Int.reduceEq, Int.reduceNeg, Int.reduceToNat, List.append_assoc, List.cons_append, List.nil_append, *]))
  all_goals (try first | rfl | (simp [*]; done) | grind)
@[go_sem] theorem ck_fcE (x : Fc) : ckOks [.str, .int .i64, .int .i64] (fcE.f x) = true := rfl
@[go_sem] theorem eq_fcE (x y : Fc) : eqCells (fcE.f x) (fcE.f y) = fcS x y := by
  obtain ⟨a, b, c⟩ := x
  obtain ⟨a', b', c'⟩ := y
  simp only [fcE_f, fcS, eqCells_cons, eqCells_nil, eqCell_str, eqCell_int, Fc.mk.injEq, Bool.decide_and, Bool.and_true]
def Fits (c : Cp) : Prop := c.faces.length ≤ 2 ^ 62 ∧ c.names.length ≤ 2 ^ 62 ∧ c.secrets.length ≤ 2 ^ 62 ∧ c.packets.length ≤ 2 ^ 62
theorem CpOk.fits {c : Cp} (h : CpOk c) : Fits c := by
  obtain ⟨o0, o1, o1l, o2, o2l, o3, o3l, o4, o4l⟩ := h
  exact ⟨by omega, by omega, by omega, by omega⟩
set_option maxHeartbeats 8000000 in
theorem fn10 (c d : Cp) (hF : Fits c) (H : Hp) : callL Try.prog pr 10 [.agg (cpE.f c), .agg (cpE.f d)] H = some (.bool (sameB c d), H) := by
  obtain ⟨f1, f2, f3, f4⟩ := hF
  refine pur_eq rfl rfl (by simp [go_sem]) rfl ?_
  clear H
  intro H
  refine run10 (Nat.le_of_ble_eq_true rfl) ?_
  by_cases hg : c.note = d.note ∧ (c.faces.length : Int) = d.faces.length ∧ (c.names.length : Int) = d.names.length ∧ (c.secrets.length : Int) = d.secrets.length ∧ (c.packets.length : Int) = d.packets.length
  case neg =>
    have hS : sameB c d = false := by
      unfold sameB
      by_cases h0 : c.note = d.note
      · by_cases h1 : c.faces.length = d.faces.length
        · by_cases h2 : c.names.length = d.names.length
          · by_cases h3 : c.secrets.length = d.secrets.length
            · rw [sameL_len (l := c.packets) (fun e => hg ⟨h0, by omega, by omega, by omega, by omega⟩)]; simp
            · rw [sameL_len (l := c.secrets) h3]; simp
          · rw [sameL_len (l := c.names) h2]; simp
        · rw [sameL_len (l := c.faces) h1]; simp
      · simp [h0]
    rw [hS]
    have g5 : c.note = d.note → (c.faces.length : Int) = d.faces.length → (c.names.length : Int) = d.names.length → (c.secrets.length : Int) = d.secrets.length → ¬ (c.packets.length : Int) = d.packets.length := fun a b e f g => hg ⟨a, b, e, f, g⟩
    have hy := True.intro
    repeat' (first | simp (disch := first | rfl | omega | exact lt_new _ | assumption | decide | (simp [tk_here, tk_app, tk_0, tk_S, gr_here, gr_app, gr_0, gr_S] <;> omega) | fail) only [r10_0, r10_1, r10_2, c10, rs10, gc10, loadV_ptr, storeV_ptr, List.append_assoc, List.length_append, List.length_cons, List.length_nil, List.set_cons_zero, List.set_cons_succ, tk_here, tk_app, gr_here, gr_app, st_here, st_app, g5, go_sem, ↓reduceIte, Nat.reduceLT, Nat.reduceEqDiff, Nat.reduceAdd, Nat.reduceMul, Nat.reduceSub, Int.reduceAdd, Int.reduceSub, Nat.reduceLeDiff, Int.reduceLT, Int.reduceLE, Int.reduceEq, Int.reduceNeg, Int.reduceToNat, hy] | ((first | refine guardB_dec (fun hy => ?_) (fun hy => ?_) | refine guardB_bool (fun hy => ?_) (fun hy => ?_) | refine guardQ_ite (fun hy => ?_) (fun hy => ?_) | refine brQ_dec (fun hy => ?_) (fun hy => ?_) | refine brQ_bool (fun hy => ?_) (fun hy => ?_)) <;> (try simp only [Bool.not_eq_true', Bool.not_eq_false', Bool.and_eq_true, Bool.or_eq_false_iff, decide_eq_true_eq, decide_eq_false_iff_not] at hy)))
    all_goals (refine finQ_same ?_; simp (disch := first | rfl | omega | exact lt_new _ | assumption | decide | (simp [tk_here, tk_app, tk_0, tk_S, gr_here, gr_app, gr_0, gr_S] <;> omega) | fail) only [go_sem, ↓reduceIte, Nat.reduceLT, Nat.reduceEqDiff, Nat.reduceAdd, Nat.reduceMul, Nat.reduceSub, Int.reduceAdd, Int.reduceSub, Nat.reduceLeDiff, Int.reduceLT, Int.reduceLE, Int.reduceEq, Int.reduceNeg, Int.reduceToNat])
  obtain ⟨g1, g2, g3, g4, g5⟩ := hg
  have hy := True.intro
  repeat' (first | simp (disch := first | rfl | omega | exact lt_new _ | assumption | decide | (simp [tk_here, tk_app, tk_0, tk_S, gr_here, gr_app, gr_0, gr_S] <;> omega) | fail) only [r10_0, r10_1, r10_3, c10, loadV_ptr, storeV_ptr, List.append_assoc, List.length_append, List.length_cons, List.length_nil, List.set_cons_zero, List.set_cons_succ, tk_here, tk_app, gr_here, gr_app, st_here, st_app, g1, g2, g3, g4, g5, go_sem, ↓reduceIte, Nat.reduceLT, Nat.reduceEqDiff, Nat.reduceAdd, Nat.reduceMul, Nat.reduceSub, Int.reduceAdd, Int.reduceSub, Nat.reduceLeDiff, Int.reduceLT, Int.reduceLE, Int.reduceEq, Int.reduceNeg, Int.reduceToNat, hy] | ((first | refine guardB_dec (fun hy => ?_) (fun hy => ?_) | refine guardB_bool (fun hy => ?_) (fun hy => ?_) | refine guardQ_ite (fun hy => ?_) (fun hy => ?_) | refine brQ_dec (fun hy => ?_) (fun hy => ?_) | refine brQ_bool (fun hy => ?_) (fun hy => ?_)) <;> (try simp only [Bool.not_eq_true', Bool.not_eq_false', Bool.and_eq_true, Bool.or_eq_false_iff, decide_eq_true_eq, decide_eq_false_iff_not] at hy)))
  refine Wp_loop (fun m T D H' => ∃ i, m = c.faces.length - i ∧ i ≤ c.faces.length ∧ D = [] ∧ H' = H ∧ get T 2 = .ipt (cpE.f c) 0 ∧ get T 3 = .ipt (cpE.f d) 0 ∧ get T 5 = .int .i64 i ∧ sameL fcS c.faces d.faces = sameL fcS (c.faces.drop i) (d.faces.drop i)) ?_ c.faces.length _ _ _ ?_
  case refine_2 => exact ⟨0, by simp (disch := first | rfl | omega | exact lt_new _ | assumption | decide | (simp [tk_here, tk_app, tk_0, tk_S, gr_here, gr_app, gr_0, gr_S] <;> omega) | fail) only [go_sem, ↓reduceIte, Nat.reduceLT, Nat.reduceEqDiff, Nat.reduceAdd, Nat.reduceMul, Nat.reduceSub, Int.reduceAdd, Int.reduceSub, Nat.reduceLeDiff, Int.reduceLT, Int.reduceLE, Int.reduceEq, Int.reduceNeg, Int.reduceToNat]; simp⟩
  rintro m T D H ⟨i, rfl, hi, rfl, rfl, t2, t3, ti, hs⟩
  by_cases hlt : i < c.faces.length
  · have hlt' : (i : Int) < c.faces.length := by omega
    have hlt2 : (i : Int) < d.faces.length := by omega
    have hlt3 : i < d.faces.length := by omega
    rw [sameL_drop fcE hlt hlt3] at hs
    obtain ⟨x, hx⟩ : ∃ x, fcE.at c.faces i = x := ⟨_, rfl⟩
    obtain ⟨y, hy2⟩ : ∃ x, fcE.at d.faces i = x := ⟨_, rfl⟩
    rw [hx, hy2] at hs
    by_cases hq : fcS x y = true
    · rw [hq, Bool.true_and] at hs
      have hy := True.intro
      repeat' (first | simp (disch := first | rfl | omega | exact lt_new _ | assumption | decide | (simp [tk_here, tk_app, tk_0, tk_S, gr_here, gr_app, gr_0, gr_S] <;> omega) | fail) only [l10_8, r10_4, r10_5, r10_7, loadV_ptr, storeV_ptr, List.append_assoc, List.length_append, List.length_cons, List.length_nil, List.set_cons_zero, List.set_cons_succ, tk_here, tk_app, gr_here, gr_app, st_here, st_app, t2, t3, ti, hlt', hx, hy2, hq, go_sem, ↓reduceIte, Nat.reduceLT, Nat.reduceEqDiff, Nat.reduceAdd, Nat.reduceMul, Nat.reduceSub, Int.reduceAdd, Int.reduceSub, Nat.reduceLeDiff, Int.reduceLT, Int.reduceLE, Int.reduceEq, Int.reduceNeg, Int.reduceToNat, hy] | ((first | refine guardB_dec (fun hy => ?_) (fun hy => ?_) | refine guardB_bool (fun hy => ?_) (fun hy => ?_) | refine guardQ_ite (fun hy => ?_) (fun hy => ?_) | refine brQ_dec (fun hy => ?_) (fun hy => ?_) | refine brQ_bool (fun hy => ?_) (fun hy => ?_)) <;> (try simp only [Bool.not_eq_true', Bool.not_eq_false', Bool.and_eq_true, Bool.or_eq_false_iff, decide_eq_true_eq, decide_eq_false_iff_not] at hy)))
      exact ⟨_, by omega, i + 1, rfl, hlt, rfl, hs⟩
    · have hS : sameB c d = false := by unfold sameB; rw [hs, Bool.eq_false_iff.2 hq]; simp
      have hy := True.intro
      repeat' (first | simp (disch := first | rfl | omega | exact lt_new _ | assumption | decide | (simp [tk_here, tk_app, tk_0, tk_S, gr_here, gr_app, gr_0, gr_S] <;> omega) | fail) only [l10_8, r10_4, r10_5, r10_7, r10_6, rs10, gc10, loadV_ptr, storeV_ptr, List.append_assoc, List.length_append, List.length_cons, List.length_nil, List.set_cons_zero, List.set_cons_succ, tk_here, tk_app, gr_here, gr_app, st_here, st_app, t2, t3, ti, hlt', hx, hy2, hq, go_sem, ↓reduceIte, Nat.reduceLT, Nat.reduceEqDiff, Nat.reduceAdd, Nat.reduceMul, Nat.reduceSub, Int.reduceAdd, Int.reduceSub, Nat.reduceLeDiff, Int.reduceLT, Int.reduceLE, Int.reduceEq, Int.reduceNeg, Int.reduceToNat, hy] | ((first | refine guardB_dec (fun hy => ?_) (fun hy => ?_) | refine guardB_bool (fun hy => ?_) (fun hy => ?_) | refine guardQ_ite (fun hy => ?_) (fun hy => ?_) | refine brQ_dec (fun hy => ?_) (fun hy => ?_) | refine brQ_bool (fun hy => ?_) (fun hy => ?_)) <;> (try simp only [Bool.not_eq_true', Bool.not_eq_false', Bool.and_eq_true, Bool.or_eq_false_iff, decide_eq_true_eq, decide_eq_false_iff_not] at hy)))
      all_goals (refine finQ_same ?_; simp (disch := first | rfl | omega | exact lt_new _ | assumption | decide | (simp [tk_here, tk_app, tk_0, tk_S, gr_here, gr_app, gr_0, gr_S] <;> omega) | fail) only [go_sem, ↓reduceIte, Nat.reduceLT, Nat.reduceEqDiff, Nat.reduceAdd, Nat.reduceMul, Nat.reduceSub, Int.reduceAdd, Int.reduceSub, Nat.reduceLeDiff, Int.reduceLT, Int.reduceLE, Int.reduceEq, Int.reduceNeg, Int.reduceToNat, hS])
  · obtain rfl : i = c.faces.length := by omega
    have hs0 : sameL fcS c.faces d.faces = true := by rw [hs, List.drop_length, List.drop_eq_nil_of_le (by omega)]; rfl
    clear hs
    simp (disch := first | rfl | omega | exact lt_new _ | assumption | decide | (simp [tk_here, tk_app, tk_0, tk_S, gr_here, gr_app, gr_0, gr_S] <;> omega) | fail) only [l10_8, r10_4, r10_9, loadV_ptr, storeV_ptr, List.append_assoc, List.length_append, List.length_cons, List.length_nil, List.set_cons_zero, List.set_cons_succ, tk_here, tk_app, gr_here, gr_app, st_here, st_app, t2, t3, ti, Int.lt_irrefl, go_sem, ↓reduceIte, Nat.reduceLT, Nat.reduceEqDiff, Nat.reduceAdd, Nat.reduceMul, Nat.reduceSub, Int.reduceAdd, Int.reduceSub, Nat.reduceLeDiff, Int.reduceLT, Int.reduceLE, Int.reduceEq, Int.reduceNeg, Int.reduceToNat]
    refine Wp_loop (fun m T D H' => ∃ i, m = c.names.length - i ∧ i ≤ c.names.length ∧ D = [] ∧ H' = H ∧ get T 2 = .ipt (cpE.f c) 0 ∧ get T 3 = .ipt (cpE.f d) 0 ∧ get T 6 = .int .i64 i ∧ sameL nmS c.names d.names = sameL nmS (c.names.drop i) (d.names.drop i)) ?_ c.names.length _ _ _ ?_
    case refine_2 => exact ⟨0, by simp (disch := first | rfl | omega | exact lt_new _ | assumption | decide | (simp [tk_here, tk_app, tk_0, tk_S, gr_here, gr_app, gr_0, gr_S] <;> omega) | fail) only [go_sem, ↓reduceIte, Nat.reduceLT, Nat.reduceEqDiff, Nat.reduceAdd, Nat.reduceMul, Nat.reduceSub, Int.reduceAdd, Int.reduceSub, Nat.reduceLeDiff, Int.reduceLT, Int.reduceLE, Int.reduceEq, Int.reduceNeg, Int.reduceToNat, t2, t3]; simp⟩
    clear t2 t3 ti
    rintro m T D H ⟨i, rfl, hi, rfl, rfl, t2, t3, ti, hs⟩
    by_cases hlt : i < c.names.length
    · have hlt' : (i : Int) < c.names.length := by omega
      have hlt2 : (i : Int) < d.names.length := by omega
      have hlt3 : i < d.names.length := by omega
      rw [sameL_drop nmE hlt hlt3] at hs
      obtain ⟨x, hx⟩ : ∃ x, nmE.at c.names i = x := ⟨_, rfl⟩
      obtain ⟨y, hy2⟩ : ∃ x, nmE.at d.names i = x := ⟨_, rfl⟩
      rw [hx, hy2] at hs
      by_cases hq : nmS x y = true
      · rw [hq, Bool.true_and] at hs
        obtain ⟨q1, q2⟩ : x.text = y.text ∧ x.addr = y.addr := by simpa [nmS] using hq
        have hy := True.intro
        repeat' (first | simp (disch := first | rfl | omega | exact lt_new _ | assumption | decide | (simp [tk_here, tk_app, tk_0, tk_S, gr_here, gr_app, gr_0, gr_S] <;> omega) | fail) only [l10_14, r10_10, r10_11, r10_13, loadV_ptr, storeV_ptr, List.append_assoc, List.length_append, List.length_cons, List.length_nil, List.set_cons_zero, List.set_cons_succ, tk_here, tk_app, gr_here, gr_app, st_here, st_app, t2, t3, ti, hlt', hx, hy2, q1, q2, fn21, go_sem, ↓reduceIte, Nat.reduceLT, Nat.reduceEqDiff, Nat.reduceAdd, Nat.reduceMul, Nat.reduceSub, Int.reduceAdd, Int.reduceSub, Nat.reduceLeDiff, Int.reduceLT, Int.reduceLE, Int.reduceEq, Int.reduceNeg, Int.reduceToNat, hy] | ((first | refine guardB_dec (fun hy => ?_) (fun hy => ?_) | refine guardB_bool (fun hy => ?_) (fun hy => ?_) | refine guardQ_ite (fun hy => ?_) (fun hy => ?_) | refine brQ_dec (fun hy => ?_) (fun hy => ?_) | refine brQ_bool (fun hy => ?_) (fun hy => ?_)) <;> (try simp only [Bool.not_eq_true', Bool.not_eq_false', Bool.and_eq_true, Bool.or_eq_false_iff, decide_eq_true_eq, decide_eq_false_iff_not] at hy)))
        exact ⟨_, by omega, i + 1, rfl, hlt, rfl, hs⟩
      · have hS : sameB c d = false := by unfold sameB; rw [hs, Bool.eq_false_iff.2 hq]; simp
        have q2 : x.text = y.text → ¬ x.addr = y.addr := fun a b => hq (by simp [nmS, a, b])
        have hy := True.intro
        repeat' (first | simp (disch := first | rfl | omega | exact lt_new _ | assumption | decide | (simp [tk_here, tk_app, tk_0, tk_S, gr_here, gr_app, gr_0, gr_S] <;> omega) | fail) only [l10_14, r10_10, r10_11, r10_13, r10_12, rs10, gc10, loadV_ptr, storeV_ptr, List.append_assoc, List.length_append, List.length_cons, List.length_nil, List.set_cons_zero, List.set_cons_succ, tk_here, tk_app, gr_here, gr_app, st_here, st_app, t2, t3, ti, hlt', hx, hy2, q2, fn21, go_sem, ↓reduceIte, Nat.reduceLT, Nat.reduceEqDiff, Nat.reduceAdd, Nat.reduceMul, Nat.reduceSub, Int.reduceAdd, Int.reduceSub, Nat.reduceLeDiff, Int.reduceLT, Int.reduceLE, Int.reduceEq, Int.reduceNeg, Int.reduceToNat, hy] | ((first | refine guardB_dec (fun hy => ?_) (fun hy => ?_) | refine guardB_bool (fun hy => ?_) (fun hy => ?_) | refine guardQ_ite (fun hy => ?_) (fun hy => ?_) | refine brQ_dec (fun hy => ?_) (fun hy => ?_) | refine brQ_bool (fun hy => ?_) (fun hy => ?_)) <;> (try simp only [Bool.not_eq_true', Bool.not_eq_false', Bool.and_eq_true, Bool.or_eq_false_iff, decide_eq_true_eq, decide_eq_false_iff_not] at hy)))
        all_goals (refine finQ_same ?_; simp (disch := first | rfl | omega | exact lt_new _ | assumption | decide | (simp [tk_here, tk_app, tk_0, tk_S, gr_here, gr_app, gr_0, gr_S] <;> omega) | fail) only [go_sem, ↓reduceIte, Nat.reduceLT, Nat.reduceEqDiff, Nat.reduceAdd, Nat.reduceMul, Nat.reduceSub, Int.reduceAdd, Int.reduceSub, Nat.reduceLeDiff, Int.reduceLT, Int.reduceLE, Int.reduceEq, Int.reduceNeg, Int.reduceToNat, hS])
    · obtain rfl : i = c.names.length := by omega
      have hs1 : sameL nmS c.names d.names = true := by rw [hs, List.drop_length, List.drop_eq_nil_of_le (by omega)]; rfl
      clear hs
      simp (disch := first | rfl | omega | exact lt_new _ | assumption | decide | (simp [tk_here, tk_app, tk_0, tk_S, gr_here, gr_app, gr_0, gr_S] <;> omega) | fail) only [l10_14, r10_10, r10_15, loadV_ptr, storeV_ptr, List.append_assoc, List.length_append, List.length_cons, List.length_nil, List.set_cons_zero, List.set_cons_succ, tk_here, tk_app, gr_here, gr_app, st_here, st_app, t2, t3, ti, Int.lt_irrefl, go_sem, ↓reduceIte, Nat.reduceLT, Nat.reduceEqDiff, Nat.reduceAdd, Nat.reduceMul, Nat.reduceSub, Int.reduceAdd, Int.reduceSub, Nat.reduceLeDiff, Int.reduceLT, Int.reduceLE, Int.reduceEq, Int.reduceNeg, Int.reduceToNat]
      refine Wp_loop (fun m T D H' => ∃ i, m = c.secrets.length - i ∧ i ≤ c.secrets.length ∧ D = [] ∧ H' = H ∧ get T 2 = .ipt (cpE.f c) 0 ∧ get T 3 = .ipt (cpE.f d) 0 ∧ get T 7 = .int .i64 i ∧ sameL scS c.secrets d.secrets = sameL scS (c.secrets.drop i) (d.secrets.drop i)) ?_ c.secrets.length _ _ _ ?_
      case refine_2 => exact ⟨0, by simp (disch := first | rfl | omega | exact lt_new _ | assumption | decide | (simp [tk_here, tk_app, tk_0, tk_S, gr_here, gr_app, gr_0, gr_S] <;> omega) | fail) only [go_sem, ↓reduceIte, Nat.reduceLT, Nat.reduceEqDiff, Nat.reduceAdd, Nat.reduceMul, Nat.reduceSub, Int.reduceAdd, Int.reduceSub, Nat.reduceLeDiff, Int.reduceLT, Int.reduceLE, Int.reduceEq, Int.reduceNeg, Int.reduceToNat, t2, t3]; simp⟩
      clear t2 t3 ti
      rintro m T D H ⟨i, rfl, hi, rfl, rfl, t2, t3, ti, hs⟩
      by_cases hlt : i < c.secrets.length
      · have hlt' : (i : Int) < c.secrets.length := by omega
        have hlt2 : (i : Int) < d.secrets.length := by omega
        have hlt3 : i < d.secrets.length := by omega
        rw [sameL_drop scE hlt hlt3] at hs
        obtain ⟨x, hx⟩ : ∃ x, scE.at c.secrets i = x := ⟨_, rfl⟩
        obtain ⟨y, hy2⟩ : ∃ x, scE.at d.secrets i = x := ⟨_, rfl⟩
        rw [hx, hy2] at hs
        by_cases hq : scS x y = true
        · rw [hq, Bool.true_and] at hs
          obtain ⟨q1, q2⟩ : x.label = y.label ∧ x.key = y.key := by simpa [scS] using hq
          have hy := True.intro
          repeat' (first | simp (disch := first | rfl | omega | exact lt_new _ | assumption | decide | (simp [tk_here, tk_app, tk_0, tk_S, gr_here, gr_app, gr_0, gr_S] <;> omega) | fail) only [l10_20, r10_16, r10_17, r10_19, loadV_ptr, storeV_ptr, List.append_assoc, List.length_append, List.length_cons, List.length_nil, List.set_cons_zero, List.set_cons_succ, tk_here, tk_app, gr_here, gr_app, st_here, st_app, t2, t3, ti, hlt', hx, hy2, q1, q2, fn21, go_sem, ↓reduceIte, Nat.reduceLT, Nat.reduceEqDiff, Nat.reduceAdd, Nat.reduceMul, Nat.reduceSub, Int.reduceAdd, Int.reduceSub, Nat.reduceLeDiff, Int.reduceLT, Int.reduceLE, Int.reduceEq, Int.reduceNeg, Int.reduceToNat, hy] | ((first | refine guardB_dec (fun hy => ?_) (fun hy => ?_) | refine guardB_bool (fun hy => ?_) (fun hy => ?_) | refine guardQ_ite (fun hy => ?_) (fun hy => ?_) | refine brQ_dec (fun hy => ?_) (fun hy => ?_) | refine brQ_bool (fun hy => ?_) (fun hy => ?_)) <;> (try simp only [Bool.not_eq_true', Bool.not_eq_false', Bool.and_eq_true, Bool.or_eq_false_iff, decide_eq_true_eq, decide_eq_false_iff_not] at hy)))
          exact ⟨_, by omega, i + 1, rfl, hlt, rfl, hs⟩
        · have hS : sameB c d = false := by unfold sameB; rw [hs, Bool.eq_false_iff.2 hq]; simp
          have q2 : x.label = y.label → ¬ x.key = y.key := fun a b => hq (by simp [scS, a, b])
          have hy := True.intro
          repeat' (first | simp (disch := first | rfl | omega | exact lt_new _ | assumption | decide | (simp [tk_here, tk_app, tk_0, tk_S, gr_here, gr_app, gr_0, gr_S] <;> omega) | fail) only [l10_20, r10_16, r10_17, r10_19, r10_18, rs10, gc10, loadV_ptr, storeV_ptr, List.append_assoc, List.length_append, List.length_cons, List.length_nil, List.set_cons_zero, List.set_cons_succ, tk_here, tk_app, gr_here, gr_app, st_here, st_app, t2, t3, ti, hlt', hx, hy2, q2, fn21, go_sem, ↓reduceIte, Nat.reduceLT, Nat.reduceEqDiff, Nat.reduceAdd, Nat.reduceMul, Nat.reduceSub, Int.reduceAdd, Int.reduceSub, Nat.reduceLeDiff, Int.reduceLT, Int.reduceLE, Int.reduceEq, Int.reduceNeg, Int.reduceToNat, hy] | ((first | refine guardB_dec (fun hy => ?_) (fun hy => ?_) | refine guardB_bool (fun hy => ?_) (fun hy => ?_) | refine guardQ_ite (fun hy => ?_) (fun hy => ?_) | refine brQ_dec (fun hy => ?_) (fun hy => ?_) | refine brQ_bool (fun hy => ?_) (fun hy => ?_)) <;> (try simp only [Bool.not_eq_true', Bool.not_eq_false', Bool.and_eq_true, Bool.or_eq_false_iff, decide_eq_true_eq, decide_eq_false_iff_not] at hy)))
          all_goals (refine finQ_same ?_; simp (disch := first | rfl | omega | exact lt_new _ | assumption | decide | (simp [tk_here, tk_app, tk_0, tk_S, gr_here, gr_app, gr_0, gr_S] <;> omega) | fail) only [go_sem, ↓reduceIte, Nat.reduceLT, Nat.reduceEqDiff, Nat.reduceAdd, Nat.reduceMul, Nat.reduceSub, Int.reduceAdd, Int.reduceSub, Nat.reduceLeDiff, Int.reduceLT, Int.reduceLE, Int.reduceEq, Int.reduceNeg, Int.reduceToNat, hS])
      · obtain rfl : i = c.secrets.length := by omega
        have hs2 : sameL scS c.secrets d.secrets = true := by rw [hs, List.drop_length, List.drop_eq_nil_of_le (by omega)]; rfl
        clear hs
        simp (disch := first | rfl | omega | exact lt_new _ | assumption | decide | (simp [tk_here, tk_app, tk_0, tk_S, gr_here, gr_app, gr_0, gr_S] <;> omega) | fail) only [l10_20, r10_16, r10_21, loadV_ptr, storeV_ptr, List.append_assoc, List.length_append, List.length_cons, List.length_nil, List.set_cons_zero, List.set_cons_succ, tk_here, tk_app, gr_here, gr_app, st_here, st_app, t2, t3, ti, Int.lt_irrefl, go_sem, ↓reduceIte, Nat.reduceLT, Nat.reduceEqDiff, Nat.reduceAdd, Nat.reduceMul, Nat.reduceSub, Int.reduceAdd, Int.reduceSub, Nat.reduceLeDiff, Int.reduceLT, Int.reduceLE, Int.reduceEq, Int.reduceNeg, Int.reduceToNat]
        refine Wp_loop (fun m T D H' => ∃ i, m = c.packets.length - i ∧ i ≤ c.packets.length ∧ D = [] ∧ H' = H ∧ get T 2 = .ipt (cpE.f c) 0 ∧ get T 3 = .ipt (cpE.f d) 0 ∧ get T 8 = .int .i64 i ∧ sameL pkS c.packets d.packets = sameL pkS (c.packets.drop i) (d.packets.drop i)) ?_ c.packets.length _ _ _ ?_
        case refine_2 => exact ⟨0, by simp (disch := first | rfl | omega | exact lt_new _ | assumption | decide | (simp [tk_here, tk_app, tk_0, tk_S, gr_here, gr_app, gr_0, gr_S] <;> omega) | fail) only [go_sem, ↓reduceIte, Nat.reduceLT, Nat.reduceEqDiff, Nat.reduceAdd, Nat.reduceMul, Nat.reduceSub, Int.reduceAdd, Int.reduceSub, Nat.reduceLeDiff, Int.reduceLT, Int.reduceLE, Int.reduceEq, Int.reduceNeg, Int.reduceToNat, t2, t3]; simp⟩
        clear t2 t3 ti
        rintro m T D H ⟨i, rfl, hi, rfl, rfl, t2, t3, ti, hs⟩
        by_cases hlt : i < c.packets.length
        · have hlt' : (i : Int) < c.packets.length := by omega
          have hlt2 : (i : Int) < d.packets.length := by omega
          have hlt3 : i < d.packets.length := by omega
          rw [sameL_drop pkE hlt hlt3] at hs
          obtain ⟨x, hx⟩ : ∃ x, pkE.at c.packets i = x := ⟨_, rfl⟩
          obtain ⟨y, hy2⟩ : ∃ x, pkE.at d.packets i = x := ⟨_, rfl⟩
          rw [hx, hy2] at hs
          by_cases hq : pkS x y = true
          · rw [hq, Bool.true_and] at hs
            have hy := True.intro
            repeat' (first | simp (disch := first | rfl | omega | exact lt_new _ | assumption | decide | (simp [tk_here, tk_app, tk_0, tk_S, gr_here, gr_app, gr_0, gr_S] <;> omega) | fail) only [l10_26, r10_22, r10_23, r10_25, loadV_ptr, storeV_ptr, List.append_assoc, List.length_append, List.length_cons, List.length_nil, List.set_cons_zero, List.set_cons_succ, tk_here, tk_app, gr_here, gr_app, st_here, st_app, t2, t3, ti, hlt', hx, hy2, hq, fn22, go_sem, ↓reduceIte, Nat.reduceLT, Nat.reduceEqDiff, Nat.reduceAdd, Nat.reduceMul, Nat.reduceSub, Int.reduceAdd, Int.reduceSub, Nat.reduceLeDiff, Int.reduceLT, Int.reduceLE, Int.reduceEq, Int.reduceNeg, Int.reduceToNat, hy] | ((first | refine guardB_dec (fun hy => ?_) (fun hy => ?_) | refine guardB_bool (fun hy => ?_) (fun hy => ?_) | refine guardQ_ite (fun hy => ?_) (fun hy => ?_) | refine brQ_dec (fun hy => ?_) (fun hy => ?_) | refine brQ_bool (fun hy => ?_) (fun hy => ?_)) <;> (try simp only [Bool.not_eq_true', Bool.not_eq_false', Bool.and_eq_true, Bool.or_eq_false_iff, decide_eq_true_eq, decide_eq_false_iff_not] at hy)))
            exact ⟨_, by omega, i + 1, rfl, hlt, rfl, hs⟩
          · have hS : sameB c d = false := by unfold sameB; rw [hs, Bool.eq_false_iff.2 hq]; simp
            have hy := True.intro
            repeat' (first | simp (disch := first | rfl | omega | exact lt_new _ | assumption | decide | (simp [tk_here, tk_app, tk_0, tk_S, gr_here, gr_app, gr_0, gr_S] <;> omega) | fail) only [l10_26, r10_22, r10_23, r10_25, r10_24, rs10, gc10, loadV_ptr, storeV_ptr, List.append_assoc, List.length_append, List.length_cons, List.length_nil, List.set_cons_zero, List.set_cons_succ, tk_here, tk_app, gr_here, gr_app, st_here, st_app, t2, t3, ti, hlt', hx, hy2, hq, fn22, go_sem, ↓reduceIte, Nat.reduceLT, Nat.reduceEqDiff, Nat.reduceAdd, Nat.reduceMul, Nat.reduceSub, Int.reduceAdd, Int.reduceSub, Nat.reduceLeDiff, Int.reduceLT, Int.reduceLE, Int.reduceEq, Int.reduceNeg, Int.reduceToNat, hy] | ((first | refine guardB_dec (fun hy => ?_) (fun hy => ?_) | refine guardB_bool (fun hy => ?_) (fun hy => ?_) | refine guardQ_ite (fun hy => ?_) (fun hy => ?_) | refine brQ_dec (fun hy => ?_) (fun hy => ?_) | refine brQ_bool (fun hy => ?_) (fun hy => ?_)) <;> (try simp only [Bool.not_eq_true', Bool.not_eq_false', Bool.and_eq_true, Bool.or_eq_false_iff, decide_eq_true_eq, decide_eq_false_iff_not] at hy)))
            all_goals (refine finQ_same ?_; simp (disch := first | rfl | omega | exact lt_new _ | assumption | decide | (simp [tk_here, tk_app, tk_0, tk_S, gr_here, gr_app, gr_0, gr_S] <;> omega) | fail) only [go_sem, ↓reduceIte, Nat.reduceLT, Nat.reduceEqDiff, Nat.reduceAdd, Nat.reduceMul, Nat.reduceSub, Int.reduceAdd, Int.reduceSub, Nat.reduceLeDiff, Int.reduceLT, Int.reduceLE, Int.reduceEq, Int.reduceNeg, Int.reduceToNat, hS])
        · obtain rfl : i = c.packets.length := by omega
          have hs3 : sameL pkS c.packets d.packets = true := by rw [hs, List.drop_length, List.drop_eq_nil_of_le (by omega)]; rfl
          clear hs
          have hS : sameB c d = true := by unfold sameB; rw [hs0, hs1, hs2, hs3, decide_eq_true g1]; rfl
          simp (disch := first | rfl | omega | exact lt_new _ | assumption | decide | (simp [tk_here, tk_app, tk_0, tk_S, gr_here, gr_app, gr_0, gr_S] <;> omega) | fail) only [l10_26, r10_22, r10_27, rs10, gc10, loadV_ptr, storeV_ptr, List.append_assoc, List.length_append, List.length_cons, List.length_nil, List.set_cons_zero, List.set_cons_succ, tk_here, tk_app, gr_here, gr_app, st_here, st_app, t2, t3, ti, Int.lt_irrefl, go_sem, ↓reduceIte, Nat.reduceLT, Nat.reduceEqDiff, Nat.reduceAdd, Nat.reduceMul, Nat.reduceSub, Int.reduceAdd, Int.reduceSub, Nat.reduceLeDiff, Int.reduceLT, Int.reduceLE, Int.reduceEq, Int.reduceNeg, Int.reduceToNat]
          refine finQ_same ?_
          simp (disch := first | rfl | omega | exact lt_new _ | assumption | decide | (simp [tk_here, tk_app, tk_0, tk_S, gr_here, gr_app, gr_0, gr_S] <;> omega) | fail) only [go_sem, ↓reduceIte, Nat.reduceLT, Nat.reduceEqDiff, Nat.reduceAdd, Nat.reduceMul, Nat.reduceSub, Int.reduceAdd, Int.reduceSub, Nat.reduceLeDiff, Int.reduceLT, Int.reduceLE, Int.reduceEq, Int.reduceNeg, Int.reduceToNat, hS]
end Go.Proofs.Ytdkeiaeaahpfdaa
/-
  Texts of lists. No statement of the seat stands here.
-/
namespace Go.Proofs.Ytdkeiaeaahpfdaa
open Go Go.An
end Go.Proofs.Ytdkeiaeaahpfdaa
/-
  Copies of captures, walked. No statement of the seat stands here.
-/
namespace Go.Proofs.Ytdkeiaeaahpfdaa
open Go Go.An
set_option maxRecDepth 4000
set_option linter.unusedSimpArgs false
set_option linter.unusedVariables false

theorem fn34 {b : Bool} {l : List Fc} (hl : l.length ≤ 2 ^ 30) (H : Hp) : ∃ v L, callL Try.prog pr 34 [slV b fcE l] H = some (v, H ++ L) ∧ RowM fcE H.length L v l := by
  suffices h : ∃ r, callL Try.prog pr 34 [slV b fcE l] H = some r ∧ ∃ v L, r = (v, H ++ L) ∧ RowM fcE H.length L v l by
    obtain ⟨_, h1, v, L, rfl, h2⟩ := h; exact ⟨v, L, h1, h2⟩
  refine ex34 (Nat.le_of_ble_eq_true rfl) ?_
  by_cases hb : b = true ∧ l = []
  · obtain ⟨rfl, rfl⟩ := hb
    simp (disch := first | rfl | omega | exact lt_new _ | assumption | decide | (simp [tk_here, tk_app, tk_0, tk_S, gr_here, gr_app, gr_0, gr_S] <;> omega) | fail) only [r34_0, r34_1, r34_2, r34_3, c34, rs34, gc34, go_sem, ↓reduceIte, Nat.reduceLT, Nat.reduceEqDiff, Nat.reduceAdd, Nat.reduceMul, Nat.reduceSub, Int.reduceAdd, Int.reduceSub, Nat.reduceLeDiff, Int.reduceLT, Int.reduceLE, Int.reduceEq, Int.reduceNeg, Int.reduceToNat, slV_nil]
    exact ⟨V.nilslice, [], by simp, Or.inl ⟨rfl, rfl⟩⟩
  · have hb2 : (b && decide (l.length = 0)) = false := by
      cases b with
      | false => rfl
      | true => simp only [true_and] at hb; simp [hb]
    obtain ⟨g, ha⟩ : ∃ g, appOf 3 32 (H ++ [.row 0 [] true]) (.slice H.length 0 0 0 3 .full) (slV b fcE l) = some (.slice H.length g 0 l.length 3 .full, H ++ [.row g (flatE fcE l) true]) := by
      have hw : fcE.w = 3 := rfl
      have hfl := flatE_len (E := fcE) (l := l)
      rw [hw] at hfl
      have hfc := flatE_cells fcE l
      unfold appOf
      rw [src_slV]
      simp only [Option.bind_some]
      rw [if_pos ⟨hfl, hfc⟩]
      simp only [getRow_last, Option.bind_some]
      rw [if_pos ⟨trivial, by omega, by omega, by simp⟩]
      by_cases hz : l.length = 0
      · obtain rfl : l = [] := List.eq_nil_of_length_eq_zero hz
        exact ⟨0, by simp [flatE]⟩
      · refine ⟨1, ?_⟩
        rw [if_neg hz, if_pos trivial, if_neg (by simp; omega), if_pos (by simp)]
        simp
    simp (disch := first | rfl | omega | exact lt_new _ | assumption | decide | (simp [tk_here, tk_app, tk_0, tk_S, gr_here, gr_app, gr_0, gr_S] <;> omega) | fail) only [r34_0, r34_1, r34_2, r34_3, c34, rs34, gc34, go_sem, ↓reduceIte, Nat.reduceLT, Nat.reduceEqDiff, Nat.reduceAdd, Nat.reduceMul, Nat.reduceSub, Int.reduceAdd, Int.reduceSub, Nat.reduceLeDiff, Int.reduceLT, Int.reduceLE, Int.reduceEq, Int.reduceNeg, Int.reduceToNat, hb2, ha]
    exact ⟨_, _, rfl, Or.inr ⟨0, g, rfl, by simp, by simp [getRow]⟩⟩

theorem fn35 {b : Bool} {l : List Nm} (hl : l.length ≤ 2 ^ 30) (H : Hp) : ∃ v L, callL Try.prog pr 35 [slV b nmE l] H = some (v, H ++ L) ∧ RowM nmE H.length L v l := by
  suffices h : ∃ r, callL Try.prog pr 35 [slV b nmE l] H = some r ∧ ∃ v L, r = (v, H ++ L) ∧ RowM nmE H.length L v l by
    obtain ⟨_, h1, v, L, rfl, h2⟩ := h; exact ⟨v, L, h1, h2⟩
  refine ex35 (Nat.le_of_ble_eq_true rfl) ?_
  by_cases hb : b = true ∧ l = []
  · obtain ⟨rfl, rfl⟩ := hb
    simp (disch := first | rfl | omega | exact lt_new _ | assumption | decide | (simp [tk_here, tk_app, tk_0, tk_S, gr_here, gr_app, gr_0, gr_S] <;> omega) | fail) only [r35_0, r35_1, r35_2, r35_3, c35, rs35, gc35, go_sem, ↓reduceIte, Nat.reduceLT, Nat.reduceEqDiff, Nat.reduceAdd, Nat.reduceMul, Nat.reduceSub, Int.reduceAdd, Int.reduceSub, Nat.reduceLeDiff, Int.reduceLT, Int.reduceLE, Int.reduceEq, Int.reduceNeg, Int.reduceToNat, slV_nil]
    exact ⟨V.nilslice, [], by simp, Or.inl ⟨rfl, rfl⟩⟩
  · have hb2 : (b && decide (l.length = 0)) = false := by
      cases b with
      | false => rfl
      | true => simp only [true_and] at hb; simp [hb]
    obtain ⟨g, ha⟩ : ∃ g, appOf 2 40 (H ++ [.row 0 [] true]) (.slice H.length 0 0 0 2 .full) (slV b nmE l) = some (.slice H.length g 0 l.length 2 .full, H ++ [.row g (flatE nmE l) true]) := by
      have hw : nmE.w = 2 := rfl
      have hfl := flatE_len (E := nmE) (l := l)
      rw [hw] at hfl
      have hfc := flatE_cells nmE l
      unfold appOf
      rw [src_slV]
      simp only [Option.bind_some]
      rw [if_pos ⟨hfl, hfc⟩]
      simp only [getRow_last, Option.bind_some]
      rw [if_pos ⟨trivial, by omega, by omega, by simp⟩]
      by_cases hz : l.length = 0
      · obtain rfl : l = [] := List.eq_nil_of_length_eq_zero hz
        exact ⟨0, by simp [flatE]⟩
      · refine ⟨1, ?_⟩
        rw [if_neg hz, if_pos trivial, if_neg (by simp; omega), if_pos (by simp)]
        simp
    simp (disch := first | rfl | omega | exact lt_new _ | assumption | decide | (simp [tk_here, tk_app, tk_0, tk_S, gr_here, gr_app, gr_0, gr_S] <;> omega) | fail) only [r35_0, r35_1, r35_2, r35_3, c35, rs35, gc35, go_sem, ↓reduceIte, Nat.reduceLT, Nat.reduceEqDiff, Nat.reduceAdd, Nat.reduceMul, Nat.reduceSub, Int.reduceAdd, Int.reduceSub, Nat.reduceLeDiff, Int.reduceLT, Int.reduceLE, Int.reduceEq, Int.reduceNeg, Int.reduceToNat, hb2, ha]
    exact ⟨_, _, rfl, Or.inr ⟨0, g, rfl, by simp, by simp [getRow]⟩⟩

theorem fn37 {b : Bool} {l : List Sc} (hl : l.length ≤ 2 ^ 30) (H : Hp) : ∃ v L, callL Try.prog pr 37 [slV b scE l] H = some (v, H ++ L) ∧ RowM scE H.length L v l := by
  suffices h : ∃ r, callL Try.prog pr 37 [slV b scE l] H = some r ∧ ∃ v L, r = (v, H ++ L) ∧ RowM scE H.length L v l by
    obtain ⟨_, h1, v, L, rfl, h2⟩ := h; exact ⟨v, L, h1, h2⟩
  refine ex37 (Nat.le_of_ble_eq_true rfl) ?_
  by_cases hb : b = true ∧ l = []
  · obtain ⟨rfl, rfl⟩ := hb
    simp (disch := first | rfl | omega | exact lt_new _ | assumption | decide | (simp [tk_here, tk_app, tk_0, tk_S, gr_here, gr_app, gr_0, gr_S] <;> omega) | fail) only [r37_0, r37_1, r37_2, r37_3, c37, rs37, gc37, go_sem, ↓reduceIte, Nat.reduceLT, Nat.reduceEqDiff, Nat.reduceAdd, Nat.reduceMul, Nat.reduceSub, Int.reduceAdd, Int.reduceSub, Nat.reduceLeDiff, Int.reduceLT, Int.reduceLE, Int.reduceEq, Int.reduceNeg, Int.reduceToNat, slV_nil]
    exact ⟨V.nilslice, [], by simp, Or.inl ⟨rfl, rfl⟩⟩
  · have hb2 : (b && decide (l.length = 0)) = false := by
      cases b with
      | false => rfl
      | true => simp only [true_and] at hb; simp [hb]
    obtain ⟨g, ha⟩ : ∃ g, appOf 2 40 (H ++ [.row 0 [] true]) (.slice H.length 0 0 0 2 .full) (slV b scE l) = some (.slice H.length g 0 l.length 2 .full, H ++ [.row g (flatE scE l) true]) := by
      have hw : scE.w = 2 := rfl
      have hfl := flatE_len (E := scE) (l := l)
      rw [hw] at hfl
      have hfc := flatE_cells scE l
      unfold appOf
      rw [src_slV]
      simp only [Option.bind_some]
      rw [if_pos ⟨hfl, hfc⟩]
      simp only [getRow_last, Option.bind_some]
      rw [if_pos ⟨trivial, by omega, by omega, by simp⟩]
      by_cases hz : l.length = 0
      · obtain rfl : l = [] := List.eq_nil_of_length_eq_zero hz
        exact ⟨0, by simp [flatE]⟩
      · refine ⟨1, ?_⟩
        rw [if_neg hz, if_pos trivial, if_neg (by simp; omega), if_pos (by simp)]
        simp
    simp (disch := first | rfl | omega | exact lt_new _ | assumption | decide | (simp [tk_here, tk_app, tk_0, tk_S, gr_here, gr_app, gr_0, gr_S] <;> omega) | fail) only [r37_0, r37_1, r37_2, r37_3, c37, rs37, gc37, go_sem, ↓reduceIte, Nat.reduceLT, Nat.reduceEqDiff, Nat.reduceAdd, Nat.reduceMul, Nat.reduceSub, Int.reduceAdd, Int.reduceSub, Nat.reduceLeDiff, Int.reduceLT, Int.reduceLE, Int.reduceEq, Int.reduceNeg, Int.reduceToNat, hb2, ha]
    exact ⟨_, _, rfl, Or.inr ⟨0, g, rfl, by simp, by simp [getRow]⟩⟩

theorem fn38 {b : Bool} {l : List Pk} (hl : l.length ≤ 2 ^ 30) (H : Hp) : ∃ v L, callL Try.prog pr 38 [slV b pkE l] H = some (v, H ++ L) ∧ RowM pkE H.length L v l := by
  suffices h : ∃ r, callL Try.prog pr 38 [slV b pkE l] H = some r ∧ ∃ v L, r = (v, H ++ L) ∧ RowM pkE H.length L v l by
    obtain ⟨_, h1, v, L, rfl, h2⟩ := h; exact ⟨v, L, h1, h2⟩
  refine ex38 (Nat.le_of_ble_eq_true rfl) ?_
  by_cases hb : b = true ∧ l = []
  · obtain ⟨rfl, rfl⟩ := hb
    simp (disch := first | rfl | omega | exact lt_new _ | assumption | decide | (simp [tk_here, tk_app, tk_0, tk_S, gr_here, gr_app, gr_0, gr_S] <;> omega) | fail) only [r38_0, r38_1, r38_2, r38_3, c38, rs38, gc38, go_sem, ↓reduceIte, Nat.reduceLT, Nat.reduceEqDiff, Nat.reduceAdd, Nat.reduceMul, Nat.reduceSub, Int.reduceAdd, Int.reduceSub, Nat.reduceLeDiff, Int.reduceLT, Int.reduceLE, Int.reduceEq, Int.reduceNeg, Int.reduceToNat, slV_nil]
    exact ⟨V.nilslice, [], by simp, Or.inl ⟨rfl, rfl⟩⟩
  · have hb2 : (b && decide (l.length = 0)) = false := by
      cases b with
      | false => rfl
      | true => simp only [true_and] at hb; simp [hb]
    obtain ⟨g, ha⟩ : ∃ g, appOf 5 64 (H ++ [.row 0 [] true]) (.slice H.length 0 0 0 5 .full) (slV b pkE l) = some (.slice H.length g 0 l.length 5 .full, H ++ [.row g (flatE pkE l) true]) := by
      have hw : pkE.w = 5 := rfl
      have hfl := flatE_len (E := pkE) (l := l)
      rw [hw] at hfl
      have hfc := flatE_cells pkE l
      unfold appOf
      rw [src_slV]
      simp only [Option.bind_some]
      rw [if_pos ⟨hfl, hfc⟩]
      simp only [getRow_last, Option.bind_some]
      rw [if_pos ⟨trivial, by omega, by omega, by simp⟩]
      by_cases hz : l.length = 0
      · obtain rfl : l = [] := List.eq_nil_of_length_eq_zero hz
        exact ⟨0, by simp [flatE]⟩
      · refine ⟨1, ?_⟩
        rw [if_neg hz, if_pos trivial, if_neg (by simp; omega), if_pos (by simp)]
        simp
    simp (disch := first | rfl | omega | exact lt_new _ | assumption | decide | (simp [tk_here, tk_app, tk_0, tk_S, gr_here, gr_app, gr_0, gr_S] <;> omega) | fail) only [r38_0, r38_1, r38_2, r38_3, c38, rs38, gc38, go_sem, ↓reduceIte, Nat.reduceLT, Nat.reduceEqDiff, Nat.reduceAdd, Nat.reduceMul, Nat.reduceSub, Int.reduceAdd, Int.reduceSub, Nat.reduceLeDiff, Int.reduceLT, Int.reduceLE, Int.reduceEq, Int.reduceNeg, Int.reduceToNat, hb2, ha]
    exact ⟨_, _, rfl, Or.inr ⟨0, g, rfl, by simp, by simp [getRow]⟩⟩


theorem gr_l {G K : Hp} {j g : Nat} (h : j < G.length) : getRow (G ++ K) j g = getRow G j g := by
  unfold getRow; rw [List.getElem?_append_left h]
theorem st_l {G K : Hp} {j : Nat} {b : AB} (h : j < G.length) : (G ++ K).set j b = G.set j b ++ K := List.set_append_left _ _ h
theorem RowM.two {α : Type} {E : Enc α} {n : Nat} {M : Hp} {v : V} {l : List α} (h : RowM E (n + 2) M v l) : (v = .nilslice ∧ l = []) ∨ ∃ j g, v = .slice (n + (j + 1 + 1)) g 0 l.length E.w .full ∧ j < M.length ∧ getRow M j g = some (flatE E l, true) := by
  rcases h with h | ⟨j, g, rfl, h⟩
  · exact Or.inl h
  · exact Or.inr ⟨j, g, by rw [show n + 2 + j = n + (j + 1 + 1) by omega], h⟩
theorem fn36 {b : Bool} {l : List UInt8} (hl : l.length ≤ 2 ^ 30) (H : Hp) : callL Try.prog pr 36 [slV b byE l] H = some (slV b byE l, H) := by
  refine run36 (Nat.le_of_ble_eq_true rfl) ?_
  by_cases hb : b = true ∧ l = []
  · obtain ⟨rfl, rfl⟩ := hb
    simp (disch := first | rfl | omega | exact lt_new _ | assumption | decide | (simp [tk_here, tk_app, tk_0, tk_S, gr_here, gr_app, gr_0, gr_S] <;> omega) | fail) only [r36_0, r36_1, r36_2, r36_3, c36, rs36, gc36, go_sem, ↓reduceIte, Nat.reduceLT, Nat.reduceEqDiff, Nat.reduceAdd, Nat.reduceMul, Nat.reduceSub, Int.reduceAdd, Int.reduceSub, Nat.reduceLeDiff, Int.reduceLT, Int.reduceLE, Int.reduceEq, Int.reduceNeg, Int.reduceToNat, slV_nil]
    exact finQ_same (by simp (disch := first | rfl | omega | exact lt_new _ | assumption | decide | (simp [tk_here, tk_app, tk_0, tk_S, gr_here, gr_app, gr_0, gr_S] <;> omega) | fail) only [go_sem, ↓reduceIte, Nat.reduceLT, Nat.reduceEqDiff, Nat.reduceAdd, Nat.reduceMul, Nat.reduceSub, Int.reduceAdd, Int.reduceSub, Nat.reduceLeDiff, Int.reduceLT, Int.reduceLE, Int.reduceEq, Int.reduceNeg, Int.reduceToNat])
  · have hb2 : (b && decide (l.length = 0)) = false := by
      cases b with
      | false => rfl
      | true => simp only [true_and] at hb; simp [hb]
    obtain ⟨g, ha⟩ : ∃ g, appOf 1 1 (H ++ [.row 0 [] true]) (.slice H.length 0 0 0 1 .full) (slV b byE l) = some (.slice H.length g 0 l.length 1 .full, H ++ [.row g (flatE byE l) true]) := by
      have hw : byE.w = 1 := rfl
      have hfl := flatE_len (E := byE) (l := l)
      rw [hw] at hfl
      have hfc := flatE_cells byE l
      unfold appOf
      rw [src_slV]
      simp only [Option.bind_some]
      rw [if_pos ⟨hfl, hfc⟩]
      simp only [getRow_last, Option.bind_some]
      rw [if_pos ⟨trivial, by omega, by omega, by simp⟩]
      by_cases hz : l.length = 0
      · obtain rfl : l = [] := List.eq_nil_of_length_eq_zero hz
        exact ⟨0, by simp [flatE]⟩
      · refine ⟨1, ?_⟩
        rw [if_neg hz, if_pos trivial, if_neg (by simpa using fun h => hz (by rw [h]; rfl)), if_pos (by simp)]
        simp
    simp (disch := first | rfl | omega | exact lt_new _ | assumption | decide | (simp [tk_here, tk_app, tk_0, tk_S, gr_here, gr_app, gr_0, gr_S] <;> omega) | fail) only [r36_0, r36_1, r36_2, r36_3, c36, rs36, gc36, go_sem, ↓reduceIte, Nat.reduceLT, Nat.reduceEqDiff, Nat.reduceAdd, Nat.reduceMul, Nat.reduceSub, Int.reduceAdd, Int.reduceSub, Nat.reduceLeDiff, Int.reduceLT, Int.reduceLE, Int.reduceEq, Int.reduceNeg, Int.reduceToNat, hb2, ha]
    refine finQ_app (by rw [show ∀ n H' f id g off m sz cp, inlR n H' f (V.slice id g off m sz cp) = inlB n H' f (V.slice id g off m sz cp) from fun _ _ _ _ _ _ _ _ _ => rfl, inlB_row (Nat.le_refl _) (w := 1) (cs := flatE byE l) (g := g) (len := l.length) (by simp) flatE_len flatE_imm]; simp (disch := first | rfl | omega | exact lt_new _ | assumption | decide | (simp [tk_here, tk_app, tk_0, tk_S, gr_here, gr_app, gr_0, gr_S] <;> omega) | fail) only [go_sem, ↓reduceIte, Nat.reduceLT, Nat.reduceEqDiff, Nat.reduceAdd, Nat.reduceMul, Nat.reduceSub, Int.reduceAdd, Int.reduceSub, Nat.reduceLeDiff, Int.reduceLT, Int.reduceLE, Int.reduceEq, Int.reduceNeg, Int.reduceToNat, slV, if_neg hb]; rfl)
def CpS (c : Cp) : Prop := (c.faces.length ≤ 2 ^ 30 ∧ c.names.length ≤ 2 ^ 30 ∧ c.secrets.length ≤ 2 ^ 30 ∧ c.packets.length ≤ 2 ^ 30) ∧ (∀ x ∈ c.names, x.addr.length ≤ 2 ^ 30) ∧ (∀ x ∈ c.secrets, x.key.length ≤ 2 ^ 30) ∧ ∀ x ∈ c.packets, x.data.length ≤ 2 ^ 30
set_option maxHeartbeats 4000000 in
/-- A copy: the packets' row lies behind the others. -/
theorem fn13s (c : Cp) (hs : CpS c) (H : Hp) : ∃ v1 v2 v3 v4 L X, callL Try.prog pr 13 [.agg (cpE.f c)] H = some (.agg [.str c.note, v1, v2, v3, v4], H ++ (L ++ X)) ∧ RowM fcE H.length L v1 c.faces ∧ RowM nmE H.length L v2 c.names ∧ RowM scE H.length L v3 c.secrets ∧ RowM pkE (H.length + L.length) X v4 c.packets := by
  suffices h : ∃ r, callL Try.prog pr 13 [.agg (cpE.f c)] H = some r ∧ ∃ v1 v2 v3 v4 L X, r = (.agg [.str c.note, v1, v2, v3, v4], H ++ (L ++ X)) ∧ RowM fcE H.length L v1 c.faces ∧ RowM nmE H.length L v2 c.names ∧ RowM scE H.length L v3 c.secrets ∧ RowM pkE (H.length + L.length) X v4 c.packets by
    obtain ⟨_, h1, v1, v2, v3, v4, L, X, rfl, h2⟩ := h; exact ⟨v1, v2, v3, v4, L, X, h1, h2⟩
  refine ex13 (Nat.le_of_ble_eq_true rfl) ?_
  obtain ⟨hlen, ha1, ha2, ha3⟩ := hs
  have e118 := fun {b l} h H => fn36 (b := b) (l := l) h H
  have hc0 : cpE.f c = [.str c.note, slV c.facesN fcE c.faces, slV c.namesN nmE c.names, slV c.secretsN scE c.secrets, slV c.packetsN pkE c.packets] := rfl
  obtain ⟨v1, L1, e1, r1⟩ := fn34 (b := c.facesN) hlen.1 (H ++ AB.row 0 [.str c.note, slV c.facesN fcE c.faces, slV c.namesN nmE c.names, slV c.secretsN scE c.secrets, slV c.packetsN pkE c.packets] true :: AB.row 0 [.str [], .nilslice, .nilslice, .nilslice, .nilslice] true :: [])
  rw [show (H ++ AB.row 0 [.str c.note, slV c.facesN fcE c.faces, slV c.namesN nmE c.names, slV c.secretsN scE c.secrets, slV c.packetsN pkE c.packets] true :: AB.row 0 [.str [], .nilslice, .nilslice, .nilslice, .nilslice] true :: []).length = H.length + 2 by simp] at r1
  obtain ⟨k11, k12, k13, k14, k15, k16, k17⟩ := r1.cell
  have n1 := fun H' => r1.len (P := Try.prog) (t := 22) (z := 3) (by kernel_rfl) H'
  have q1 := r1
  obtain ⟨v2, L2, e2, r2⟩ := fn35 (b := c.namesN) hlen.2.1 (H ++ AB.row 0 [.str c.note, v1, slV c.namesN nmE c.names, slV c.secretsN scE c.secrets, slV c.packetsN pkE c.packets] true :: AB.row 0 [.str [], .nilslice, .nilslice, .nilslice, .nilslice] true :: L1)
  rw [show (H ++ AB.row 0 [.str c.note, v1, slV c.namesN nmE c.names, slV c.secretsN scE c.secrets, slV c.packetsN pkE c.packets] true :: AB.row 0 [.str [], .nilslice, .nilslice, .nilslice, .nilslice] true :: L1).length = H.length + 2 + L1.length by simp; omega] at r2
  replace r2 := RowM.pre L1 r2
  replace q1 := RowM.app q1 L2
  obtain ⟨k21, k22, k23, k24, k25, k26, k27⟩ := r2.cell
  have n2 := fun H' => r2.len (P := Try.prog) (t := 23) (z := 2) (by kernel_rfl) H'
  simp (disch := first | rfl | omega | exact lt_new _ | assumption | decide | (simp [tk_here, tk_app, tk_0, tk_S, gr_here, gr_app, gr_0, gr_S] <;> omega) | fail) only [r13_0, r13_1, r13_2, r13_3, r13_4, r13_5, r13_6, r13_7, r13_9, r13_10, r13_11, r13_12, r13_13, r13_14, r13_16, r13_17, r13_18, r13_19, r13_20, r13_21, r13_23, c13, rs13, gc13, go_sem, ↓reduceIte, Nat.reduceLT, Nat.reduceEqDiff, Nat.reduceAdd, Nat.reduceMul, Nat.reduceSub, Int.reduceAdd, Int.reduceSub, Nat.reduceLeDiff, Int.reduceLT, Int.reduceLE, Int.reduceEq, Int.reduceNeg, Int.reduceToNat, loadV_ptr, storeV_ptr, List.append_assoc, List.length_append, List.length_cons, List.length_nil, List.set_cons_zero, List.set_cons_succ, tk_here, tk_app, gr_here, gr_app, st_here, st_app, hc0, e1, e2, n2, k11, k12, k13, k14, k15, k16, k17, k21, k22, k23, k24, k25, k26, k27]
  refine Wp_loop (fun m T D H' => ∃ i M, m = c.names.length - i ∧ i ≤ c.names.length ∧ D = [] ∧ H' = H ++ AB.row 0 [.str c.note, v1, v2, slV c.secretsN scE c.secrets, slV c.packetsN pkE c.packets] true :: AB.row 0 [.str [], .nilslice, .nilslice, .nilslice, .nilslice] true :: M ∧ get T 1 = .ptr H.length 0 0 ∧ get T 2 = .ptr (H.length + 1) 0 0 ∧ get T 18 = v2 ∧ get T 19 = .int .i64 c.names.length ∧ get T 20 = .int .i64 i ∧ RowM fcE (H.length + 2) M v1 c.faces ∧ RowM nmE (H.length + 2) M v2 c.names) ?_ c.names.length _ _ _ ?_
  case refine_2 => exact ⟨0, _, by simp (disch := first | rfl | omega | exact lt_new _ | assumption | decide | (simp [tk_here, tk_app, tk_0, tk_S, gr_here, gr_app, gr_0, gr_S] <;> omega) | fail) only [go_sem, ↓reduceIte, Nat.reduceLT, Nat.reduceEqDiff, Nat.reduceAdd, Nat.reduceMul, Nat.reduceSub, Int.reduceAdd, Int.reduceSub, Nat.reduceLeDiff, Int.reduceLT, Int.reduceLE, Int.reduceEq, Int.reduceNeg, Int.reduceToNat], by omega, rfl, rfl, by simp [go_sem], by simp [go_sem], by simp [go_sem], by simp [go_sem], by simp [go_sem], q1, r2⟩
  rintro m T D H' ⟨i, M, rfl, hi, rfl, rfl, t1, t2, t18, t19, t20, q1, q2⟩
  by_cases hlt : i < c.names.length
  · have hlt' : (i : Int) < c.names.length := by omega
    rcases RowM.two q2 with ⟨_, hnil⟩ | ⟨j, g, hv, hj, hr⟩
    · rw [hnil] at hlt; cases hlt
    have hv' : v2 = .slice (H.length + (j + 1 + 1)) g 0 c.names.length 2 .full := hv
    have p1 : partV Try.prog 41 (flatE nmE c.names) (i * 2) = some (.agg (nmE.f (nmE.at c.names i))) := ld_nmE (H := H) hlt
    have ec := e118 (b := (nmE.at c.names i).addrN) (ha1 _ (nmE.at_mem hlt))
    have hfs : setAt (flatE nmE c.names) (i * 2 + 0) [slV (nmE.at c.names i).addrN byE (nmE.at c.names i).addr] = flatE nmE c.names := flatE_same (E := nmE) hlt (by decide) rfl
    have hfl : (flatE nmE c.names).length = c.names.length * 2 := flatE_len
    have hle : i * 2 + 0 + 1 ≤ c.names.length * 2 := by omega
    have hse := (RowM.get hr).2
    subst hv'
    rw [Nat.add_zero] at hfs hle
    simp (disch := first | rfl | omega | exact lt_new _ | assumption | decide | (simp [tk_here, tk_app, tk_0, tk_S, gr_here, gr_app, gr_0, gr_S] <;> omega) | fail) only [r13_0, r13_1, r13_2, r13_3, r13_4, r13_5, r13_6, r13_7, l13_8, r13_9, r13_10, r13_11, r13_12, r13_13, r13_14, l13_15, r13_16, r13_17, r13_18, r13_19, r13_20, r13_21, l13_22, r13_23, c13, rs13, gc13, go_sem, ↓reduceIte, Nat.reduceLT, Nat.reduceEqDiff, Nat.reduceAdd, Nat.reduceMul, Nat.reduceSub, Int.reduceAdd, Int.reduceSub, Nat.reduceLeDiff, Int.reduceLT, Int.reduceLE, Int.reduceEq, Int.reduceNeg, Int.reduceToNat, loadV_ptr, storeV_ptr, List.append_assoc, List.length_append, List.length_cons, List.length_nil, List.set_cons_zero, List.set_cons_succ, tk_here, tk_app, gr_here, gr_app, st_here, st_app, gr_l hj, st_l hj, hr, hse, t1, t2, t18, t19, t20, hlt', p1, ec, hfs, hfl, hle]
    exact ⟨_, by omega, i + 1, M ++ [_], rfl, hlt, rfl, rfl, RowM.app q1 _, RowM.app q2 _⟩
  · obtain rfl : i = c.names.length := by omega
    have t0 := Int.lt_irrefl
    obtain ⟨v3, L3, e3, r3⟩ := fn37 (b := c.secretsN) hlen.2.2.1 (H ++ AB.row 0 [.str c.note, v1, v2, slV c.secretsN scE c.secrets, slV c.packetsN pkE c.packets] true :: AB.row 0 [.str [], .nilslice, .nilslice, .nilslice, .nilslice] true :: M)
    rw [show (H ++ AB.row 0 [.str c.note, v1, v2, slV c.secretsN scE c.secrets, slV c.packetsN pkE c.packets] true :: AB.row 0 [.str [], .nilslice, .nilslice, .nilslice, .nilslice] true :: M).length = H.length + 2 + M.length by simp; omega] at r3
    replace r3 := RowM.pre M r3
    replace q1 := RowM.app q1 L3
    replace q2 := RowM.app q2 L3
    obtain ⟨k31, k32, k33, k34, k35, k36, k37⟩ := r3.cell
    have n3 := fun H' => r3.len (P := Try.prog) (t := 24) (z := 2) (by kernel_rfl) H'
    simp (disch := first | rfl | omega | exact lt_new _ | assumption | decide | (simp [tk_here, tk_app, tk_0, tk_S, gr_here, gr_app, gr_0, gr_S] <;> omega) | fail) only [r13_0, r13_1, r13_2, r13_3, r13_4, r13_5, r13_6, r13_7, l13_8, r13_9, r13_10, r13_11, r13_12, r13_13, r13_14, l13_15, r13_16, r13_17, r13_18, r13_19, r13_20, r13_21, l13_22, r13_23, c13, rs13, gc13, go_sem, ↓reduceIte, Nat.reduceLT, Nat.reduceEqDiff, Nat.reduceAdd, Nat.reduceMul, Nat.reduceSub, Int.reduceAdd, Int.reduceSub, Nat.reduceLeDiff, Int.reduceLT, Int.reduceLE, Int.reduceEq, Int.reduceNeg, Int.reduceToNat, loadV_ptr, storeV_ptr, List.append_assoc, List.length_append, List.length_cons, List.length_nil, List.set_cons_zero, List.set_cons_succ, tk_here, tk_app, gr_here, gr_app, st_here, st_app, t1, t2, t18, t19, t20, t0, e3, n3, k11, k12, k13, k14, k15, k16, k17, k21, k22, k23, k24, k25, k26, k27, k31, k32, k33, k34, k35, k36, k37]
    refine Wp_loop (fun m T D H' => ∃ i M, m = c.secrets.length - i ∧ i ≤ c.secrets.length ∧ D = [] ∧ H' = H ++ AB.row 0 [.str c.note, v1, v2, v3, slV c.packetsN pkE c.packets] true :: AB.row 0 [.str [], .nilslice, .nilslice, .nilslice, .nilslice] true :: M ∧ get T 1 = .ptr H.length 0 0 ∧ get T 2 = .ptr (H.length + 1) 0 0 ∧ get T 39 = v3 ∧ get T 40 = .int .i64 c.secrets.length ∧ get T 41 = .int .i64 i ∧ RowM fcE (H.length + 2) M v1 c.faces ∧ RowM nmE (H.length + 2) M v2 c.names ∧ RowM scE (H.length + 2) M v3 c.secrets) ?_ c.secrets.length _ _ _ ?_
    case refine_2 => exact ⟨0, _, by simp (disch := first | rfl | omega | exact lt_new _ | assumption | decide | (simp [tk_here, tk_app, tk_0, tk_S, gr_here, gr_app, gr_0, gr_S] <;> omega) | fail) only [go_sem, ↓reduceIte, Nat.reduceLT, Nat.reduceEqDiff, Nat.reduceAdd, Nat.reduceMul, Nat.reduceSub, Int.reduceAdd, Int.reduceSub, Nat.reduceLeDiff, Int.reduceLT, Int.reduceLE, Int.reduceEq, Int.reduceNeg, Int.reduceToNat], by omega, rfl, rfl, by simp [go_sem, t1, t2], by simp [go_sem, t1, t2], by simp [go_sem], by simp [go_sem], by simp [go_sem], q1, q2, r3⟩
    rintro m T D H' ⟨i, M, rfl, hi, rfl, rfl, t1, t2, t39, t40, t41, q1, q2, q3⟩
    by_cases hlt : i < c.secrets.length
    · have hlt' : (i : Int) < c.secrets.length := by omega
      rcases RowM.two q3 with ⟨_, hnil⟩ | ⟨j, g, hv, hj, hr⟩
      · rw [hnil] at hlt; cases hlt
      have hv' : v3 = .slice (H.length + (j + 1 + 1)) g 0 c.secrets.length 2 .full := hv
      have p1 : partV Try.prog 51 (flatE scE c.secrets) (i * 2) = some (.agg (scE.f (scE.at c.secrets i))) := ld_scE (H := H) hlt
      have ec := e118 (b := (scE.at c.secrets i).keyN) (ha2 _ (scE.at_mem hlt))
      have hfs : setAt (flatE scE c.secrets) (i * 2 + 1) [slV (scE.at c.secrets i).keyN byE (scE.at c.secrets i).key] = flatE scE c.secrets := flatE_same (E := scE) hlt (by decide) rfl
      have hfl : (flatE scE c.secrets).length = c.secrets.length * 2 := flatE_len
      have hle : i * 2 + 1 + 1 ≤ c.secrets.length * 2 := by omega
      have hse := (RowM.get hr).2
      subst hv'
      simp (disch := first | rfl | omega | exact lt_new _ | assumption | decide | (simp [tk_here, tk_app, tk_0, tk_S, gr_here, gr_app, gr_0, gr_S] <;> omega) | fail) only [r13_0, r13_1, r13_2, r13_3, r13_4, r13_5, r13_6, r13_7, l13_8, r13_9, r13_10, r13_11, r13_12, r13_13, r13_14, l13_15, r13_16, r13_17, r13_18, r13_19, r13_20, r13_21, l13_22, r13_23, c13, rs13, gc13, go_sem, ↓reduceIte, Nat.reduceLT, Nat.reduceEqDiff, Nat.reduceAdd, Nat.reduceMul, Nat.reduceSub, Int.reduceAdd, Int.reduceSub, Nat.reduceLeDiff, Int.reduceLT, Int.reduceLE, Int.reduceEq, Int.reduceNeg, Int.reduceToNat, loadV_ptr, storeV_ptr, List.append_assoc, List.length_append, List.length_cons, List.length_nil, List.set_cons_zero, List.set_cons_succ, tk_here, tk_app, gr_here, gr_app, st_here, st_app, gr_l hj, st_l hj, hr, hse, t1, t2, t39, t40, t41, hlt', p1, ec, hfs, hfl, hle]
      exact ⟨_, by omega, i + 1, M ++ [_], rfl, hlt, rfl, rfl, RowM.app q1 _, RowM.app q2 _, RowM.app q3 _⟩
    · obtain rfl : i = c.secrets.length := by omega
      have t0 := Int.lt_irrefl
      obtain ⟨v4, L4, e4, r4⟩ := fn38 (b := c.packetsN) hlen.2.2.2 (H ++ AB.row 0 [.str c.note, v1, v2, v3, slV c.packetsN pkE c.packets] true :: AB.row 0 [.str [], .nilslice, .nilslice, .nilslice, .nilslice] true :: M)
      rw [show (H ++ AB.row 0 [.str c.note, v1, v2, v3, slV c.packetsN pkE c.packets] true :: AB.row 0 [.str [], .nilslice, .nilslice, .nilslice, .nilslice] true :: M).length = H.length + 2 + M.length by simp; omega] at r4
      obtain ⟨k41, k42, k43, k44, k45, k46, k47⟩ := r4.cell
      have n4 := fun H' => r4.len (P := Try.prog) (t := 25) (z := 5) (by kernel_rfl) H'
      simp (disch := first | rfl | omega | exact lt_new _ | assumption | decide | (simp [tk_here, tk_app, tk_0, tk_S, gr_here, gr_app, gr_0, gr_S] <;> omega) | fail) only [r13_0, r13_1, r13_2, r13_3, r13_4, r13_5, r13_6, r13_7, l13_8, r13_9, r13_10, r13_11, r13_12, r13_13, r13_14, l13_15, r13_16, r13_17, r13_18, r13_19, r13_20, r13_21, l13_22, r13_23, c13, rs13, gc13, go_sem, ↓reduceIte, Nat.reduceLT, Nat.reduceEqDiff, Nat.reduceAdd, Nat.reduceMul, Nat.reduceSub, Int.reduceAdd, Int.reduceSub, Nat.reduceLeDiff, Int.reduceLT, Int.reduceLE, Int.reduceEq, Int.reduceNeg, Int.reduceToNat, loadV_ptr, storeV_ptr, List.append_assoc, List.length_append, List.length_cons, List.length_nil, List.set_cons_zero, List.set_cons_succ, tk_here, tk_app, gr_here, gr_app, st_here, st_app, t1, t2, t39, t40, t41, t0, e4, n4, k11, k12, k13, k14, k15, k16, k17, k21, k22, k23, k24, k25, k26, k27, k31, k32, k33, k34, k35, k36, k37, k41, k42, k43, k44, k45, k46, k47]
      refine Wp_loop (fun m T D H' => ∃ i Y X, m = c.packets.length - i ∧ i ≤ c.packets.length ∧ D = [] ∧ H' = H ++ AB.row 0 [.str c.note, v1, v2, v3, v4] true :: AB.row 0 [.str [], .nilslice, .nilslice, .nilslice, .nilslice] true :: Y ∧ get T 1 = .ptr H.length 0 0 ∧ get T 2 = .ptr (H.length + 1) 0 0 ∧ get T 60 = v4 ∧ get T 61 = .int .i64 c.packets.length ∧ get T 62 = .int .i64 i ∧ Y = M ++ X ∧ RowM pkE (H.length + 2 + M.length) X v4 c.packets) ?_ c.packets.length _ _ _ ?_
      case refine_2 => exact ⟨0, _, L4, by simp (disch := first | rfl | omega | exact lt_new _ | assumption | decide | (simp [tk_here, tk_app, tk_0, tk_S, gr_here, gr_app, gr_0, gr_S] <;> omega) | fail) only [go_sem, ↓reduceIte, Nat.reduceLT, Nat.reduceEqDiff, Nat.reduceAdd, Nat.reduceMul, Nat.reduceSub, Int.reduceAdd, Int.reduceSub, Nat.reduceLeDiff, Int.reduceLT, Int.reduceLE, Int.reduceEq, Int.reduceNeg, Int.reduceToNat], by omega, rfl, rfl, by simp [go_sem, t1, t2], by simp [go_sem, t1, t2], by simp [go_sem], by simp [go_sem], by simp [go_sem], rfl, r4⟩
      rintro m T D H' ⟨i, Y, X, rfl, hi, rfl, rfl, t1, t2, t60, t61, t62, hY, qX⟩
      have q4 : RowM pkE (H.length + 2) Y v4 c.packets := by rw [hY]; exact RowM.pre M qX
      by_cases hlt : i < c.packets.length
      · have hlt' : (i : Int) < c.packets.length := by omega
        rcases RowM.two q4 with ⟨_, hnil⟩ | ⟨j, g, hv, hj, hr⟩
        · rw [hnil] at hlt; cases hlt
        have hv' : v4 = .slice (H.length + (j + 1 + 1)) g 0 c.packets.length 5 .full := hv
        have p1 : partV Try.prog 39 (flatE pkE c.packets) (i * 5) = some (.agg (pkE.f (pkE.at c.packets i))) := ld_pkE (H := H) hlt
        have ec := e118 (b := (pkE.at c.packets i).dataN) (ha3 _ (pkE.at_mem hlt))
        have hfs : setAt (flatE pkE c.packets) (i * 5 + 3) [slV (pkE.at c.packets i).dataN byE (pkE.at c.packets i).data] = flatE pkE c.packets := flatE_same (E := pkE) hlt (by decide) rfl
        have hfl : (flatE pkE c.packets).length = c.packets.length * 5 := flatE_len
        have hle : i * 5 + 3 + 1 ≤ c.packets.length * 5 := by omega
        have hse := (RowM.get hr).2
        subst hv'
        simp (disch := first | rfl | omega | exact lt_new _ | assumption | decide | (simp [tk_here, tk_app, tk_0, tk_S, gr_here, gr_app, gr_0, gr_S] <;> omega) | fail) only [r13_0, r13_1, r13_2, r13_3, r13_4, r13_5, r13_6, r13_7, l13_8, r13_9, r13_10, r13_11, r13_12, r13_13, r13_14, l13_15, r13_16, r13_17, r13_18, r13_19, r13_20, r13_21, l13_22, r13_23, c13, rs13, gc13, go_sem, ↓reduceIte, Nat.reduceLT, Nat.reduceEqDiff, Nat.reduceAdd, Nat.reduceMul, Nat.reduceSub, Int.reduceAdd, Int.reduceSub, Nat.reduceLeDiff, Int.reduceLT, Int.reduceLE, Int.reduceEq, Int.reduceNeg, Int.reduceToNat, loadV_ptr, storeV_ptr, List.append_assoc, List.length_append, List.length_cons, List.length_nil, List.set_cons_zero, List.set_cons_succ, tk_here, tk_app, gr_here, gr_app, st_here, st_app, gr_l hj, st_l hj, hr, hse, t1, t2, t60, t61, t62, hlt', p1, ec, hfs, hfl, hle]
        exact ⟨_, by omega, i + 1, Y ++ [_], X ++ [_], rfl, hlt, rfl, rfl, by rw [hY, List.append_assoc], RowM.app qX _⟩
      · obtain rfl : i = c.packets.length := by omega
        have t0 := Int.lt_irrefl
        simp (disch := first | rfl | omega | exact lt_new _ | assumption | decide | (simp [tk_here, tk_app, tk_0, tk_S, gr_here, gr_app, gr_0, gr_S] <;> omega) | fail) only [r13_0, r13_1, r13_2, r13_3, r13_4, r13_5, r13_6, r13_7, l13_8, r13_9, r13_10, r13_11, r13_12, r13_13, r13_14, l13_15, r13_16, r13_17, r13_18, r13_19, r13_20, r13_21, l13_22, r13_23, c13, rs13, gc13, go_sem, ↓reduceIte, Nat.reduceLT, Nat.reduceEqDiff, Nat.reduceAdd, Nat.reduceMul, Nat.reduceSub, Int.reduceAdd, Int.reduceSub, Nat.reduceLeDiff, Int.reduceLT, Int.reduceLE, Int.reduceEq, Int.reduceNeg, Int.reduceToNat, loadV_ptr, storeV_ptr, List.append_assoc, List.length_append, List.length_cons, List.length_nil, List.set_cons_zero, List.set_cons_succ, tk_here, tk_app, gr_here, gr_app, st_here, st_app, t1, t2, t60, t61, t62, t0, k11, k12, k13, k14, k15, k16, k17, k21, k22, k23, k24, k25, k26, k27, k31, k32, k33, k34, k35, k36, k37, k41, k42, k43, k44, k45, k46, k47]
        subst hY
        refine ⟨v1, v2, v3, v4, AB.row 0 [.str c.note, v1, v2, v3, v4] true :: AB.row 0 [.str c.note, v1, v2, v3, v4] true :: M, X, by simp, RowM.pre [_, _] q1, RowM.pre [_, _] q2, RowM.pre [_, _] q3, ?_⟩
        rw [show H.length + (AB.row 0 [.str c.note, v1, v2, v3, v4] true :: AB.row 0 [.str c.note, v1, v2, v3, v4] true :: M).length = H.length + 2 + M.length by simp; omega]
        exact qX
theorem fn13 (c : Cp) (hs : CpS c) (H : Hp) : ∃ v1 v2 v3 v4 L, callL Try.prog pr 13 [.agg (cpE.f c)] H = some (.agg [.str c.note, v1, v2, v3, v4], H ++ L) ∧ RowM fcE H.length L v1 c.faces ∧ RowM nmE H.length L v2 c.names ∧ RowM scE H.length L v3 c.secrets ∧ RowM pkE H.length L v4 c.packets := by
  obtain ⟨v1, v2, v3, v4, L, X, h1, h2, h3, h4, h5⟩ := fn13s c hs H
  exact ⟨v1, v2, v3, v4, L ++ X, h1, h2.app X, h3.app X, h4.app X, RowM.pre L h5⟩
end Go.Proofs.Ytdkeiaeaahpfdaa
/-
  Rows whose cells are set one by one. No statement of the seat stands here.
-/
namespace Go.An
open Go
variable {α : Type}
theorem setAt_set {cs : List V} {j : Nat} (h : j < cs.length) (v : V) : setAt cs j [v] = cs.set j v := by
  rw [List.set_eq_take_append_cons_drop, if_pos h]
  simp [setAt]
theorem flatE_cons (E : Enc α) (a : α) (l : List α) : flatE E (a :: l) = E.f a ++ flatE E l := by simp [flatE]
theorem flatE_setc {E : Enc α} {j : Nat} {v : V} {x : α} (hj : j < E.w) : ∀ {l : List α} {i : Nat}, i < l.length → (E.f (E.at l i)).set j v = E.f x → (flatE E l).set (i * E.w + j) v = flatE E (l.set i x)
  | [], _, h, _ => by cases h
  | y :: ys, 0, _, h => by
    have e : E.at (y :: ys) 0 = y := by simp [Enc.at]
    rw [e] at h
    rw [flatE_cons, List.set_cons_zero, flatE_cons, List.set_append_left _ _ (by rw [E.len]; omega), Nat.zero_mul, Nat.zero_add, h]
  | y :: ys, i + 1, hi, h => by
    have e : E.at (y :: ys) (i + 1) = E.at ys i := by simp [Enc.at]
    rw [e] at h
    have ih := flatE_setc (E := E) (v := v) (x := x) hj (l := ys) (i := i) (by simpa using hi) h
    rw [flatE_cons, List.set_cons_succ, flatE_cons, List.set_append_right _ _ (by rw [E.len, Nat.add_mul]; omega), E.len, show (i + 1) * E.w + j - E.w = i * E.w + j by rw [Nat.add_mul]; omega, ih]
/-- One cell of one element of a row is set. -/
theorem flatE_at_set [Orc] {E : Enc α} {l : List α} {i j : Nat} {v : V} {x : α} (hi : i < l.length) (hj : j < E.w) (h : (E.f (E.at l i)).set j v = E.f x) : setAt (flatE E l) (i * E.w + j) [v] = flatE E (l.set i x) := by
  rw [setAt_set (by rw [flatE_len]; have : i * E.w + E.w ≤ l.length * E.w := by rw [← Nat.succ_mul]; exact Nat.mul_le_mul_right _ hi
                    omega), flatE_setc hj hi h]
/-- A list whose first elements are changed. -/
def mix (g : α → α) (l : List α) (i : Nat) : List α := (l.take i).map g ++ l.drop i
theorem mix_0 (g : α → α) (l : List α) : mix g l 0 = l := by simp [mix]
theorem mix_len (g : α → α) (l : List α) (i : Nat) : (mix g l i).length = l.length := by simp [mix]; omega
theorem mix_all (g : α → α) (l : List α) : mix g l l.length = l.map g := by simp [mix]
theorem mix_get (g : α → α) {l : List α} {i : Nat} (h : i < l.length) : (mix g l i)[i]? = l[i]? := by
  have : ((l.take i).map g).length = i := by simp; omega
  rw [mix, List.getElem?_append_right (by omega), this, Nat.sub_self]
  simp
theorem mix_at (E : Enc α) (g : α → α) {l : List α} {i : Nat} (h : i < l.length) : E.at (mix g l i) i = E.at l i := by
  have h1 := E.at_some (l := mix g l i) (i := i) (by rw [mix_len]; exact h)
  rw [mix_get g h, E.at_some h] at h1
  exact (Option.some.inj h1).symm
theorem mix_set (E : Enc α) (g : α → α) {l : List α} {i : Nat} (h : i < l.length) : (mix g l i).set i (g (E.at l i)) = mix g l (i + 1) := by
  have h0 : ((l.take i).map g).length = i := by simp; omega
  have h1 : l.drop i = E.at l i :: l.drop (i + 1) := by
    rw [List.drop_eq_getElem_cons h]
    have h2 := E.at_some h
    rw [List.getElem?_eq_getElem h] at h2
    rw [Option.some.inj h2]
  have h3 : (l.take (i + 1)).map g = (l.take i).map g ++ [g (E.at l i)] := by
    rw [List.take_add_one, E.at_some h]; simp
  unfold mix
  rw [List.set_append_right _ _ (by omega), h0, Nat.sub_self, h1, List.set_cons_zero, h3]
  simp
end Go.An
/-
  Captures that are told to be right; times that are moved, walked. No statement of the seat stands here.
-/
namespace Go.Proofs.Ytdkeiaeaahpfdaa
open Go Go.An
set_option maxRecDepth 4000
set_option linter.unusedSimpArgs false
set_option linter.unusedVariables false

def CpEq (c d : Cp) : Prop := c.note = d.note ∧ c.faces = d.faces ∧ c.names = d.names ∧ c.secrets = d.secrets ∧ c.packets = d.packets
/-- The times of packets are small. -/
def PkT (p : Pk) : Prop := 0 ≤ p.time ∧ p.time ≤ 1000000000000000
theorem val_pk {c : Cp} (h : valE c = 0) : (∀ p ∈ c.packets, pfB p c.faces = true) ∧ (c.packets.length ≤ 100 ∧ c.secrets.length ≤ 60 ∧ c.names.length ≤ 60 ∧ c.faces.length ≤ 4) ∧ 1 ≤ c.faces.length := by
  unfold valE at h
  split at h
  · cases h
  · rename_i h1
    split at h
    · cases h
    · rename_i h2
      unfold largeB at h1
      unfold wrongB at h2
      simp only [Bool.or_eq_true, decide_eq_true_eq, not_or, List.any_eq_true, not_exists, not_and, Bool.not_eq_true', Bool.not_eq_false] at h1 h2
      refine ⟨fun p hp => h2.2 p hp, by omega, ?_⟩
      have := h2.1.1.1.1.1
      omega
theorem pf_pk {p : Pk} {fs : List Fc} (h : pfB p fs = true) : PkT p ∧ 0 ≤ p.face ∧ p.face < fs.length ∧ p.data.length ≤ 400 ∧ (p.data.length : Int) ≤ p.real ∧ p.real ≤ 1000000 := by
  unfold pfB pkB at h
  simp only [Bool.and_eq_true, decide_eq_true_eq, Bool.or_eq_true] at h
  exact ⟨⟨h.2.1.1.1.1.1.1, h.2.1.1.1.1.1.2⟩, h.1.1, h.1.2, by have := h.2.1.1.1.1.2; omega, h.2.1.2, h.2.2⟩
theorem val_S {c : Cp} (hv : valE c = 0) : CpS c := by
  obtain ⟨hpf, ⟨h1, h2, h3, h4⟩, _⟩ := val_pk hv
  have hw : (∀ n ∈ c.names, nmB n = true) ∧ ∀ s ∈ c.secrets, scB s = true := by
    unfold valE at hv
    split at hv
    · cases hv
    · split at hv
      · cases hv
      · rename_i h2
        unfold wrongB at h2
        simp only [Bool.or_eq_true, decide_eq_true_eq, not_or, List.any_eq_true, not_exists, not_and, Bool.not_eq_true', Bool.not_eq_false] at h2
        exact ⟨fun n hn => h2.1.1.2 n hn, fun n hn => h2.1.2 n hn⟩
  refine ⟨by omega, fun x hx => ?_, fun x hx => ?_, fun x hx => ?_⟩
  · have := hw.1 x hx
    unfold nmB at this
    simp only [Bool.and_eq_true, decide_eq_true_eq] at this
    omega
  · have := hw.2 x hx
    unfold scB at this
    simp only [Bool.and_eq_true, decide_eq_true_eq] at this
    omega
  · have := pf_pk (hpf x hx)
    omega
def noCp : Cp := ⟨[], true, [], true, [], true, [], true, []⟩
theorem noCp_f : cpE.f noCp = [.str [], .nilslice, .nilslice, .nilslice, .nilslice] := by
  rw [cpE_f]
  simp only [noCp, slV_nil]
theorem CpEq.rfl' (c : Cp) : CpEq c c := ⟨rfl, rfl, rfl, rfl, rfl⟩
theorem RowM.four {α : Type} {E : Enc α} {n : Nat} {L M : Hp} {v : V} {l : List α} (h : RowM E (n + 2 + L.length) M v l) : (v = .nilslice ∧ l = []) ∨ ∃ j g, v = .slice (n + (L.length + j + 1 + 1)) g 0 l.length E.w .full ∧ j < M.length ∧ getRow M j g = some (flatE E l, true) := by
  rcases h with h | ⟨j, g, rfl, h⟩
  · exact Or.inl h
  · exact Or.inr ⟨j, g, by rw [show n + 2 + L.length + j = n + (L.length + j + 1 + 1) by omega], h⟩
end Go.Proofs.Ytdkeiaeaahpfdaa
/-
  capt.Cut, walked. No statement of the seat stands here.
-/
namespace Go.Proofs.Ytdkeiaeaahpfdaa
open Go Go.An
set_option maxRecDepth 4000
set_option linter.unusedSimpArgs false
set_option linter.unusedVariables false

def snF (n : Int) (f : Fc) : Fc := if f.snap = 0 ∨ n < f.snap then {f with snap := n} else f
def dtF (n : Int) (p : Pk) : Pk := {p with dataN := p.dataN && decide (p.data.length = 0), data := p.data.take n.toNat}
def cutF (c : Cp) (n : Int) : Cp × Int := if valE c = 0 then (if n < 0 ∨ 400 < n then (noCp, 1) else ({c with faces := c.faces.map (snF n), packets := c.packets.map (dtF n)}, 0)) else (noCp, valE c)
theorem mix_same {α : Type} (E : Enc α) (g : α → α) {l : List α} {i : Nat} (h : i < l.length) (hg : g (E.at l i) = E.at l i) : mix g l (i + 1) = mix g l i := by
  rw [← mix_set E g h, hg]
  have hl : i < (mix g l i).length := by rw [mix_len]; exact h
  have e := E.at_some hl
  rw [mix_at E g h, List.getElem?_eq_getElem hl] at e
  rw [← Option.some.inj e, List.set_getElem_self]
theorem RowM.inc {α : Type} {E : Enc α} {n : Nat} {M : Hp} {v : V} {l : List α} (h : RowM E (n + 1) M v l) : (v = .nilslice ∧ l = []) ∨ ∃ j g, v = .slice (n + (j + 1)) g 0 l.length E.w .full ∧ j < M.length ∧ getRow M j g = some (flatE E l, true) := by
  rcases h with h | ⟨j, g, rfl, h⟩
  · exact Or.inl h
  · exact Or.inr ⟨j, g, by rw [show n + 1 + j = n + (j + 1) by omega], h⟩
theorem RowM.inc2 {α : Type} {E : Enc α} {n : Nat} {L M : Hp} {v : V} {l : List α} (h : RowM E (n + 1 + L.length) M v l) : (v = .nilslice ∧ l = []) ∨ ∃ j g, v = .slice (n + (L.length + j + 1)) g 0 l.length E.w .full ∧ j < M.length ∧ getRow M j g = some (flatE E l, true) := by
  rcases h with h | ⟨j, g, rfl, h⟩
  · exact Or.inl h
  · exact Or.inr ⟨j, g, by rw [show n + 1 + L.length + j = n + (L.length + j + 1) by omega], h⟩
/-- A row of faces is none of names, and none of secrets. -/
theorem fc_nm {l : List Fc} {m : List Nm} (h : flatE fcE l = flatE nmE m) : l = [] := by
  cases l with
  | nil => rfl
  | cons p l =>
    cases m with
    | nil => cases h
    | cons q m =>
      rw [flatE_cons, flatE_cons, fcE_f, nmE_f] at h
      injection h with h _
      unfold slV at h
      split at h <;> cases h
theorem fc_sc {l : List Fc} {m : List Sc} (h : flatE fcE l = flatE scE m) : l = [] := by
  cases l with
  | nil => rfl
  | cons p l =>
    cases m with
    | nil => cases h
    | cons q m =>
      rw [flatE_cons, flatE_cons, fcE_f, scE_f] at h
      injection h with _ h
      injection h with h _
      unfold slV at h
      split at h <;> cases h
theorem RowM.setX {α : Type} {E : Enc α} {n j g : Nat} {K : Hp} {w : V} {l : List α} {cs : List V} (h : RowM E n K w l) (hj : getRow K j g = some (cs, true)) (hne : cs ≠ flatE E l) (b : AB) : RowM E n (K.set j b) w l := by
  rcases h with h | ⟨i, g', e, hi, hr⟩
  · exact Or.inl h
  · refine Or.inr ⟨i, g', e, by simpa using hi, ?_⟩
    have hji : j ≠ i := by
      rintro rfl
      unfold getRow at hr hj
      split at hr
      · rename_i g2 cs2 o2 hb
        rw [hb] at hj
        simp only at hj
        split at hr
        · split at hj
          · injection hr with hr
            injection hj with hj
            rw [hr] at hj
            injection hj with hj _
            exact hne hj.symm
          · cases hj
        · cases hr
      · cases hr
    unfold getRow at hr ⊢
    rwa [List.getElem?_set_ne hji]
set_option maxHeartbeats 4000000 in
theorem fn15 (c : Cp) (hc : CpOk c) (n : Int) (H : Hp) : ∃ d, callL Try.prog pr 15 [.agg (cpE.f c), .int .i64 n] H = some (.tup [.agg (cpE.f d), .int .i64 (cutF c n).2], H) ∧ CpEq d (cutF c n).1 := by
  suffices h : ∃ r, callL Try.prog pr 15 [.agg (cpE.f c), .int .i64 n] H = some r ∧ ∃ d, r = (.tup [.agg (cpE.f d), .int .i64 (cutF c n).2], H) ∧ CpEq d (cutF c n).1 by
    obtain ⟨_, h1, d, rfl, h2⟩ := h; exact ⟨d, h1, h2⟩
  have hval := fn18 c hc
  refine ex15 (Nat.le_of_ble_eq_true rfl) ?_
  unfold cutF
  by_cases hv : valE c = 0
  case neg =>
    rw [if_neg hv]
    have hy := True.intro
    repeat' (first | simp (disch := first | rfl | omega | exact lt_new _ | assumption | decide | (simp [tk_here, tk_app, tk_0, tk_S, gr_here, gr_app, gr_0, gr_S] <;> omega) | fail) only [r15_0, r15_1, r15_2, r15_3, r15_4, r15_5, r15_6, r15_7, r15_8, r15_9, r15_10, r15_11, r15_12, r15_14, r15_15, r15_16, r15_17, r15_18, r15_20, c15, rs15, gc15, loadV_ptr, storeV_ptr, List.append_assoc, List.length_append, List.length_cons, List.length_nil, List.set_cons_zero, List.set_cons_succ, tk_here, tk_app, gr_here, gr_app, st_here, st_app, hval, hv, go_sem, ↓reduceIte, Nat.reduceLT, Nat.reduceEqDiff, Nat.reduceAdd, Nat.reduceMul, Nat.reduceSub, Int.reduceAdd, Int.reduceSub, Nat.reduceLeDiff, Int.reduceLT, Int.reduceLE, Int.reduceEq, Int.reduceNeg, Int.reduceToNat, hy] | ((first | refine guardB_dec (fun hy => ?_) (fun hy => ?_) | refine guardB_bool (fun hy => ?_) (fun hy => ?_) | refine guardQ_ite (fun hy => ?_) (fun hy => ?_) | refine brQ_dec (fun hy => ?_) (fun hy => ?_) | refine brQ_bool (fun hy => ?_) (fun hy => ?_)) <;> (try simp only [Bool.not_eq_true', Bool.not_eq_false', Bool.and_eq_true, Bool.or_eq_false_iff, decide_eq_true_eq, decide_eq_false_iff_not] at hy)))
    exact ⟨noCp, finQ_app (by rw [noCp_f]; simp (disch := first | rfl | omega | exact lt_new _ | assumption | decide | (simp [tk_here, tk_app, tk_0, tk_S, gr_here, gr_app, gr_0, gr_S] <;> omega) | fail) only [go_sem, ↓reduceIte, Nat.reduceLT, Nat.reduceEqDiff, Nat.reduceAdd, Nat.reduceMul, Nat.reduceSub, Int.reduceAdd, Int.reduceSub, Nat.reduceLeDiff, Int.reduceLT, Int.reduceLE, Int.reduceEq, Int.reduceNeg, Int.reduceToNat]), CpEq.rfl' _⟩
  rw [if_pos hv]
  by_cases hn : n < 0 ∨ 400 < n
  · rw [if_pos hn]
    have hn2 : ¬ n < 0 → 400 < n := fun h => hn.resolve_left h
    have hy := True.intro
    repeat' (first | simp (disch := first | rfl | omega | exact lt_new _ | assumption | decide | (simp [tk_here, tk_app, tk_0, tk_S, gr_here, gr_app, gr_0, gr_S] <;> omega) | fail) only [r15_0, r15_1, r15_2, r15_3, r15_4, r15_5, r15_6, r15_7, r15_8, r15_9, r15_10, r15_11, r15_12, r15_14, r15_15, r15_16, r15_17, r15_18, r15_20, c15, rs15, gc15, loadV_ptr, storeV_ptr, List.append_assoc, List.length_append, List.length_cons, List.length_nil, List.set_cons_zero, List.set_cons_succ, tk_here, tk_app, gr_here, gr_app, st_here, st_app, hval, hv, hn2, go_sem, ↓reduceIte, Nat.reduceLT, Nat.reduceEqDiff, Nat.reduceAdd, Nat.reduceMul, Nat.reduceSub, Int.reduceAdd, Int.reduceSub, Nat.reduceLeDiff, Int.reduceLT, Int.reduceLE, Int.reduceEq, Int.reduceNeg, Int.reduceToNat, hy] | ((first | refine guardB_dec (fun hy => ?_) (fun hy => ?_) | refine guardB_bool (fun hy => ?_) (fun hy => ?_) | refine guardQ_ite (fun hy => ?_) (fun hy => ?_) | refine brQ_dec (fun hy => ?_) (fun hy => ?_) | refine brQ_bool (fun hy => ?_) (fun hy => ?_)) <;> (try simp only [Bool.not_eq_true', Bool.not_eq_false', Bool.and_eq_true, Bool.or_eq_false_iff, decide_eq_true_eq, decide_eq_false_iff_not] at hy)))
    all_goals exact ⟨noCp, finQ_app (by rw [noCp_f]; simp (disch := first | rfl | omega | exact lt_new _ | assumption | decide | (simp [tk_here, tk_app, tk_0, tk_S, gr_here, gr_app, gr_0, gr_S] <;> omega) | fail) only [go_sem, ↓reduceIte, Nat.reduceLT, Nat.reduceEqDiff, Nat.reduceAdd, Nat.reduceMul, Nat.reduceSub, Int.reduceAdd, Int.reduceSub, Nat.reduceLeDiff, Int.reduceLT, Int.reduceLE, Int.reduceEq, Int.reduceNeg, Int.reduceToNat]), CpEq.rfl' _⟩
  rw [if_neg hn]
  have n0 : ¬ n < 0 := fun h => hn (.inl h)
  have n1 : ¬ 400 < n := fun h => hn (.inr h)
  obtain ⟨_, ⟨l4, l3, l2, l1⟩, _⟩ := val_pk hv
  have hc0 : cpE.f c = [.str c.note, slV c.facesN fcE c.faces, slV c.namesN nmE c.names, slV c.secretsN scE c.secrets, slV c.packetsN pkE c.packets] := rfl
  obtain ⟨v1, v2, v3, v4, L, X, e, q1, q2, q3, q4⟩ := fn13s c (val_S hv) (H ++ [.row 0 [.str [], .nilslice, .nilslice, .nilslice, .nilslice] true])
  rw [show (H ++ [AB.row 0 [.str [], .nilslice, .nilslice, .nilslice, .nilslice] true]).length = H.length + 1 by simp] at q1 q2 q3 q4
  obtain ⟨k11, k12, k13, k14, k15, k16, k17⟩ := q1.cell
  obtain ⟨k21, k22, k23, k24, k25, k26, k27⟩ := q2.cell
  obtain ⟨k31, k32, k33, k34, k35, k36, k37⟩ := q3.cell
  obtain ⟨k41, k42, k43, k44, k45, k46, k47⟩ := q4.cell
  have m1 := fun H' => q1.len (P := Try.prog) (t := 22) (z := 3) (by kernel_rfl) H'
  have m4 := fun H' => q4.len (P := Try.prog) (t := 25) (z := 5) (by kernel_rfl) H'
  have hy := True.intro
  repeat' (first | simp (disch := first | rfl | omega | exact lt_new _ | assumption | decide | (simp [tk_here, tk_app, tk_0, tk_S, gr_here, gr_app, gr_0, gr_S] <;> omega) | fail) only [r15_0, r15_1, r15_2, r15_3, r15_4, r15_5, r15_6, r15_7, r15_8, r15_9, r15_10, r15_11, r15_12, r15_14, r15_15, r15_16, r15_17, r15_18, r15_20, c15, rs15, gc15, loadV_ptr, storeV_ptr, List.append_assoc, List.length_append, List.length_cons, List.length_nil, List.set_cons_zero, List.set_cons_succ, tk_here, tk_app, gr_here, gr_app, st_here, st_app, hval, hv, n0, n1, e, m1, k11, k12, k13, k14, k15, k16, k17, k21, k22, k23, k24, k25, k26, k27, k31, k32, k33, k34, k35, k36, k37, k41, k42, k43, k44, k45, k46, k47, go_sem, ↓reduceIte, Nat.reduceLT, Nat.reduceEqDiff, Nat.reduceAdd, Nat.reduceMul, Nat.reduceSub, Int.reduceAdd, Int.reduceSub, Nat.reduceLeDiff, Int.reduceLT, Int.reduceLE, Int.reduceEq, Int.reduceNeg, Int.reduceToNat, hy] | ((first | refine guardB_dec (fun hy => ?_) (fun hy => ?_) | refine guardB_bool (fun hy => ?_) (fun hy => ?_) | refine guardQ_ite (fun hy => ?_) (fun hy => ?_) | refine brQ_dec (fun hy => ?_) (fun hy => ?_) | refine brQ_bool (fun hy => ?_) (fun hy => ?_)) <;> (try simp only [Bool.not_eq_true', Bool.not_eq_false', Bool.and_eq_true, Bool.or_eq_false_iff, decide_eq_true_eq, decide_eq_false_iff_not] at hy)))
  refine Wp_loop (fun m T D H' => ∃ k G L', m = c.faces.length - k ∧ k ≤ c.faces.length ∧ D = [] ∧ H' = H ++ AB.row 0 [.str [], .nilslice, .nilslice, .nilslice, .nilslice] true :: (L' ++ (X ++ AB.row 0 [.str c.note, v1, v2, v3, v4] true :: G)) ∧ get T 1 = .int .i64 n ∧ get T 4 = .ptr H.length 0 0 ∧ get T 7 = .ptr (H.length + (L'.length + X.length + 1)) 0 0 ∧ get T 28 = v1 ∧ get T 29 = .int .i64 c.faces.length ∧ get T 30 = .int .i64 k ∧ L'.length = L.length ∧ RowM fcE (H.length + 1) L' v1 (mix (snF n) c.faces k) ∧ RowM nmE (H.length + 1) L' v2 c.names ∧ RowM scE (H.length + 1) L' v3 c.secrets) ?_ c.faces.length _ _ _ ?_
  case refine_2 => exact ⟨0, [], L, by simp (disch := first | rfl | omega | exact lt_new _ | assumption | decide | (simp [tk_here, tk_app, tk_0, tk_S, gr_here, gr_app, gr_0, gr_S] <;> omega) | fail) only [go_sem, ↓reduceIte, Nat.reduceLT, Nat.reduceEqDiff, Nat.reduceAdd, Nat.reduceMul, Nat.reduceSub, Int.reduceAdd, Int.reduceSub, Nat.reduceLeDiff, Int.reduceLT, Int.reduceLE, Int.reduceEq, Int.reduceNeg, Int.reduceToNat]; simp [mix_0, q1, q2, q3]⟩
  rintro m T D H' ⟨k, G, L', rfl, hk', rfl, rfl, t1, t4, t7, t28, t29, t30, hL, r1, r2, r3⟩
  by_cases hlt : k < c.faces.length
  · have hlt' : (k : Int) < c.faces.length := by omega
    rcases RowM.inc r1 with ⟨_, hnil⟩ | ⟨j, g, hv1, hj, hr⟩
    · have := congrArg List.length hnil
      rw [mix_len] at this
      rw [this] at hlt
      exact absurd hlt (Nat.not_lt_zero _)
    rw [mix_len] at hv1
    have hlm : k < (mix (snF n) c.faces k).length := by rw [mix_len]; exact hlt
    have p1 : partV Try.prog 46 (flatE fcE (mix (snF n) c.faces k)) (k * 3) = some (.agg (fcE.f (fcE.at c.faces k))) := by
      rw [← mix_at fcE (snF n) hlt]
      exact ld_fcE (H := H) hlm
    have hfl : (flatE fcE (mix (snF n) c.faces k)).length = c.faces.length * 3 := by rw [flatE_len, mix_len]; rfl
    have hle : k * 3 + 2 + 1 ≤ c.faces.length * 3 := by omega
    obtain ⟨f, hf⟩ : ∃ f, fcE.at c.faces k = f := ⟨_, rfl⟩
    rw [hf] at p1
    subst hv1
    by_cases hs : f.snap = 0 ∨ n < f.snap
    · have hsn : snF n f = {f with snap := n} := if_pos hs
      have hs2 : ¬ f.snap = 0 → n < f.snap := fun h => hs.resolve_left h
      have hset : setAt (flatE fcE (mix (snF n) c.faces k)) (k * 3 + 2) [.int .i64 n] = flatE fcE (mix (snF n) c.faces (k + 1)) := by
        have := flatE_at_set (E := fcE) (l := mix (snF n) c.faces k) (i := k) (j := 2) (v := .int .i64 n) (x := snF n (fcE.at c.faces k)) hlm (by decide) (by rw [mix_at fcE (snF n) hlt, hf, hsn]; rfl)
        rw [mix_set fcE (snF n) hlt] at this
        exact this
      have hne : flatE fcE (mix (snF n) c.faces k) ≠ [] := by
        intro h
        rw [h] at hfl
        simp at hfl
        omega
      have hy := True.intro
      repeat' (first | simp (disch := first | rfl | omega | exact lt_new _ | assumption | decide | (simp [tk_here, tk_app, tk_0, tk_S, gr_here, gr_app, gr_0, gr_S] <;> omega) | fail) only [r15_0, r15_1, r15_2, r15_3, r15_4, r15_5, r15_6, r15_7, r15_8, r15_9, r15_10, r15_11, r15_12, l15_13, r15_14, r15_15, r15_16, r15_17, r15_18, l15_19, r15_20, c15, rs15, gc15, loadV_ptr, storeV_ptr, List.append_assoc, List.length_append, List.length_cons, List.length_nil, List.set_cons_zero, List.set_cons_succ, tk_here, tk_app, gr_here, gr_app, st_here, st_app, gr_l hj, st_l hj, hr, t1, t4, t7, t28, t29, t30, hlt', p1, hs2, hfl, hle, hset, go_sem, ↓reduceIte, Nat.reduceLT, Nat.reduceEqDiff, Nat.reduceAdd, Nat.reduceMul, Nat.reduceSub, Int.reduceAdd, Int.reduceSub, Nat.reduceLeDiff, Int.reduceLT, Int.reduceLE, Int.reduceEq, Int.reduceNeg, Int.reduceToNat, hy] | ((first | refine guardB_dec (fun hy => ?_) (fun hy => ?_) | refine guardB_bool (fun hy => ?_) (fun hy => ?_) | refine guardQ_ite (fun hy => ?_) (fun hy => ?_) | refine brQ_dec (fun hy => ?_) (fun hy => ?_) | refine brQ_bool (fun hy => ?_) (fun hy => ?_)) <;> (try simp only [Bool.not_eq_true', Bool.not_eq_false', Bool.and_eq_true, Bool.or_eq_false_iff, decide_eq_true_eq, decide_eq_false_iff_not] at hy)))
      all_goals
        refine ⟨_, by omega, k + 1, G ++ [AB.row 0 (fcE.f f) true], L'.set j (.row g (flatE fcE (mix (snF n) c.faces (k + 1))) true), rfl, hlt, rfl, by simp, rfl, by simpa using hL, Or.inr ⟨j, g, by rw [mix_len]; congr 1; omega, by simpa using hj, by simp [getRow, hj]⟩, ?_, ?_⟩
        · exact RowM.setX r2 hr (fun h => hne (by rw [h]; rw [fc_nm h] at h; exact h.symm)) _
        · exact RowM.setX r3 hr (fun h => hne (by rw [h]; rw [fc_sc h] at h; exact h.symm)) _
    · have hsn : snF n f = f := if_neg hs
      have s1 : ¬ f.snap = 0 := fun h => hs (.inl h)
      have s2 : ¬ n < f.snap := fun h => hs (.inr h)
      have hmx : mix (snF n) c.faces (k + 1) = mix (snF n) c.faces k := mix_same fcE _ hlt (by rw [hf]; exact hsn)
      have hy := True.intro
      repeat' (first | simp (disch := first | rfl | omega | exact lt_new _ | assumption | decide | (simp [tk_here, tk_app, tk_0, tk_S, gr_here, gr_app, gr_0, gr_S] <;> omega) | fail) only [r15_0, r15_1, r15_2, r15_3, r15_4, r15_5, r15_6, r15_7, r15_8, r15_9, r15_10, r15_11, r15_12, l15_13, r15_14, r15_15, r15_16, r15_17, r15_18, l15_19, r15_20, c15, rs15, gc15, loadV_ptr, storeV_ptr, List.append_assoc, List.length_append, List.length_cons, List.length_nil, List.set_cons_zero, List.set_cons_succ, tk_here, tk_app, gr_here, gr_app, st_here, st_app, gr_l hj, st_l hj, hr, t1, t4, t7, t28, t29, t30, hlt', p1, s1, s2, go_sem, ↓reduceIte, Nat.reduceLT, Nat.reduceEqDiff, Nat.reduceAdd, Nat.reduceMul, Nat.reduceSub, Int.reduceAdd, Int.reduceSub, Nat.reduceLeDiff, Int.reduceLT, Int.reduceLE, Int.reduceEq, Int.reduceNeg, Int.reduceToNat, hy] | ((first | refine guardB_dec (fun hy => ?_) (fun hy => ?_) | refine guardB_bool (fun hy => ?_) (fun hy => ?_) | refine guardQ_ite (fun hy => ?_) (fun hy => ?_) | refine brQ_dec (fun hy => ?_) (fun hy => ?_) | refine brQ_bool (fun hy => ?_) (fun hy => ?_)) <;> (try simp only [Bool.not_eq_true', Bool.not_eq_false', Bool.and_eq_true, Bool.or_eq_false_iff, decide_eq_true_eq, decide_eq_false_iff_not] at hy)))
      exact ⟨_, by omega, k + 1, G ++ [AB.row 0 (fcE.f f) true], L', rfl, hlt, rfl, rfl, rfl, hL, by rw [hmx]; exact Or.inr ⟨j, g, by rw [mix_len]; congr 1; omega, hj, hr⟩, r2, r3⟩
  · obtain rfl : k = c.faces.length := by omega
    rw [mix_all] at r1
    have hy := True.intro
    repeat' (first | simp (disch := first | rfl | omega | exact lt_new _ | assumption | decide | (simp [tk_here, tk_app, tk_0, tk_S, gr_here, gr_app, gr_0, gr_S] <;> omega) | fail) only [r15_0, r15_1, r15_2, r15_3, r15_4, r15_5, r15_6, r15_7, r15_8, r15_9, r15_10, r15_11, r15_12, r15_14, r15_15, r15_16, r15_17, r15_18, r15_20, c15, rs15, gc15, l15_13, loadV_ptr, storeV_ptr, List.append_assoc, List.length_append, List.length_cons, List.length_nil, List.set_cons_zero, List.set_cons_succ, tk_here, tk_app, gr_here, gr_app, st_here, st_app, t1, t4, t7, t28, t29, t30, Int.lt_irrefl, m4, k11, k12, k13, k14, k15, k16, k17, k21, k22, k23, k24, k25, k26, k27, k31, k32, k33, k34, k35, k36, k37, k41, k42, k43, k44, k45, k46, k47, go_sem, ↓reduceIte, Nat.reduceLT, Nat.reduceEqDiff, Nat.reduceAdd, Nat.reduceMul, Nat.reduceSub, Int.reduceAdd, Int.reduceSub, Nat.reduceLeDiff, Int.reduceLT, Int.reduceLE, Int.reduceEq, Int.reduceNeg, Int.reduceToNat, hy] | ((first | refine guardB_dec (fun hy => ?_) (fun hy => ?_) | refine guardB_bool (fun hy => ?_) (fun hy => ?_) | refine guardQ_ite (fun hy => ?_) (fun hy => ?_) | refine brQ_dec (fun hy => ?_) (fun hy => ?_) | refine brQ_bool (fun hy => ?_) (fun hy => ?_)) <;> (try simp only [Bool.not_eq_true', Bool.not_eq_false', Bool.and_eq_true, Bool.or_eq_false_iff, decide_eq_true_eq, decide_eq_false_iff_not] at hy)))
    refine Wp_loop (fun m T D H' => ∃ k G Y, m = c.packets.length - k ∧ k ≤ c.packets.length ∧ D = [] ∧ H' = H ++ AB.row 0 [.str [], .nilslice, .nilslice, .nilslice, .nilslice] true :: (L' ++ (Y ++ AB.row 0 [.str c.note, v1, v2, v3, v4] true :: G)) ∧ get T 1 = .int .i64 n ∧ get T 4 = .ptr H.length 0 0 ∧ get T 7 = .ptr (H.length + (L'.length + Y.length + 1)) 0 0 ∧ get T 52 = v4 ∧ get T 53 = .int .i64 c.packets.length ∧ get T 54 = .int .i64 k ∧ RowM pkE (H.length + 1 + L'.length) Y v4 (mix (dtF n) c.packets k)) ?_ c.packets.length _ _ _ ?_
    case refine_2 =>
      rw [← hL] at q4
      exact ⟨0, G, X, by simp (disch := first | rfl | omega | exact lt_new _ | assumption | decide | (simp [tk_here, tk_app, tk_0, tk_S, gr_here, gr_app, gr_0, gr_S] <;> omega) | fail) only [go_sem, ↓reduceIte, Nat.reduceLT, Nat.reduceEqDiff, Nat.reduceAdd, Nat.reduceMul, Nat.reduceSub, Int.reduceAdd, Int.reduceSub, Nat.reduceLeDiff, Int.reduceLT, Int.reduceLE, Int.reduceEq, Int.reduceNeg, Int.reduceToNat, t1, t4, t7]; simp [mix_0, q4, t1, t4, t7]⟩
    clear t1 t4 t7 t28 t29 t30
    rintro m T D H' ⟨k, G, Y, rfl, hk', rfl, rfl, t1, t4, t7, t52, t53, t54, r4⟩
    by_cases hlt : k < c.packets.length
    · have hlt' : (k : Int) < c.packets.length := by omega
      rcases RowM.inc2 r4 with ⟨_, hnil⟩ | ⟨j, g, hv4, hj, hr⟩
      · have := congrArg List.length hnil
        rw [mix_len] at this
        rw [this] at hlt
        exact absurd hlt (Nat.not_lt_zero _)
      rw [mix_len] at hv4
      have hlm : k < (mix (dtF n) c.packets k).length := by rw [mix_len]; exact hlt
      have p1 : partV Try.prog 39 (flatE pkE (mix (dtF n) c.packets k)) (k * 5) = some (.agg (pkE.f (pkE.at c.packets k))) := by
        rw [← mix_at pkE (dtF n) hlt]
        exact ld_pkE (H := H) hlm
      have hfl : (flatE pkE (mix (dtF n) c.packets k)).length = c.packets.length * 5 := by rw [flatE_len, mix_len]; rfl
      have hle : k * 5 + 3 + 1 ≤ c.packets.length * 5 := by omega
      obtain ⟨p, hp⟩ : ∃ p, pkE.at c.packets k = p := ⟨_, rfl⟩
      have hpl : p.data.length ≤ 400 := by
        have := pf_pk ((val_pk hv).1 _ (pkE.at_mem hlt))
        rw [hp] at this
        omega
      rw [hp] at p1
      have hmin : (if (p.data.length : Int) < n then (p.data.length : Int) else n) = ((min n.toNat p.data.length : Nat) : Int) := by split <;> omega
      have hct : ∀ H, sliceV Try.prog 34 H (slV p.dataN byE p.data) none (some (.int .i64 ((min n.toNat p.data.length : Nat) : Int))) = some (slV (dtF n p).dataN byE (dtF n p).data) := fun H => by
        rw [lo34, ct34 rfl ⟨by omega, by omega, by omega⟩]
        unfold dtF
        simp only [Int.toNat_natCast]
        rw [show Int.toNat 0 = 0 from rfl, Nat.sub_zero, List.drop_zero, ← List.take_eq_take_min]
      have hset : setAt (flatE pkE (mix (dtF n) c.packets k)) (k * 5 + 3) [slV (dtF n p).dataN byE (dtF n p).data] = flatE pkE (mix (dtF n) c.packets (k + 1)) := by
        have := flatE_at_set (E := pkE) (l := mix (dtF n) c.packets k) (i := k) (j := 3) (v := slV (dtF n p).dataN byE (dtF n p).data) (x := dtF n (pkE.at c.packets k)) hlm (by decide) (by rw [mix_at pkE (dtF n) hlt, hp]; rfl)
        rw [mix_set pkE (dtF n) hlt] at this
        exact this
      subst hv4
      have hy := True.intro
      repeat' (first | simp (disch := first | rfl | omega | exact lt_new _ | assumption | decide | (simp [tk_here, tk_app, tk_0, tk_S, gr_here, gr_app, gr_0, gr_S] <;> omega) | fail) only [r15_0, r15_1, r15_2, r15_3, r15_4, r15_5, r15_6, r15_7, r15_8, r15_9, r15_10, r15_11, r15_12, l15_13, r15_14, r15_15, r15_16, r15_17, r15_18, l15_19, r15_20, c15, rs15, gc15, loadV_ptr, storeV_ptr, List.append_assoc, List.length_append, List.length_cons, List.length_nil, List.set_cons_zero, List.set_cons_succ, tk_here, tk_app, gr_here, gr_app, st_here, st_app, gr_l hj, st_l hj, hr, t1, t4, t7, t52, t53, t54, hlt', p1, hmin, hct, hfl, hle, hset, go_sem, ↓reduceIte, Nat.reduceLT, Nat.reduceEqDiff, Nat.reduceAdd, Nat.reduceMul, Nat.reduceSub, Int.reduceAdd, Int.reduceSub, Nat.reduceLeDiff, Int.reduceLT, Int.reduceLE, Int.reduceEq, Int.reduceNeg, Int.reduceToNat, hy] | ((first | refine guardB_dec (fun hy => ?_) (fun hy => ?_) | refine guardB_bool (fun hy => ?_) (fun hy => ?_) | refine guardQ_ite (fun hy => ?_) (fun hy => ?_) | refine brQ_dec (fun hy => ?_) (fun hy => ?_) | refine brQ_bool (fun hy => ?_) (fun hy => ?_)) <;> (try simp only [Bool.not_eq_true', Bool.not_eq_false', Bool.and_eq_true, Bool.or_eq_false_iff, decide_eq_true_eq, decide_eq_false_iff_not] at hy)))
      refine ⟨_, by omega, k + 1, G ++ [AB.row 0 (pkE.f p) true], Y.set j (.row g (flatE pkE (mix (dtF n) c.packets (k + 1))) true), rfl, hlt, rfl, by simp, rfl, Or.inr ⟨j, g, by rw [mix_len]; congr 1; omega, by simpa using hj, by simp [getRow, hj]⟩⟩
    · obtain rfl : k = c.packets.length := by omega
      rw [mix_all] at r4
      have hy := True.intro
      repeat' (first | simp (disch := first | rfl | omega | exact lt_new _ | assumption | decide | (simp [tk_here, tk_app, tk_0, tk_S, gr_here, gr_app, gr_0, gr_S] <;> omega) | fail) only [r15_0, r15_1, r15_2, r15_3, r15_4, r15_5, r15_6, r15_7, r15_8, r15_9, r15_10, r15_11, r15_12, l15_13, r15_14, r15_15, r15_16, r15_17, r15_18, l15_19, r15_20, c15, rs15, gc15, loadV_ptr, storeV_ptr, List.append_assoc, List.length_append, List.length_cons, List.length_nil, List.set_cons_zero, List.set_cons_succ, tk_here, tk_app, gr_here, gr_app, st_here, st_app, t1, t4, t7, t52, t53, t54, Int.lt_irrefl, k11, k12, k13, k14, k15, k16, k17, k21, k22, k23, k24, k25, k26, k27, k31, k32, k33, k34, k35, k36, k37, k41, k42, k43, k44, k45, k46, k47, go_sem, ↓reduceIte, Nat.reduceLT, Nat.reduceEqDiff, Nat.reduceAdd, Nat.reduceMul, Nat.reduceSub, Int.reduceAdd, Int.reduceSub, Nat.reduceLeDiff, Int.reduceLT, Int.reduceLE, Int.reduceEq, Int.reduceNeg, Int.reduceToNat, hy] | ((first | refine guardB_dec (fun hy => ?_) (fun hy => ?_) | refine guardB_bool (fun hy => ?_) (fun hy => ?_) | refine guardQ_ite (fun hy => ?_) (fun hy => ?_) | refine brQ_dec (fun hy => ?_) (fun hy => ?_) | refine brQ_bool (fun hy => ?_) (fun hy => ?_)) <;> (try simp only [Bool.not_eq_true', Bool.not_eq_false', Bool.and_eq_true, Bool.or_eq_false_iff, decide_eq_true_eq, decide_eq_false_iff_not] at hy)))
      have hin : ∀ {α : Type} {E : Enc α} {v : V} {l : List α}, RowM E (H.length + 1) (L' ++ Y) v l → ∀ A Z, ∃ b, inlC H.length (H ++ A :: (L' ++ (Y ++ Z))) 8 v = some (slV b E l) := by
        intro α E v l h A Z
        obtain ⟨b, i⟩ := RowM.inl (f := 6) (A := H) (m := H.length) (RowM.pre [A] (h.app Z)) rfl (Nat.le_refl _)
        simp only [List.cons_append, List.nil_append, List.append_assoc] at i
        exact ⟨b, i⟩
      obtain ⟨b1, i1⟩ := hin (r1.app Y) (AB.row 0 [.str c.note, v1, v2, v3, v4] true) (AB.row 0 [.str c.note, v1, v2, v3, v4] true :: G)
      obtain ⟨b2, i2⟩ := hin (r2.app Y) (AB.row 0 [.str c.note, v1, v2, v3, v4] true) (AB.row 0 [.str c.note, v1, v2, v3, v4] true :: G)
      obtain ⟨b3, i3⟩ := hin (r3.app Y) (AB.row 0 [.str c.note, v1, v2, v3, v4] true) (AB.row 0 [.str c.note, v1, v2, v3, v4] true :: G)
      obtain ⟨b4, i4⟩ := hin (RowM.pre L' r4) (AB.row 0 [.str c.note, v1, v2, v3, v4] true) (AB.row 0 [.str c.note, v1, v2, v3, v4] true :: G)
      refine ⟨⟨c.note, b1, c.faces.map (snF n), b2, c.names, b3, c.secrets, b4, c.packets.map (dtF n)⟩, finQ_app ?_, rfl, rfl, rfl, rfl, rfl⟩
      simp (disch := first | rfl | omega | exact lt_new _ | assumption | decide | (simp [tk_here, tk_app, tk_0, tk_S, gr_here, gr_app, gr_0, gr_S] <;> omega) | fail) only [go_sem, ↓reduceIte, Nat.reduceLT, Nat.reduceEqDiff, Nat.reduceAdd, Nat.reduceMul, Nat.reduceSub, Int.reduceAdd, Int.reduceSub, Nat.reduceLeDiff, Int.reduceLT, Int.reduceLE, Int.reduceEq, Int.reduceNeg, Int.reduceToNat, i1, i2, i3, i4, cpE_f]
end Go.Proofs.Ytdkeiaeaahpfdaa
/-
  Rows that grow by one beside others; the reference's copy, walked. No statement of the seat stands here.
-/
namespace Go.Proofs.Ytdkeiaeaahpfdaa
open Go Go.An
set_option maxRecDepth 4000
set_option linter.unusedSimpArgs false
set_option linter.unusedVariables false

/-- A row that has something, or nothing at all. -/
def RowN {α : Type} (E : Enc α) (n : Nat) (K : Hp) (v : V) (l : List α) : Prop := (v = .nilslice ∧ l = []) ∨ (l ≠ [] ∧ ∃ j g, v = .slice (n + j) g 0 l.length E.w .full ∧ j < K.length ∧ getRow K j g = some (flatE E l, true))
theorem RowN.m {α : Type} {E : Enc α} {n : Nat} {K : Hp} {v : V} {l : List α} (h : RowN E n K v l) : RowM E n K v l := h.imp id fun h => h.2
def Keep (K K' : Hp) (cs : List V) : Prop := ∀ (i : Nat) (b : AB), K[i]? = some b → (cs = [] ∨ ∀ g : Nat, b ≠ AB.row g cs true) → K'[i]? = some b
theorem push_row {α : Type} {E : Enc α} {n w by_ : Nat} {A K : Hp} {v : V} {l : List α} (hn : n = A.length) (hw : E.w = w) (h : RowN E n K v l) (x : α) (hb : (l.length + 1) * by_ ≤ 2 ^ 40) (hb2 : l.length + 1 ≤ 2 ^ 40) :
    ∃ v' K', appOf w by_ (A ++ K) v (.isl (E.f x) 1 w) = some (v', A ++ K') ∧ RowN E n K' v' (l ++ [x]) ∧ Keep K K' (flatE E l) ∧ K.length ≤ K'.length := by
  subst hw
  have hl1 : (E.f x).length = 1 * E.w := by rw [E.len, Nat.one_mul]
  have hc1 := E.all (a := x)
  have hp := E.pos
  have hsrc : ∀ H : Hp, srcCells H (.isl (E.f x) 1 E.w) = some (E.f x, 1) := fun H => by simp only [srcCells, if_pos hl1]
  rcases h with ⟨rfl, rfl⟩ | ⟨hne, j, g, rfl, hj, hr⟩
  · refine ⟨.slice (A ++ K).length 0 0 1 E.w .full, K ++ [.row 0 (E.f x) true], ?_, Or.inr ⟨by simp, K.length, 0, by rw [hn]; simp, by simp, by simp [getRow, flatE]⟩, fun i b hi _ => ?_, by simp⟩
    · unfold appOf
      rw [hsrc]
      simp only [Option.bind_some]
      rw [if_pos ⟨hl1, hc1⟩, if_neg (by decide), if_pos (by simp at hb; omega)]
      simp
    · rw [List.getElem?_append_left (List.getElem?_eq_some_iff.1 hi).1, hi]
  · have hg : getRow (A ++ K) (n + j) g = some (flatE E l, true) := by
      subst hn
      unfold getRow at hr ⊢
      rwa [List.getElem?_append_right (by omega), show A.length + j - A.length = j by omega]
    have hfl : (flatE E l).length = l.length * E.w := flatE_len
    have hadd : (l.length + 1) * E.w = l.length * E.w + E.w := by rw [Nat.add_mul, Nat.one_mul]
    refine ⟨.slice (n + j) (g + 1) 0 (l.length + 1) E.w .full, K.set j (.row (g + 1) (flatE E (l ++ [x])) true), ?_, Or.inr ⟨by simp, j, g + 1, by simp, by simpa using hj, by simp [getRow, hj]⟩, fun i b hi hk => ?_, by simp⟩
    · unfold appOf
      rw [hsrc]
      simp only [Option.bind_some]
      rw [if_pos ⟨hl1, hc1⟩]
      simp only [hg, Option.bind_some]
      rw [if_pos ⟨trivial, by omega, by omega, by omega⟩, if_neg (by decide), if_pos trivial, if_neg (by omega), if_pos (by omega)]
      subst hn
      rw [List.set_append_right _ _ (by omega), show A.length + j - A.length = j by omega]
      simp [flatE]
    · have hne2 : j ≠ i := by
        rintro rfl
        unfold getRow at hr
        rw [hi] at hr
        cases b with
        | row g' cs o =>
          simp only at hr
          split at hr
          · injection hr with hr
            injection hr with h1 h2
            subst h1 h2
            rcases hk with hk | hk
            · have : l.length * E.w = 0 := by rw [← hfl, hk]; rfl
              have h0 : 0 < l.length := List.length_pos_iff.2 hne
              have := Nat.mul_pos h0 hp
              omega
            · exact hk _ rfl
          · cases hr
        | _ => cases hr
      rw [List.getElem?_set_ne hne2, hi]
theorem RowN.keep {α β : Type} {E : Enc α} {F : Enc β} {n : Nat} {K K' : Hp} {v : V} {l : List α} {m : List β} (h : RowN E n K v l) (hk : Keep K K' (flatE F m)) (hl : K.length ≤ K'.length) (hne : l ≠ [] → flatE E l ≠ flatE F m) : RowN E n K' v l := by
  rcases h with h | ⟨h0, j, g, e, hj, hr⟩
  · exact Or.inl h
  · refine Or.inr ⟨h0, j, g, e, by omega, ?_⟩
    have hb : K[j]? = some (.row g (flatE E l) true) := by
      unfold getRow at hr
      split at hr
      · rename_i g' cs o hb
        split at hr
        · rename_i hg
          injection hr with hr
          injection hr with h1 h2
          subst h1 h2 hg
          exact hb
        · cases hr
      · cases hr
    have := hk j _ hb (.inr fun g' he => by
      injection he with _ he _
      exact hne h0 he)
    exact getRow_of this
/-- A list laid behind nothing. -/
theorem app_new {α : Type} {E : Enc α} {w by_ : Nat} {A : Hp} {b : Bool} {l : List α} (hw : E.w = w) (hb : l.length * by_ ≤ 2 ^ 40) (hb2 : l.length ≤ 2 ^ 40) : ∃ v F, appOf w by_ A .nilslice (slV b E l) = some (v, A ++ F) ∧ RowN E A.length F v l := by
  subst hw
  have hfl : (flatE E l).length = l.length * E.w := flatE_len
  have hfc := flatE_cells E l
  by_cases hz : l.length = 0
  · obtain rfl : l = [] := List.eq_nil_of_length_eq_zero hz
    refine ⟨.nilslice, [], ?_, Or.inl ⟨rfl, rfl⟩⟩
    unfold appOf
    rw [src_slV]
    simp [flatE]
  · refine ⟨.slice A.length 0 0 l.length E.w .full, [.row 0 (flatE E l) true], ?_, Or.inr ⟨fun h => hz (by rw [h]; rfl), 0, 0, rfl, by simp, by simp [getRow]⟩⟩
    unfold appOf
    rw [src_slV]
    simp only [Option.bind_some]
    rw [if_pos ⟨hfl, hfc⟩, if_neg hz, if_pos ⟨hb, hb2⟩]
def cpk (p : Pk) : Pk := {p with dataN := true}
def cnm (p : Nm) : Nm := {p with addrN := true}
def csc (p : Sc) : Sc := {p with keyN := true}
theorem fn20 (p : Pk) (hp : p.data.length ≤ 2 ^ 30) (H : Hp) : callL Try.prog pr 20 [.agg (pkE.f p)] H = some (.agg (pkE.f (cpk p)), H) := by
  refine run20 (Nat.le_of_ble_eq_true rfl) ?_
  have e : setAt (pkE.f p) 3 [slV true byE p.data] = pkE.f (cpk p) := rfl
  have hy := True.intro
  repeat' (first | simp (disch := first | rfl | omega | exact lt_new _ | assumption | decide | (simp [tk_here, tk_app, tk_0, tk_S, gr_here, gr_app, gr_0, gr_S] <;> omega) | fail) only [r20_0, r20_1, r20_2, c20, rs20, gc20, loadV_ptr, storeV_ptr, List.append_assoc, List.length_append, List.length_cons, List.length_nil, List.set_cons_zero, List.set_cons_succ, tk_here, tk_app, gr_here, gr_app, st_here, st_app, e, go_sem, ↓reduceIte, Nat.reduceLT, Nat.reduceEqDiff, Nat.reduceAdd, Nat.reduceMul, Nat.reduceSub, Int.reduceAdd, Int.reduceSub, Nat.reduceLeDiff, Int.reduceLT, Int.reduceLE, Int.reduceEq, Int.reduceNeg, Int.reduceToNat, hy] | ((first | refine guardB_dec (fun hy => ?_) (fun hy => ?_) | refine guardB_bool (fun hy => ?_) (fun hy => ?_) | refine guardQ_ite (fun hy => ?_) (fun hy => ?_) | refine brQ_dec (fun hy => ?_) (fun hy => ?_) | refine brQ_bool (fun hy => ?_) (fun hy => ?_)) <;> (try simp only [Bool.not_eq_true', Bool.not_eq_false', Bool.and_eq_true, Bool.or_eq_false_iff, decide_eq_true_eq, decide_eq_false_iff_not] at hy)))
  all_goals (try ((first | refine finQ_same ?_ | refine finQ_app ?_ | (rw [List.append_assoc]; refine finQ_app ?_)) <;> simp (disch := first | rfl | omega | exact lt_new _ | assumption | decide | (simp [tk_here, tk_app, tk_0, tk_S, gr_here, gr_app, gr_0, gr_S] <;> omega) | fail) only [go_sem, ↓reduceIte, Nat.reduceLT, Nat.reduceEqDiff, Nat.reduceAdd, Nat.reduceMul, Nat.reduceSub, Int.reduceAdd, Int.reduceSub, Nat.reduceLeDiff, Int.reduceLT, Int.reduceLE, Int.reduceEq, Int.reduceNeg, Int.reduceToNat, List.append_assoc, List.cons_append, List.nil_append, *]))
  all_goals (try first | rfl | (simp [*]; done) | grind)
end Go.Proofs.Ytdkeiaeaahpfdaa
/-
  The reference's copy, walked. No statement of the seat stands here.
-/
namespace Go.Proofs.Ytdkeiaeaahpfdaa
open Go Go.An
set_option maxRecDepth 4000
set_option linter.unusedSimpArgs false
set_option linter.unusedVariables false

theorem nm_row {m : List Nm} {s : List UInt8} {cs : List V} : flatE nmE m ≠ .str s :: cs := by
  cases m with
  | nil => intro h; cases h
  | cons p l =>
    intro h
    rw [flatE_cons, nmE_f] at h
    injection h with h _
    unfold slV at h
    split at h <;> cases h
theorem pk_row {m : List Pk} {s : List UInt8} {cs : List V} : flatE pkE m ≠ .str s :: cs := by
  cases m with
  | nil => intro h; cases h
  | cons p l =>
    intro h
    rw [flatE_cons, pkE_f] at h
    injection h with h _
    cases h
theorem sc_row {m : List Sc} {a b c d e : V} : flatE scE m ≠ [a, b, c, d, e] := by
  intro h
  have h1 := congrArg List.length h
  rw [flatE_len] at h1
  have h2 : m.length * 2 = 5 := h1
  omega
theorem nm_sc {l : List Nm} {m : List Sc} (h0 : l ≠ []) : flatE nmE l ≠ flatE scE m := by
  cases m with
  | nil =>
    intro h
    cases l with
    | nil => exact h0 rfl
    | cons p l => rw [flatE_cons, nmE_f] at h; cases h
  | cons q m =>
    rw [flatE_cons (E := scE), scE_f]
    exact nm_row
theorem nm_pk {l : List Nm} {m : List Pk} (h0 : l ≠ []) : flatE nmE l ≠ flatE pkE m := by
  cases l with
  | nil => exact absurd rfl h0
  | cons p l =>
    cases m with
    | nil => intro h; rw [flatE_cons, nmE_f] at h; cases h
    | cons q m =>
      intro h
      rw [flatE_cons, flatE_cons, nmE_f, pkE_f] at h
      injection h with h _
      unfold slV at h
      split at h <;> cases h
theorem sc_pk {l : List Sc} {m : List Pk} (h0 : l ≠ []) : flatE scE l ≠ flatE pkE m := by
  cases l with
  | nil => exact absurd rfl h0
  | cons p l =>
    rw [flatE_cons, scE_f]
    exact fun h => pk_row h.symm
theorem map_snoc {α β : Type} (E : Enc α) (g : α → β) {l : List α} {i : Nat} (h : i < l.length) : (l.take (i + 1)).map g = (l.take i).map g ++ [g (E.at l i)] := by
  rw [E.take_at h]; simp
set_option maxHeartbeats 4000000 in
theorem fn14 (c : Cp) (hs : CpS c) (H : Hp) : ∃ v1 v2 v3 v4 K, callL Try.prog pr 14 [.agg (cpE.f c)] H = some (.agg [.str c.note, v1, v2, v3, v4], H ++ K) ∧ RowM fcE H.length K v1 c.faces ∧ RowM nmE H.length K v2 (c.names.map cnm) ∧ RowM scE H.length K v3 (c.secrets.map csc) ∧ RowM pkE H.length K v4 (c.packets.map cpk) := by
  suffices h : ∃ r, callL Try.prog pr 14 [.agg (cpE.f c)] H = some r ∧ ∃ v1 v2 v3 v4 K, r = (.agg [.str c.note, v1, v2, v3, v4], H ++ K) ∧ RowM fcE H.length K v1 c.faces ∧ RowM nmE H.length K v2 (c.names.map cnm) ∧ RowM scE H.length K v3 (c.secrets.map csc) ∧ RowM pkE H.length K v4 (c.packets.map cpk) by
    obtain ⟨_, h1, v1, v2, v3, v4, L, rfl, h2⟩ := h; exact ⟨v1, v2, v3, v4, L, h1, h2⟩
  refine ex14 (Nat.le_of_ble_eq_true rfl) ?_
  obtain ⟨hlen, ha1, ha2, ha3⟩ := hs
  obtain ⟨lf, ln, ls, lp⟩ := hlen
  have hc0 : cpE.f c = [.str c.note, slV c.facesN fcE c.faces, slV c.namesN nmE c.names, slV c.secretsN scE c.secrets, slV c.packetsN pkE c.packets] := rfl
  obtain ⟨v1, F, e1, q1⟩ := app_new (E := fcE) (w := 3) (by_ := 32) (A := H ++ .row 0 (cpE.f c) true :: .row 0 [.str [], .nilslice, .nilslice, .nilslice, .nilslice] true :: []) (b := c.facesN) (l := c.faces) rfl (by omega) (by omega)
  rw [show (H ++ AB.row 0 (cpE.f c) true :: .row 0 [.str [], .nilslice, .nilslice, .nilslice, .nilslice] true :: []).length = H.length + 2 by simp] at q1
  obtain ⟨k11, k12, k13, k14, k15, k16, k17⟩ := q1.m.cell
  simp only [List.append_assoc, List.cons_append, List.nil_append] at e1
  have hy := True.intro
  repeat' (first | simp (disch := first | rfl | omega | exact lt_new _ | assumption | decide | (simp [tk_here, tk_app, tk_0, tk_S, gr_here, gr_app, gr_0, gr_S] <;> omega) | fail) only [r14_0, r14_1, r14_2, r14_3, r14_4, r14_5, r14_7, r14_8, r14_9, r14_10, r14_12, r14_13, r14_14, r14_15, r14_17, c14, rs14, gc14, loadV_ptr, storeV_ptr, List.append_assoc, List.length_append, List.length_cons, List.length_nil, List.set_cons_zero, List.set_cons_succ, tk_here, tk_app, gr_here, gr_app, st_here, st_app, e1, k11, k12, k13, k14, k15, k16, k17, go_sem, ↓reduceIte, Nat.reduceLT, Nat.reduceEqDiff, Nat.reduceAdd, Nat.reduceMul, Nat.reduceSub, Int.reduceAdd, Int.reduceSub, Nat.reduceLeDiff, Int.reduceLT, Int.reduceLE, Int.reduceEq, Int.reduceNeg, Int.reduceToNat, hy] | ((first | refine guardB_dec (fun hy => ?_) (fun hy => ?_) | refine guardB_bool (fun hy => ?_) (fun hy => ?_) | refine guardQ_ite (fun hy => ?_) (fun hy => ?_) | refine brQ_dec (fun hy => ?_) (fun hy => ?_) | refine brQ_bool (fun hy => ?_) (fun hy => ?_)) <;> (try simp only [Bool.not_eq_true', Bool.not_eq_false', Bool.and_eq_true, Bool.or_eq_false_iff, decide_eq_true_eq, decide_eq_false_iff_not] at hy)))
  refine Wp_loop (fun m T D H' => ∃ k K w, m = c.names.length - k ∧ k ≤ c.names.length ∧ D = [] ∧ H' = H ++ AB.row 0 (cpE.f c) true :: AB.row 0 [.str [], .nilslice, .nilslice, .nilslice, .nilslice] true :: (F ++ AB.row 0 [.str c.note, v1, w, .nilslice, .nilslice] true :: K) ∧ get T 1 = .ptr H.length 0 0 ∧ get T 2 = .ptr (H.length + 1) 0 0 ∧ get T 3 = .ptr (H.length + (F.length + 1 + 1)) 0 0 ∧ get T 4 = .int .i64 k ∧ RowN nmE (H.length + 2 + F.length + 1) K w ((c.names.take k).map cnm)) ?_ c.names.length _ _ _ ?_
  case refine_2 => exact ⟨0, [], .nilslice, by simp (disch := first | rfl | omega | exact lt_new _ | assumption | decide | (simp [tk_here, tk_app, tk_0, tk_S, gr_here, gr_app, gr_0, gr_S] <;> omega) | fail) only [go_sem, ↓reduceIte, Nat.reduceLT, Nat.reduceEqDiff, Nat.reduceAdd, Nat.reduceMul, Nat.reduceSub, Int.reduceAdd, Int.reduceSub, Nat.reduceLeDiff, Int.reduceLT, Int.reduceLE, Int.reduceEq, Int.reduceNeg, Int.reduceToNat]; exact ⟨Nat.zero_le _, Or.inl ⟨rfl, rfl⟩⟩⟩
  rintro m T D H' ⟨k, K, w, rfl, hk, rfl, rfl, t1, t2, t3, t4, q2⟩
  obtain ⟨k21, k22, k23, k24, k25, k26, k27⟩ := q2.m.cell
  by_cases hlt : k < c.names.length
  · have hlt' : (k : Int) < c.names.length := by omega
    have hml : ((c.names.take k).map cnm).length ≤ 2 ^ 30 := by simp; omega
    have hal := ha1 _ (nmE.at_mem hlt)
    have hms := map_snoc nmE cnm hlt
    obtain ⟨x, hx⟩ : ∃ x, nmE.at c.names k = x := ⟨_, rfl⟩
    rw [hx] at hal hms
    obtain ⟨w', K', ea, qa, hkp, hkl⟩ := push_row (E := nmE) (w := 2) (by_ := 40) (A := H ++ AB.row 0 (cpE.f c) true :: AB.row 0 [.str [], .nilslice, .nilslice, .nilslice, .nilslice] true :: (F ++ [AB.row 0 [.str c.note, v1, w, .nilslice, .nilslice] true])) (K := K) (by simp; omega) rfl q2 (cnm x) (by omega) (by omega)
    simp only [List.append_assoc, List.cons_append, List.nil_append] at ea
    have ea2 : appOf 2 40 (H ++ AB.row 0 (cpE.f c) true :: AB.row 0 [.str [], .nilslice, .nilslice, .nilslice, .nilslice] true :: (F ++ AB.row 0 [.str c.note, v1, w, .nilslice, .nilslice] true :: K)) w (.isl [slV true byE x.addr, .str x.text] 1 2) = some (w', H ++ AB.row 0 (cpE.f c) true :: AB.row 0 [.str [], .nilslice, .nilslice, .nilslice, .nilslice] true :: (F ++ AB.row 0 [.str c.note, v1, w, .nilslice, .nilslice] true :: K')) := ea
    obtain ⟨j11, j12, j13, j14, j15, j16, j17⟩ := qa.m.cell
    have hy := True.intro
    repeat' (first | simp (disch := first | rfl | omega | exact lt_new _ | assumption | decide | (simp [tk_here, tk_app, tk_0, tk_S, gr_here, gr_app, gr_0, gr_S] <;> omega) | fail) only [r14_0, r14_1, r14_2, r14_3, r14_4, r14_5, l14_6, r14_7, r14_8, r14_9, r14_10, l14_11, r14_12, r14_13, r14_14, r14_15, l14_16, r14_17, c14, rs14, gc14, loadV_ptr, storeV_ptr, List.append_assoc, List.length_append, List.length_cons, List.length_nil, List.set_cons_zero, List.set_cons_succ, tk_here, tk_app, gr_here, gr_app, st_here, st_app, t1, t2, t3, t4, hlt', hx, ea2, k11, k12, k13, k14, k15, k16, k17, k21, k22, k23, k24, k25, k26, k27, j11, j12, j13, j14, j15, j16, j17, go_sem, ↓reduceIte, Nat.reduceLT, Nat.reduceEqDiff, Nat.reduceAdd, Nat.reduceMul, Nat.reduceSub, Int.reduceAdd, Int.reduceSub, Nat.reduceLeDiff, Int.reduceLT, Int.reduceLE, Int.reduceEq, Int.reduceNeg, Int.reduceToNat, hy] | ((first | refine guardB_dec (fun hy => ?_) (fun hy => ?_) | refine guardB_bool (fun hy => ?_) (fun hy => ?_) | refine guardQ_ite (fun hy => ?_) (fun hy => ?_) | refine brQ_dec (fun hy => ?_) (fun hy => ?_) | refine brQ_bool (fun hy => ?_) (fun hy => ?_)) <;> (try simp only [Bool.not_eq_true', Bool.not_eq_false', Bool.and_eq_true, Bool.or_eq_false_iff, decide_eq_true_eq, decide_eq_false_iff_not] at hy)))
    exact ⟨_, by omega, k + 1, K', w', rfl, hlt, rfl, rfl, by rw [hms]; exact qa⟩
  · obtain rfl : k = c.names.length := by omega
    rw [List.take_length] at q2
    have hy := True.intro
    repeat' (first | simp (disch := first | rfl | omega | exact lt_new _ | assumption | decide | (simp [tk_here, tk_app, tk_0, tk_S, gr_here, gr_app, gr_0, gr_S] <;> omega) | fail) only [r14_0, r14_1, r14_2, r14_3, r14_4, r14_5, r14_7, r14_8, r14_9, r14_10, r14_12, r14_13, r14_14, r14_15, r14_17, c14, rs14, gc14, l14_6, loadV_ptr, storeV_ptr, List.append_assoc, List.length_append, List.length_cons, List.length_nil, List.set_cons_zero, List.set_cons_succ, tk_here, tk_app, gr_here, gr_app, st_here, st_app, t1, t2, t3, t4, Int.lt_irrefl, k11, k12, k13, k14, k15, k16, k17, k21, k22, k23, k24, k25, k26, k27, go_sem, ↓reduceIte, Nat.reduceLT, Nat.reduceEqDiff, Nat.reduceAdd, Nat.reduceMul, Nat.reduceSub, Int.reduceAdd, Int.reduceSub, Nat.reduceLeDiff, Int.reduceLT, Int.reduceLE, Int.reduceEq, Int.reduceNeg, Int.reduceToNat, hy] | ((first | refine guardB_dec (fun hy => ?_) (fun hy => ?_) | refine guardB_bool (fun hy => ?_) (fun hy => ?_) | refine guardQ_ite (fun hy => ?_) (fun hy => ?_) | refine brQ_dec (fun hy => ?_) (fun hy => ?_) | refine brQ_bool (fun hy => ?_) (fun hy => ?_)) <;> (try simp only [Bool.not_eq_true', Bool.not_eq_false', Bool.and_eq_true, Bool.or_eq_false_iff, decide_eq_true_eq, decide_eq_false_iff_not] at hy)))
    refine Wp_loop (fun m T D H' => ∃ k K w3, m = c.secrets.length - k ∧ k ≤ c.secrets.length ∧ D = [] ∧ H' = H ++ AB.row 0 (cpE.f c) true :: AB.row 0 [.str [], .nilslice, .nilslice, .nilslice, .nilslice] true :: (F ++ AB.row 0 [.str c.note, v1, w, w3, .nilslice] true :: K) ∧ get T 1 = .ptr H.length 0 0 ∧ get T 2 = .ptr (H.length + 1) 0 0 ∧ get T 3 = .ptr (H.length + (F.length + 1 + 1)) 0 0 ∧ get T 5 = .int .i64 k ∧ RowN nmE (H.length + 2 + F.length + 1) K w (c.names.map cnm) ∧ RowN scE (H.length + 2 + F.length + 1) K w3 ((c.secrets.take k).map csc)) ?_ c.secrets.length _ _ _ ?_
    case refine_2 => exact ⟨0, K, .nilslice, by simp (disch := first | rfl | omega | exact lt_new _ | assumption | decide | (simp [tk_here, tk_app, tk_0, tk_S, gr_here, gr_app, gr_0, gr_S] <;> omega) | fail) only [go_sem, ↓reduceIte, Nat.reduceLT, Nat.reduceEqDiff, Nat.reduceAdd, Nat.reduceMul, Nat.reduceSub, Int.reduceAdd, Int.reduceSub, Nat.reduceLeDiff, Int.reduceLT, Int.reduceLE, Int.reduceEq, Int.reduceNeg, Int.reduceToNat, t1, t2, t3]; exact ⟨Nat.zero_le _, q2, Or.inl ⟨rfl, rfl⟩⟩⟩
    clear t1 t2 t3 t4 q2
    rintro m T D H' ⟨k, K, w3, rfl, hk, rfl, rfl, t1, t2, t3, t5, q2, q3⟩
    obtain ⟨k31, k32, k33, k34, k35, k36, k37⟩ := q3.m.cell
    by_cases hlt : k < c.secrets.length
    · have hlt' : (k : Int) < c.secrets.length := by omega
      have hml : ((c.secrets.take k).map csc).length ≤ 2 ^ 30 := by simp; omega
      have hal := ha2 _ (scE.at_mem hlt)
      have hms := map_snoc scE csc hlt
      obtain ⟨x, hx⟩ : ∃ x, scE.at c.secrets k = x := ⟨_, rfl⟩
      rw [hx] at hal hms
      obtain ⟨w', K', ea, qa, hkp, hkl⟩ := push_row (E := scE) (w := 2) (by_ := 40) (A := H ++ AB.row 0 (cpE.f c) true :: AB.row 0 [.str [], .nilslice, .nilslice, .nilslice, .nilslice] true :: (F ++ [AB.row 0 [.str c.note, v1, w, w3, .nilslice] true])) (K := K) (by simp; omega) rfl q3 (csc x) (by omega) (by omega)
      simp only [List.append_assoc, List.cons_append, List.nil_append] at ea
      have ea2 : appOf 2 40 (H ++ AB.row 0 (cpE.f c) true :: AB.row 0 [.str [], .nilslice, .nilslice, .nilslice, .nilslice] true :: (F ++ AB.row 0 [.str c.note, v1, w, w3, .nilslice] true :: K)) w3 (.isl [.str x.label, slV true byE x.key] 1 2) = some (w', H ++ AB.row 0 (cpE.f c) true :: AB.row 0 [.str [], .nilslice, .nilslice, .nilslice, .nilslice] true :: (F ++ AB.row 0 [.str c.note, v1, w, w3, .nilslice] true :: K')) := ea
      obtain ⟨j11, j12, j13, j14, j15, j16, j17⟩ := qa.m.cell
      have hy := True.intro
      repeat' (first | simp (disch := first | rfl | omega | exact lt_new _ | assumption | decide | (simp [tk_here, tk_app, tk_0, tk_S, gr_here, gr_app, gr_0, gr_S] <;> omega) | fail) only [r14_0, r14_1, r14_2, r14_3, r14_4, r14_5, l14_6, r14_7, r14_8, r14_9, r14_10, l14_11, r14_12, r14_13, r14_14, r14_15, l14_16, r14_17, c14, rs14, gc14, loadV_ptr, storeV_ptr, List.append_assoc, List.length_append, List.length_cons, List.length_nil, List.set_cons_zero, List.set_cons_succ, tk_here, tk_app, gr_here, gr_app, st_here, st_app, t1, t2, t3, t5, hlt', hx, ea2, k11, k12, k13, k14, k15, k16, k17, k21, k22, k23, k24, k25, k26, k27, k31, k32, k33, k34, k35, k36, k37, j11, j12, j13, j14, j15, j16, j17, go_sem, ↓reduceIte, Nat.reduceLT, Nat.reduceEqDiff, Nat.reduceAdd, Nat.reduceMul, Nat.reduceSub, Int.reduceAdd, Int.reduceSub, Nat.reduceLeDiff, Int.reduceLT, Int.reduceLE, Int.reduceEq, Int.reduceNeg, Int.reduceToNat, hy] | ((first | refine guardB_dec (fun hy => ?_) (fun hy => ?_) | refine guardB_bool (fun hy => ?_) (fun hy => ?_) | refine guardQ_ite (fun hy => ?_) (fun hy => ?_) | refine brQ_dec (fun hy => ?_) (fun hy => ?_) | refine brQ_bool (fun hy => ?_) (fun hy => ?_)) <;> (try simp only [Bool.not_eq_true', Bool.not_eq_false', Bool.and_eq_true, Bool.or_eq_false_iff, decide_eq_true_eq, decide_eq_false_iff_not] at hy)))
      exact ⟨_, by omega, k + 1, K', w', rfl, hlt, rfl, rfl, q2.keep hkp hkl nm_sc, by rw [hms]; exact qa⟩
    · obtain rfl : k = c.secrets.length := by omega
      rw [List.take_length] at q3
      have hy := True.intro
      repeat' (first | simp (disch := first | rfl | omega | exact lt_new _ | assumption | decide | (simp [tk_here, tk_app, tk_0, tk_S, gr_here, gr_app, gr_0, gr_S] <;> omega) | fail) only [r14_0, r14_1, r14_2, r14_3, r14_4, r14_5, r14_7, r14_8, r14_9, r14_10, r14_12, r14_13, r14_14, r14_15, r14_17, c14, rs14, gc14, l14_11, loadV_ptr, storeV_ptr, List.append_assoc, List.length_append, List.length_cons, List.length_nil, List.set_cons_zero, List.set_cons_succ, tk_here, tk_app, gr_here, gr_app, st_here, st_app, t1, t2, t3, t5, Int.lt_irrefl, k11, k12, k13, k14, k15, k16, k17, k21, k22, k23, k24, k25, k26, k27, k31, k32, k33, k34, k35, k36, k37, go_sem, ↓reduceIte, Nat.reduceLT, Nat.reduceEqDiff, Nat.reduceAdd, Nat.reduceMul, Nat.reduceSub, Int.reduceAdd, Int.reduceSub, Nat.reduceLeDiff, Int.reduceLT, Int.reduceLE, Int.reduceEq, Int.reduceNeg, Int.reduceToNat, hy] | ((first | refine guardB_dec (fun hy => ?_) (fun hy => ?_) | refine guardB_bool (fun hy => ?_) (fun hy => ?_) | refine guardQ_ite (fun hy => ?_) (fun hy => ?_) | refine brQ_dec (fun hy => ?_) (fun hy => ?_) | refine brQ_bool (fun hy => ?_) (fun hy => ?_)) <;> (try simp only [Bool.not_eq_true', Bool.not_eq_false', Bool.and_eq_true, Bool.or_eq_false_iff, decide_eq_true_eq, decide_eq_false_iff_not] at hy)))
      refine Wp_loop (fun m T D H' => ∃ k K w4, m = c.packets.length - k ∧ k ≤ c.packets.length ∧ D = [] ∧ H' = H ++ AB.row 0 (cpE.f c) true :: AB.row 0 [.str [], .nilslice, .nilslice, .nilslice, .nilslice] true :: (F ++ AB.row 0 [.str c.note, v1, w, w3, w4] true :: K) ∧ get T 1 = .ptr H.length 0 0 ∧ get T 2 = .ptr (H.length + 1) 0 0 ∧ get T 3 = .ptr (H.length + (F.length + 1 + 1)) 0 0 ∧ get T 6 = .int .i64 k ∧ RowN nmE (H.length + 2 + F.length + 1) K w (c.names.map cnm) ∧ RowN scE (H.length + 2 + F.length + 1) K w3 (c.secrets.map csc) ∧ RowN pkE (H.length + 2 + F.length + 1) K w4 ((c.packets.take k).map cpk)) ?_ c.packets.length _ _ _ ?_
      case refine_2 => exact ⟨0, K, .nilslice, by simp (disch := first | rfl | omega | exact lt_new _ | assumption | decide | (simp [tk_here, tk_app, tk_0, tk_S, gr_here, gr_app, gr_0, gr_S] <;> omega) | fail) only [go_sem, ↓reduceIte, Nat.reduceLT, Nat.reduceEqDiff, Nat.reduceAdd, Nat.reduceMul, Nat.reduceSub, Int.reduceAdd, Int.reduceSub, Nat.reduceLeDiff, Int.reduceLT, Int.reduceLE, Int.reduceEq, Int.reduceNeg, Int.reduceToNat, t1, t2, t3]; exact ⟨Nat.zero_le _, q2, q3, Or.inl ⟨rfl, rfl⟩⟩⟩
      clear t1 t2 t3 t5 q2 q3
      rintro m T D H' ⟨k, K, w4, rfl, hk, rfl, rfl, t1, t2, t3, t6, q2, q3, q4⟩
      obtain ⟨k41, k42, k43, k44, k45, k46, k47⟩ := q4.m.cell
      by_cases hlt : k < c.packets.length
      · have hlt' : (k : Int) < c.packets.length := by omega
        have hml : ((c.packets.take k).map cpk).length ≤ 2 ^ 30 := by simp; omega
        have hal := ha3 _ (pkE.at_mem hlt)
        have hms := map_snoc pkE cpk hlt
        obtain ⟨x, hx⟩ : ∃ x, pkE.at c.packets k = x := ⟨_, rfl⟩
        rw [hx] at hal hms
        have h20 := fn20 x hal
        obtain ⟨w', K', ea, qa, hkp, hkl⟩ := push_row (E := pkE) (w := 5) (by_ := 64) (A := H ++ AB.row 0 (cpE.f c) true :: AB.row 0 [.str [], .nilslice, .nilslice, .nilslice, .nilslice] true :: (F ++ [AB.row 0 [.str c.note, v1, w, w3, w4] true])) (K := K) (by simp; omega) rfl q4 (cpk x) (by omega) (by omega)
        simp only [List.append_assoc, List.cons_append, List.nil_append] at ea
        obtain ⟨j11, j12, j13, j14, j15, j16, j17⟩ := qa.m.cell
        have hy := True.intro
        repeat' (first | simp (disch := first | rfl | omega | exact lt_new _ | assumption | decide | (simp [tk_here, tk_app, tk_0, tk_S, gr_here, gr_app, gr_0, gr_S] <;> omega) | fail) only [r14_0, r14_1, r14_2, r14_3, r14_4, r14_5, l14_6, r14_7, r14_8, r14_9, r14_10, l14_11, r14_12, r14_13, r14_14, r14_15, l14_16, r14_17, c14, rs14, gc14, loadV_ptr, storeV_ptr, List.append_assoc, List.length_append, List.length_cons, List.length_nil, List.set_cons_zero, List.set_cons_succ, tk_here, tk_app, gr_here, gr_app, st_here, st_app, t1, t2, t3, t6, hlt', hx, h20, ea, k11, k12, k13, k14, k15, k16, k17, k21, k22, k23, k24, k25, k26, k27, k31, k32, k33, k34, k35, k36, k37, k41, k42, k43, k44, k45, k46, k47, j11, j12, j13, j14, j15, j16, j17, go_sem, ↓reduceIte, Nat.reduceLT, Nat.reduceEqDiff, Nat.reduceAdd, Nat.reduceMul, Nat.reduceSub, Int.reduceAdd, Int.reduceSub, Nat.reduceLeDiff, Int.reduceLT, Int.reduceLE, Int.reduceEq, Int.reduceNeg, Int.reduceToNat, hy] | ((first | refine guardB_dec (fun hy => ?_) (fun hy => ?_) | refine guardB_bool (fun hy => ?_) (fun hy => ?_) | refine guardQ_ite (fun hy => ?_) (fun hy => ?_) | refine brQ_dec (fun hy => ?_) (fun hy => ?_) | refine brQ_bool (fun hy => ?_) (fun hy => ?_)) <;> (try simp only [Bool.not_eq_true', Bool.not_eq_false', Bool.and_eq_true, Bool.or_eq_false_iff, decide_eq_true_eq, decide_eq_false_iff_not] at hy)))
        exact ⟨_, by omega, k + 1, K', w', rfl, hlt, rfl, rfl, q2.keep hkp hkl nm_pk, q3.keep hkp hkl sc_pk, by rw [hms]; exact qa⟩
      · obtain rfl : k = c.packets.length := by omega
        rw [List.take_length] at q4
        have hy := True.intro
        repeat' (first | simp (disch := first | rfl | omega | exact lt_new _ | assumption | decide | (simp [tk_here, tk_app, tk_0, tk_S, gr_here, gr_app, gr_0, gr_S] <;> omega) | fail) only [r14_0, r14_1, r14_2, r14_3, r14_4, r14_5, l14_6, r14_7, r14_8, r14_9, r14_10, l14_11, r14_12, r14_13, r14_14, r14_15, l14_16, r14_17, c14, rs14, gc14, loadV_ptr, storeV_ptr, List.append_assoc, List.length_append, List.length_cons, List.length_nil, List.set_cons_zero, List.set_cons_succ, tk_here, tk_app, gr_here, gr_app, st_here, st_app, t1, t2, t3, t6, Int.lt_irrefl, k11, k12, k13, k14, k15, k16, k17, k21, k22, k23, k24, k25, k26, k27, k31, k32, k33, k34, k35, k36, k37, k41, k42, k43, k44, k45, k46, k47, go_sem, ↓reduceIte, Nat.reduceLT, Nat.reduceEqDiff, Nat.reduceAdd, Nat.reduceMul, Nat.reduceSub, Int.reduceAdd, Int.reduceSub, Nat.reduceLeDiff, Int.reduceLT, Int.reduceLE, Int.reduceEq, Int.reduceNeg, Int.reduceToNat, hy] | ((first | refine guardB_dec (fun hy => ?_) (fun hy => ?_) | refine guardB_bool (fun hy => ?_) (fun hy => ?_) | refine guardQ_ite (fun hy => ?_) (fun hy => ?_) | refine brQ_dec (fun hy => ?_) (fun hy => ?_) | refine brQ_bool (fun hy => ?_) (fun hy => ?_)) <;> (try simp only [Bool.not_eq_true', Bool.not_eq_false', Bool.and_eq_true, Bool.or_eq_false_iff, decide_eq_true_eq, decide_eq_false_iff_not] at hy)))
        have hpre : ∀ {α : Type} {E : Enc α} {v : V} {l : List α} {x y z : AB}, RowM E (H.length + 2 + F.length + 1) K v l → RowM E H.length (x :: y :: (F ++ z :: K)) v l := by
          intro α E v l x y z h
          have := RowM.pre (n := H.length) (x :: y :: (F ++ [z])) (by rw [show H.length + (x :: y :: (F ++ [z])).length = H.length + 2 + F.length + 1 by simp; omega]; exact h)
          simpa using this
        have hq1 : ∀ (x y : AB) (Z : Hp), RowM fcE H.length (x :: y :: (F ++ Z)) v1 c.faces := fun x y Z => by
          have := RowM.pre (n := H.length) [x, y] (q1.m.app Z)
          simpa using this
        exact ⟨v1, w, w3, w4, _, rfl, hq1 _ _ _, hpre q2.m, hpre q3.m, hpre q4.m⟩
end Go.Proofs.Ytdkeiaeaahpfdaa
/-
  The reference's Cut, walked; the statement's function 'CaptCuts'. No statement of the seat stands here.
-/
namespace Go.Proofs.Ytdkeiaeaahpfdaa
open Go Go.An
set_option maxRecDepth 4000
set_option linter.unusedSimpArgs false
set_option linter.unusedVariables false

theorem fc_pk {l : List Fc} {m : List Pk} (h : flatE fcE l = flatE pkE m) : l = [] := by
  cases l with
  | nil => rfl
  | cons p l =>
    rw [flatE_cons, fcE_f] at h
    exact absurd h.symm pk_row
theorem pk_fc {l : List Pk} {m : List Fc} (h0 : l ≠ []) : flatE pkE l ≠ flatE fcE m := by
  cases m with
  | nil => intro h; cases l with
    | nil => exact h0 rfl
    | cons p l => rw [flatE_cons, pkE_f] at h; cases h
  | cons q m => rw [flatE_cons (E := fcE), fcE_f]; exact pk_row
theorem pk_sc {l : List Pk} {m : List Sc} (h0 : l ≠ []) : flatE pkE l ≠ flatE scE m := by
  cases m with
  | nil => intro h; cases l with
    | nil => exact h0 rfl
    | cons p l => rw [flatE_cons, pkE_f] at h; cases h
  | cons q m => rw [flatE_cons (E := scE), scE_f]; exact pk_row
theorem pk_nm {l : List Pk} {m : List Nm} (h0 : l ≠ []) : flatE pkE l ≠ flatE nmE m := by
  cases m with
  | nil => intro h; cases l with
    | nil => exact h0 rfl
    | cons p l => rw [flatE_cons, pkE_f] at h; cases h
  | cons q m => exact fun h => nm_pk (by simp) h.symm
def refC (c : Cp) (n : Int) : Cp × Int := if valE c = 0 then (if n < 0 ∨ 400 < n then (noCp, 1) else (⟨c.note, true, c.faces.map (snF n), true, c.names.map cnm, true, c.secrets.map csc, true, (c.packets.map cpk).map (dtF n)⟩, 0)) else (noCp, valE c)
set_option maxHeartbeats 4000000 in
theorem fn16 (c : Cp) (hc : CpOk c) (n : Int) (H : Hp) : ∃ d, callL Try.prog pr 16 [.agg (cpE.f c), .int .i64 n] H = some (.tup [.agg (cpE.f d), .int .i64 (refC c n).2], H) ∧ CpEq d (refC c n).1 := by
  suffices h : ∃ r, callL Try.prog pr 16 [.agg (cpE.f c), .int .i64 n] H = some r ∧ ∃ d, r = (.tup [.agg (cpE.f d), .int .i64 (refC c n).2], H) ∧ CpEq d (refC c n).1 by
    obtain ⟨_, h1, d, rfl, h2⟩ := h; exact ⟨d, h1, h2⟩
  have hval := fn19 c hc
  refine ex16 (Nat.le_of_ble_eq_true rfl) ?_
  unfold refC
  by_cases hv : valE c = 0
  case neg =>
    rw [if_neg hv]
    have hy := True.intro
    repeat' (first | simp (disch := first | rfl | omega | exact lt_new _ | assumption | decide | (simp [tk_here, tk_app, tk_0, tk_S, gr_here, gr_app, gr_0, gr_S] <;> omega) | fail) only [r16_0, r16_1, r16_2, r16_3, r16_4, r16_5, r16_6, r16_7, r16_8, r16_9, r16_10, r16_11, r16_13, r16_14, r16_15, r16_16, r16_18, c16, rs16, gc16, loadV_ptr, storeV_ptr, List.append_assoc, List.length_append, List.length_cons, List.length_nil, List.set_cons_zero, List.set_cons_succ, tk_here, tk_app, gr_here, gr_app, st_here, st_app, hval, hv, go_sem, ↓reduceIte, Nat.reduceLT, Nat.reduceEqDiff, Nat.reduceAdd, Nat.reduceMul, Nat.reduceSub, Int.reduceAdd, Int.reduceSub, Nat.reduceLeDiff, Int.reduceLT, Int.reduceLE, Int.reduceEq, Int.reduceNeg, Int.reduceToNat, hy] | ((first | refine guardB_dec (fun hy => ?_) (fun hy => ?_) | refine guardB_bool (fun hy => ?_) (fun hy => ?_) | refine guardQ_ite (fun hy => ?_) (fun hy => ?_) | refine brQ_dec (fun hy => ?_) (fun hy => ?_) | refine brQ_bool (fun hy => ?_) (fun hy => ?_)) <;> (try simp only [Bool.not_eq_true', Bool.not_eq_false', Bool.and_eq_true, Bool.or_eq_false_iff, decide_eq_true_eq, decide_eq_false_iff_not] at hy)))
    exact ⟨noCp, finQ_app (by rw [noCp_f]; simp (disch := first | rfl | omega | exact lt_new _ | assumption | decide | (simp [tk_here, tk_app, tk_0, tk_S, gr_here, gr_app, gr_0, gr_S] <;> omega) | fail) only [go_sem, ↓reduceIte, Nat.reduceLT, Nat.reduceEqDiff, Nat.reduceAdd, Nat.reduceMul, Nat.reduceSub, Int.reduceAdd, Int.reduceSub, Nat.reduceLeDiff, Int.reduceLT, Int.reduceLE, Int.reduceEq, Int.reduceNeg, Int.reduceToNat]), CpEq.rfl' _⟩
  rw [if_pos hv]
  by_cases hn : n < 0 ∨ 400 < n
  · rw [if_pos hn]
    have hn2 : ¬ n < 0 → 400 < n := fun h => hn.resolve_left h
    have hy := True.intro
    repeat' (first | simp (disch := first | rfl | omega | exact lt_new _ | assumption | decide | (simp [tk_here, tk_app, tk_0, tk_S, gr_here, gr_app, gr_0, gr_S] <;> omega) | fail) only [r16_0, r16_1, r16_2, r16_3, r16_4, r16_5, r16_6, r16_7, r16_8, r16_9, r16_10, r16_11, r16_13, r16_14, r16_15, r16_16, r16_18, c16, rs16, gc16, loadV_ptr, storeV_ptr, List.append_assoc, List.length_append, List.length_cons, List.length_nil, List.set_cons_zero, List.set_cons_succ, tk_here, tk_app, gr_here, gr_app, st_here, st_app, hval, hv, hn2, go_sem, ↓reduceIte, Nat.reduceLT, Nat.reduceEqDiff, Nat.reduceAdd, Nat.reduceMul, Nat.reduceSub, Int.reduceAdd, Int.reduceSub, Nat.reduceLeDiff, Int.reduceLT, Int.reduceLE, Int.reduceEq, Int.reduceNeg, Int.reduceToNat, hy] | ((first | refine guardB_dec (fun hy => ?_) (fun hy => ?_) | refine guardB_bool (fun hy => ?_) (fun hy => ?_) | refine guardQ_ite (fun hy => ?_) (fun hy => ?_) | refine brQ_dec (fun hy => ?_) (fun hy => ?_) | refine brQ_bool (fun hy => ?_) (fun hy => ?_)) <;> (try simp only [Bool.not_eq_true', Bool.not_eq_false', Bool.and_eq_true, Bool.or_eq_false_iff, decide_eq_true_eq, decide_eq_false_iff_not] at hy)))
    all_goals exact ⟨noCp, finQ_app (by rw [noCp_f]; simp (disch := first | rfl | omega | exact lt_new _ | assumption | decide | (simp [tk_here, tk_app, tk_0, tk_S, gr_here, gr_app, gr_0, gr_S] <;> omega) | fail) only [go_sem, ↓reduceIte, Nat.reduceLT, Nat.reduceEqDiff, Nat.reduceAdd, Nat.reduceMul, Nat.reduceSub, Int.reduceAdd, Int.reduceSub, Nat.reduceLeDiff, Int.reduceLT, Int.reduceLE, Int.reduceEq, Int.reduceNeg, Int.reduceToNat]), CpEq.rfl' _⟩
  rw [if_neg hn]
  have n0 : ¬ n < 0 := fun h => hn (.inl h)
  have n1 : ¬ 400 < n := fun h => hn (.inr h)
  obtain ⟨_, ⟨l4, l3, l2, l1⟩, _⟩ := val_pk hv
  have hc0 : cpE.f c = [.str c.note, slV c.facesN fcE c.faces, slV c.namesN nmE c.names, slV c.secretsN scE c.secrets, slV c.packetsN pkE c.packets] := rfl
  obtain ⟨v1, v2, v3, v4, L, e, q1, q2, q3, q4⟩ := fn14 c (val_S hv) (H ++ [.row 0 [.str [], .nilslice, .nilslice, .nilslice, .nilslice] true])
  rw [show (H ++ [AB.row 0 [.str [], .nilslice, .nilslice, .nilslice, .nilslice] true]).length = H.length + 1 by simp] at q1 q2 q3 q4
  obtain ⟨k11, k12, k13, k14, k15, k16, k17⟩ := q1.cell
  obtain ⟨k21, k22, k23, k24, k25, k26, k27⟩ := q2.cell
  obtain ⟨k31, k32, k33, k34, k35, k36, k37⟩ := q3.cell
  obtain ⟨k41, k42, k43, k44, k45, k46, k47⟩ := q4.cell
  obtain ⟨ps, hps⟩ : ∃ ps, c.packets.map cpk = ps := ⟨_, rfl⟩
  have hpsl : ps.length = c.packets.length := by rw [← hps]; simp
  have hpd : ∀ p ∈ ps, p.data.length ≤ 400 := by
    intro p hp
    rw [← hps] at hp
    obtain ⟨q, hq, rfl⟩ := List.mem_map.1 hp
    have := pf_pk ((val_pk hv).1 q hq)
    show q.data.length ≤ 400
    omega
  rw [hps] at q4 ⊢
  have m1 := fun H' => q1.len (P := Try.prog) (t := 22) (z := 3) (by kernel_rfl) H'
  have m4 := fun H' => q4.len (P := Try.prog) (t := 25) (z := 5) (by kernel_rfl) H'
  have hy := True.intro
  repeat' (first | simp (disch := first | rfl | omega | exact lt_new _ | assumption | decide | (simp [tk_here, tk_app, tk_0, tk_S, gr_here, gr_app, gr_0, gr_S] <;> omega) | fail) only [r16_0, r16_1, r16_2, r16_3, r16_4, r16_5, r16_6, r16_7, r16_8, r16_9, r16_10, r16_11, r16_13, r16_14, r16_15, r16_16, r16_18, c16, rs16, gc16, loadV_ptr, storeV_ptr, List.append_assoc, List.length_append, List.length_cons, List.length_nil, List.set_cons_zero, List.set_cons_succ, tk_here, tk_app, gr_here, gr_app, st_here, st_app, hval, hv, n0, n1, e, m1, k11, k12, k13, k14, k15, k16, k17, k21, k22, k23, k24, k25, k26, k27, k31, k32, k33, k34, k35, k36, k37, k41, k42, k43, k44, k45, k46, k47, go_sem, ↓reduceIte, Nat.reduceLT, Nat.reduceEqDiff, Nat.reduceAdd, Nat.reduceMul, Nat.reduceSub, Int.reduceAdd, Int.reduceSub, Nat.reduceLeDiff, Int.reduceLT, Int.reduceLE, Int.reduceEq, Int.reduceNeg, Int.reduceToNat, hy] | ((first | refine guardB_dec (fun hy => ?_) (fun hy => ?_) | refine guardB_bool (fun hy => ?_) (fun hy => ?_) | refine guardQ_ite (fun hy => ?_) (fun hy => ?_) | refine brQ_dec (fun hy => ?_) (fun hy => ?_) | refine brQ_bool (fun hy => ?_) (fun hy => ?_)) <;> (try simp only [Bool.not_eq_true', Bool.not_eq_false', Bool.and_eq_true, Bool.or_eq_false_iff, decide_eq_true_eq, decide_eq_false_iff_not] at hy)))
  refine Wp_loop (fun m T D H' => ∃ k L', m = c.faces.length - k ∧ k ≤ c.faces.length ∧ D = [] ∧ H' = H ++ AB.row 0 [.str [], .nilslice, .nilslice, .nilslice, .nilslice] true :: (L' ++ [AB.row 0 [.str c.note, v1, v2, v3, v4] true]) ∧ get T 1 = .int .i64 n ∧ get T 4 = .ptr H.length 0 0 ∧ get T 7 = .ptr (H.length + (L'.length + 1)) 0 0 ∧ get T 8 = .int .i64 k ∧ RowM fcE (H.length + 1) L' v1 (mix (snF n) c.faces k) ∧ RowM nmE (H.length + 1) L' v2 (c.names.map cnm) ∧ RowM scE (H.length + 1) L' v3 (c.secrets.map csc) ∧ RowM pkE (H.length + 1) L' v4 ps) ?_ c.faces.length _ _ _ ?_
  case refine_2 => exact ⟨0, L, by simp (disch := first | rfl | omega | exact lt_new _ | assumption | decide | (simp [tk_here, tk_app, tk_0, tk_S, gr_here, gr_app, gr_0, gr_S] <;> omega) | fail) only [go_sem, ↓reduceIte, Nat.reduceLT, Nat.reduceEqDiff, Nat.reduceAdd, Nat.reduceMul, Nat.reduceSub, Int.reduceAdd, Int.reduceSub, Nat.reduceLeDiff, Int.reduceLT, Int.reduceLE, Int.reduceEq, Int.reduceNeg, Int.reduceToNat]; simp [mix_0, q1, q2, q3, q4]⟩
  rintro m T D H' ⟨k, L', rfl, hk', rfl, rfl, t1, t4, t7, t8, r1, r2, r3, r4⟩
  by_cases hlt : k < c.faces.length
  · have hlt' : (k : Int) < c.faces.length := by omega
    rcases RowM.inc r1 with ⟨_, hnil⟩ | ⟨j, g, hv1, hj, hr⟩
    · have := congrArg List.length hnil
      rw [mix_len] at this
      rw [this] at hlt
      exact absurd hlt (Nat.not_lt_zero _)
    rw [mix_len] at hv1
    have hlm : k < (mix (snF n) c.faces k).length := by rw [mix_len]; exact hlt
    obtain ⟨f, hf⟩ : ∃ f, fcE.at c.faces k = f := ⟨_, rfl⟩
    have p2 : partV Try.prog 3 (flatE fcE (mix (snF n) c.faces k)) (k * 3 + 2) = some (.int .i64 f.snap) := by
      rw [← hf, ← mix_at fcE (snF n) hlt]
      exact ld_fcE_2 (H := H) hlm
    have hfl : (flatE fcE (mix (snF n) c.faces k)).length = c.faces.length * 3 := by rw [flatE_len, mix_len]; rfl
    have hle : k * 3 + 2 + 1 ≤ c.faces.length * 3 := by omega
    subst hv1
    by_cases hs : f.snap = 0 ∨ n < f.snap
    · have hsn : snF n f = {f with snap := n} := if_pos hs
      have hs2 : ¬ f.snap = 0 → n < f.snap := fun h => hs.resolve_left h
      have hset : setAt (flatE fcE (mix (snF n) c.faces k)) (k * 3 + 2) [.int .i64 n] = flatE fcE (mix (snF n) c.faces (k + 1)) := by
        have := flatE_at_set (E := fcE) (l := mix (snF n) c.faces k) (i := k) (j := 2) (v := .int .i64 n) (x := snF n (fcE.at c.faces k)) hlm (by decide) (by rw [mix_at fcE (snF n) hlt, hf, hsn]; rfl)
        rw [mix_set fcE (snF n) hlt] at this
        exact this
      have hne : flatE fcE (mix (snF n) c.faces k) ≠ [] := by
        intro h
        rw [h] at hfl
        simp at hfl
        omega
      have hy := True.intro
      repeat' (first | simp (disch := first | rfl | omega | exact lt_new _ | assumption | decide | (simp [tk_here, tk_app, tk_0, tk_S, gr_here, gr_app, gr_0, gr_S] <;> omega) | fail) only [r16_0, r16_1, r16_2, r16_3, r16_4, r16_5, r16_6, r16_7, r16_8, r16_9, r16_10, r16_11, l16_12, r16_13, r16_14, r16_15, r16_16, l16_17, r16_18, c16, rs16, gc16, loadV_ptr, storeV_ptr, List.append_assoc, List.length_append, List.length_cons, List.length_nil, List.set_cons_zero, List.set_cons_succ, tk_here, tk_app, gr_here, gr_app, st_here, st_app, gr_l hj, st_l hj, hr, t1, t4, t7, t8, hlt', m1, p2, hs2, hfl, hle, hset, go_sem, ↓reduceIte, Nat.reduceLT, Nat.reduceEqDiff, Nat.reduceAdd, Nat.reduceMul, Nat.reduceSub, Int.reduceAdd, Int.reduceSub, Nat.reduceLeDiff, Int.reduceLT, Int.reduceLE, Int.reduceEq, Int.reduceNeg, Int.reduceToNat, hy] | ((first | refine guardB_dec (fun hy => ?_) (fun hy => ?_) | refine guardB_bool (fun hy => ?_) (fun hy => ?_) | refine guardQ_ite (fun hy => ?_) (fun hy => ?_) | refine brQ_dec (fun hy => ?_) (fun hy => ?_) | refine brQ_bool (fun hy => ?_) (fun hy => ?_)) <;> (try simp only [Bool.not_eq_true', Bool.not_eq_false', Bool.and_eq_true, Bool.or_eq_false_iff, decide_eq_true_eq, decide_eq_false_iff_not] at hy)))
      all_goals
        refine ⟨_, by omega, k + 1, L'.set j (.row g (flatE fcE (mix (snF n) c.faces (k + 1))) true), rfl, hlt, rfl, by simp, rfl, Or.inr ⟨j, g, by rw [mix_len]; congr 1; omega, by simpa using hj, by simp [getRow, hj]⟩, ?_, ?_, ?_⟩
        · exact RowM.setX r2 hr (fun h => hne (by rw [h]; rw [fc_nm h] at h; exact h.symm)) _
        · exact RowM.setX r3 hr (fun h => hne (by rw [h]; rw [fc_sc h] at h; exact h.symm)) _
        · exact RowM.setX r4 hr (fun h => hne (by rw [h]; rw [fc_pk h] at h; exact h.symm)) _
    · have hsn : snF n f = f := if_neg hs
      have s1 : ¬ f.snap = 0 := fun h => hs (.inl h)
      have s2 : ¬ n < f.snap := fun h => hs (.inr h)
      have hmx : mix (snF n) c.faces (k + 1) = mix (snF n) c.faces k := mix_same fcE _ hlt (by rw [hf]; exact hsn)
      have hy := True.intro
      repeat' (first | simp (disch := first | rfl | omega | exact lt_new _ | assumption | decide | (simp [tk_here, tk_app, tk_0, tk_S, gr_here, gr_app, gr_0, gr_S] <;> omega) | fail) only [r16_0, r16_1, r16_2, r16_3, r16_4, r16_5, r16_6, r16_7, r16_8, r16_9, r16_10, r16_11, l16_12, r16_13, r16_14, r16_15, r16_16, l16_17, r16_18, c16, rs16, gc16, loadV_ptr, storeV_ptr, List.append_assoc, List.length_append, List.length_cons, List.length_nil, List.set_cons_zero, List.set_cons_succ, tk_here, tk_app, gr_here, gr_app, st_here, st_app, gr_l hj, st_l hj, hr, t1, t4, t7, t8, hlt', m1, p2, s1, s2, go_sem, ↓reduceIte, Nat.reduceLT, Nat.reduceEqDiff, Nat.reduceAdd, Nat.reduceMul, Nat.reduceSub, Int.reduceAdd, Int.reduceSub, Nat.reduceLeDiff, Int.reduceLT, Int.reduceLE, Int.reduceEq, Int.reduceNeg, Int.reduceToNat, hy] | ((first | refine guardB_dec (fun hy => ?_) (fun hy => ?_) | refine guardB_bool (fun hy => ?_) (fun hy => ?_) | refine guardQ_ite (fun hy => ?_) (fun hy => ?_) | refine brQ_dec (fun hy => ?_) (fun hy => ?_) | refine brQ_bool (fun hy => ?_) (fun hy => ?_)) <;> (try simp only [Bool.not_eq_true', Bool.not_eq_false', Bool.and_eq_true, Bool.or_eq_false_iff, decide_eq_true_eq, decide_eq_false_iff_not] at hy)))
      exact ⟨_, by omega, k + 1, L', rfl, hlt, rfl, rfl, rfl, by rw [hmx]; exact Or.inr ⟨j, g, by rw [mix_len]; congr 1; omega, hj, hr⟩, r2, r3, r4⟩
  · obtain rfl : k = c.faces.length := by omega
    rw [mix_all] at r1
    have m4 := fun H' => r4.len (P := Try.prog) (t := 25) (z := 5) (by kernel_rfl) H'
    have hy := True.intro
    repeat' (first | simp (disch := first | rfl | omega | exact lt_new _ | assumption | decide | (simp [tk_here, tk_app, tk_0, tk_S, gr_here, gr_app, gr_0, gr_S] <;> omega) | fail) only [r16_0, r16_1, r16_2, r16_3, r16_4, r16_5, r16_6, r16_7, r16_8, r16_9, r16_10, r16_11, r16_13, r16_14, r16_15, r16_16, r16_18, c16, rs16, gc16, l16_12, loadV_ptr, storeV_ptr, List.append_assoc, List.length_append, List.length_cons, List.length_nil, List.set_cons_zero, List.set_cons_succ, tk_here, tk_app, gr_here, gr_app, st_here, st_app, t1, t4, t7, t8, m1, Int.lt_irrefl, m4, k11, k12, k13, k14, k15, k16, k17, k21, k22, k23, k24, k25, k26, k27, k31, k32, k33, k34, k35, k36, k37, k41, k42, k43, k44, k45, k46, k47, go_sem, ↓reduceIte, Nat.reduceLT, Nat.reduceEqDiff, Nat.reduceAdd, Nat.reduceMul, Nat.reduceSub, Int.reduceAdd, Int.reduceSub, Nat.reduceLeDiff, Int.reduceLT, Int.reduceLE, Int.reduceEq, Int.reduceNeg, Int.reduceToNat, hy] | ((first | refine guardB_dec (fun hy => ?_) (fun hy => ?_) | refine guardB_bool (fun hy => ?_) (fun hy => ?_) | refine guardQ_ite (fun hy => ?_) (fun hy => ?_) | refine brQ_dec (fun hy => ?_) (fun hy => ?_) | refine brQ_bool (fun hy => ?_) (fun hy => ?_)) <;> (try simp only [Bool.not_eq_true', Bool.not_eq_false', Bool.and_eq_true, Bool.or_eq_false_iff, decide_eq_true_eq, decide_eq_false_iff_not] at hy)))
    refine Wp_loop (fun m T D H' => ∃ k Y, m = ps.length - k ∧ k ≤ ps.length ∧ D = [] ∧ H' = H ++ AB.row 0 [.str [], .nilslice, .nilslice, .nilslice, .nilslice] true :: (Y ++ [AB.row 0 [.str c.note, v1, v2, v3, v4] true]) ∧ get T 1 = .int .i64 n ∧ get T 4 = .ptr H.length 0 0 ∧ get T 7 = .ptr (H.length + (Y.length + 1)) 0 0 ∧ get T 9 = .int .i64 k ∧ RowM fcE (H.length + 1) Y v1 (c.faces.map (snF n)) ∧ RowM nmE (H.length + 1) Y v2 (c.names.map cnm) ∧ RowM scE (H.length + 1) Y v3 (c.secrets.map csc) ∧ RowM pkE (H.length + 1) Y v4 (mix (dtF n) ps k)) ?_ ps.length _ _ _ ?_
    case refine_2 => exact ⟨0, L', by simp (disch := first | rfl | omega | exact lt_new _ | assumption | decide | (simp [tk_here, tk_app, tk_0, tk_S, gr_here, gr_app, gr_0, gr_S] <;> omega) | fail) only [go_sem, ↓reduceIte, Nat.reduceLT, Nat.reduceEqDiff, Nat.reduceAdd, Nat.reduceMul, Nat.reduceSub, Int.reduceAdd, Int.reduceSub, Nat.reduceLeDiff, Int.reduceLT, Int.reduceLE, Int.reduceEq, Int.reduceNeg, Int.reduceToNat, t1, t4, t7]; simp [mix_0, r1, r2, r3, r4, t1, t4, t7]⟩
    clear t1 t4 t7 t8 r1 r2 r3 r4
    rintro m T D H' ⟨k, Y, rfl, hk', rfl, rfl, t1, t4, t7, t9, r1, r2, r3, r4⟩
    by_cases hlt : k < ps.length
    · have hlt' : (k : Int) < ps.length := by omega
      rcases RowM.inc r4 with ⟨_, hnil⟩ | ⟨j, g, hv4, hj, hr⟩
      · have := congrArg List.length hnil
        rw [mix_len] at this
        rw [this] at hlt
        exact absurd hlt (Nat.not_lt_zero _)
      rw [mix_len] at hv4
      have hlm : k < (mix (dtF n) ps k).length := by rw [mix_len]; exact hlt
      obtain ⟨p, hp⟩ : ∃ p, pkE.at ps k = p := ⟨_, rfl⟩
      have hpl : p.data.length ≤ 400 := by rw [← hp]; exact hpd _ (pkE.at_mem hlt)
      have p3 : partV Try.prog 34 (flatE pkE (mix (dtF n) ps k)) (k * 5 + 3) = some (slV p.dataN byE p.data) := by
        rw [← hp, ← mix_at pkE (dtF n) hlt]
        exact ld_pkE_3 (H := H) hlm
      have hfl : (flatE pkE (mix (dtF n) ps k)).length = ps.length * 5 := by rw [flatE_len, mix_len]; rfl
      have hle : k * 5 + 3 + 1 ≤ ps.length * 5 := by omega
      have hmin : (if (p.data.length : Int) < n then (p.data.length : Int) else n) = ((min n.toNat p.data.length : Nat) : Int) := by split <;> omega
      have hct : ∀ H, sliceV Try.prog 34 H (slV p.dataN byE p.data) none (some (.int .i64 ((min n.toNat p.data.length : Nat) : Int))) = some (slV (dtF n p).dataN byE (dtF n p).data) := fun H => by
        rw [lo34, ct34 rfl ⟨by omega, by omega, by omega⟩]
        unfold dtF
        simp only [Int.toNat_natCast]
        rw [show Int.toNat 0 = 0 from rfl, Nat.sub_zero, List.drop_zero, ← List.take_eq_take_min]
      have hset : setAt (flatE pkE (mix (dtF n) ps k)) (k * 5 + 3) [slV (dtF n p).dataN byE (dtF n p).data] = flatE pkE (mix (dtF n) ps (k + 1)) := by
        have := flatE_at_set (E := pkE) (l := mix (dtF n) ps k) (i := k) (j := 3) (v := slV (dtF n p).dataN byE (dtF n p).data) (x := dtF n (pkE.at ps k)) hlm (by decide) (by rw [mix_at pkE (dtF n) hlt, hp]; rfl)
        rw [mix_set pkE (dtF n) hlt] at this
        exact this
      have hne : mix (dtF n) ps k ≠ [] := by
        intro h
        rw [h] at hlm
        simp at hlm
      subst hv4
      have hy := True.intro
      repeat' (first | simp (disch := first | rfl | omega | exact lt_new _ | assumption | decide | (simp [tk_here, tk_app, tk_0, tk_S, gr_here, gr_app, gr_0, gr_S] <;> omega) | fail) only [r16_0, r16_1, r16_2, r16_3, r16_4, r16_5, r16_6, r16_7, r16_8, r16_9, r16_10, r16_11, l16_12, r16_13, r16_14, r16_15, r16_16, l16_17, r16_18, c16, rs16, gc16, loadV_ptr, storeV_ptr, List.append_assoc, List.length_append, List.length_cons, List.length_nil, List.set_cons_zero, List.set_cons_succ, tk_here, tk_app, gr_here, gr_app, st_here, st_app, gr_l hj, st_l hj, hr, t1, t4, t7, t9, hlt', m4, p3, hmin, hct, hfl, hle, hset, go_sem, ↓reduceIte, Nat.reduceLT, Nat.reduceEqDiff, Nat.reduceAdd, Nat.reduceMul, Nat.reduceSub, Int.reduceAdd, Int.reduceSub, Nat.reduceLeDiff, Int.reduceLT, Int.reduceLE, Int.reduceEq, Int.reduceNeg, Int.reduceToNat, hy] | ((first | refine guardB_dec (fun hy => ?_) (fun hy => ?_) | refine guardB_bool (fun hy => ?_) (fun hy => ?_) | refine guardQ_ite (fun hy => ?_) (fun hy => ?_) | refine brQ_dec (fun hy => ?_) (fun hy => ?_) | refine brQ_bool (fun hy => ?_) (fun hy => ?_)) <;> (try simp only [Bool.not_eq_true', Bool.not_eq_false', Bool.and_eq_true, Bool.or_eq_false_iff, decide_eq_true_eq, decide_eq_false_iff_not] at hy)))
      exact ⟨_, by omega, k + 1, Y.set j (.row g (flatE pkE (mix (dtF n) ps (k + 1))) true), rfl, hlt, rfl, by simp, rfl, RowM.setX r1 hr (pk_fc hne) _, RowM.setX r2 hr (pk_nm hne) _, RowM.setX r3 hr (pk_sc hne) _, Or.inr ⟨j, g, by rw [mix_len]; congr 1; omega, by simpa using hj, by simp [getRow, hj]⟩⟩
    · obtain rfl : k = ps.length := by omega
      rw [mix_all] at r4
      have hy := True.intro
      repeat' (first | simp (disch := first | rfl | omega | exact lt_new _ | assumption | decide | (simp [tk_here, tk_app, tk_0, tk_S, gr_here, gr_app, gr_0, gr_S] <;> omega) | fail) only [r16_0, r16_1, r16_2, r16_3, r16_4, r16_5, r16_6, r16_7, r16_8, r16_9, r16_10, r16_11, l16_12, r16_13, r16_14, r16_15, r16_16, l16_17, r16_18, c16, rs16, gc16, loadV_ptr, storeV_ptr, List.append_assoc, List.length_append, List.length_cons, List.length_nil, List.set_cons_zero, List.set_cons_succ, tk_here, tk_app, gr_here, gr_app, st_here, st_app, t1, t4, t7, t9, m4, Int.lt_irrefl, k11, k12, k13, k14, k15, k16, k17, k21, k22, k23, k24, k25, k26, k27, k31, k32, k33, k34, k35, k36, k37, k41, k42, k43, k44, k45, k46, k47, go_sem, ↓reduceIte, Nat.reduceLT, Nat.reduceEqDiff, Nat.reduceAdd, Nat.reduceMul, Nat.reduceSub, Int.reduceAdd, Int.reduceSub, Nat.reduceLeDiff, Int.reduceLT, Int.reduceLE, Int.reduceEq, Int.reduceNeg, Int.reduceToNat, hy] | ((first | refine guardB_dec (fun hy => ?_) (fun hy => ?_) | refine guardB_bool (fun hy => ?_) (fun hy => ?_) | refine guardQ_ite (fun hy => ?_) (fun hy => ?_) | refine brQ_dec (fun hy => ?_) (fun hy => ?_) | refine brQ_bool (fun hy => ?_) (fun hy => ?_)) <;> (try simp only [Bool.not_eq_true', Bool.not_eq_false', Bool.and_eq_true, Bool.or_eq_false_iff, decide_eq_true_eq, decide_eq_false_iff_not] at hy)))
      have hin : ∀ {α : Type} {E : Enc α} {v : V} {l : List α}, RowM E (H.length + 1) Y v l → ∀ A Z, ∃ b, inlC H.length (H ++ A :: (Y ++ [Z])) 8 v = some (slV b E l) := by
        intro α E v l h A Z
        obtain ⟨b, i⟩ := RowM.inl (f := 6) (A := H) (m := H.length) (RowM.pre [A] (h.app [Z])) rfl (Nat.le_refl _)
        simp only [List.cons_append, List.nil_append, List.append_assoc] at i
        exact ⟨b, i⟩
      obtain ⟨b1, i1⟩ := hin r1 (AB.row 0 [.str c.note, v1, v2, v3, v4] true) (AB.row 0 [.str c.note, v1, v2, v3, v4] true)
      obtain ⟨b2, i2⟩ := hin r2 (AB.row 0 [.str c.note, v1, v2, v3, v4] true) (AB.row 0 [.str c.note, v1, v2, v3, v4] true)
      obtain ⟨b3, i3⟩ := hin r3 (AB.row 0 [.str c.note, v1, v2, v3, v4] true) (AB.row 0 [.str c.note, v1, v2, v3, v4] true)
      obtain ⟨b4, i4⟩ := hin r4 (AB.row 0 [.str c.note, v1, v2, v3, v4] true) (AB.row 0 [.str c.note, v1, v2, v3, v4] true)
      refine ⟨⟨c.note, b1, c.faces.map (snF n), b2, c.names.map cnm, b3, c.secrets.map csc, b4, ps.map (dtF n)⟩, finQ_app ?_, rfl, rfl, rfl, rfl, rfl⟩
      simp (disch := first | rfl | omega | exact lt_new _ | assumption | decide | (simp [tk_here, tk_app, tk_0, tk_S, gr_here, gr_app, gr_0, gr_S] <;> omega) | fail) only [go_sem, ↓reduceIte, Nat.reduceLT, Nat.reduceEqDiff, Nat.reduceAdd, Nat.reduceMul, Nat.reduceSub, Int.reduceAdd, Int.reduceSub, Nat.reduceLeDiff, Int.reduceLT, Int.reduceLE, Int.reduceEq, Int.reduceNeg, Int.reduceToNat, i1, i2, i3, i4, cpE_f]
theorem sameL_map {α β : Type} {S : α → α → Bool} {f g : β → α} (h : ∀ x, S (f x) (g x) = true) : ∀ l : List β, sameL S (l.map f) (l.map g) = true
  | [] => rfl
  | x :: xs => by simp only [List.map_cons, sameL, h, sameL_map h xs, Bool.true_and]
theorem sameL_refl {α : Type} {S : α → α → Bool} (h : ∀ x, S x x = true) (l : List α) : sameL S l l = true := by
  have := sameL_map (f := id) (g := id) h l
  simpa using this
theorem same_cut (c : Cp) (n : Int) : sameB (cutF c n).1 (refC c n).1 = true ∧ (cutF c n).2 = (refC c n).2 := by
  have h0 : sameB noCp noCp = true := by decide
  unfold cutF refC
  split
  · split
    · exact ⟨h0, rfl⟩
    · refine ⟨?_, rfl⟩
      unfold sameB
      have e1 : sameL nmS c.names (c.names.map cnm) = true := by
        have := sameL_map (S := nmS) (f := id) (g := cnm) (fun x => by simp [nmS, cnm]) c.names
        simpa using this
      have e2 : sameL scS c.secrets (c.secrets.map csc) = true := by
        have := sameL_map (S := scS) (f := id) (g := csc) (fun x => by simp [scS, csc]) c.secrets
        simpa using this
      have e3 : sameL pkS (c.packets.map (dtF n)) ((c.packets.map cpk).map (dtF n)) = true := by
        rw [List.map_map]
        exact sameL_map (fun x => by simp [pkS, dtF, cpk]) c.packets
      rw [e1, e2, e3, sameL_refl (by simp [fcS])]
      simp
  · exact ⟨h0, rfl⟩
theorem sameB_congr' {a b c d : Cp} (h1 : CpEq a c) (h2 : CpEq b d) : sameB a b = sameB c d := by
  obtain ⟨a1, a2, a3, a4, a5⟩ := h1
  obtain ⟨b1, b2, b3, b4, b5⟩ := h2
  unfold sameB
  rw [a1, a2, a3, a4, a5, b1, b2, b3, b4, b5]
theorem CpEq.fits {a d : Cp} (h : CpEq a d) (hd : Fits d) : Fits a := by
  obtain ⟨h1, h2, h3, h4, h5⟩ := h
  unfold Fits
  rw [h2, h3, h4, h5]
  exact hd
theorem noFits : Fits noCp := ⟨by decide, by decide, by decide, by decide⟩
theorem cutFits {c : Cp} (hc : CpOk c) (n : Int) : Fits (cutF c n).1 := by
  obtain ⟨h1, h2, h3, h4⟩ := hc.fits
  unfold cutF
  split
  · split
    · exact noFits
    · exact ⟨by simpa using h1, h2, h3, by simpa using h4⟩
  · exact noFits
theorem fn6 (c : Cp) (hc : CpOk c) (H : Hp) : ∃ b, callL Try.prog pr 6 [.agg (cpE.f c)] H = some (.bool b, H) := by
  suffices h : ∃ r, callL Try.prog pr 6 [.agg (cpE.f c)] H = some r ∧ ∃ b, r = (.bool b, H) by
    obtain ⟨_, h1, b, rfl⟩ := h; exact ⟨b, h1⟩
  obtain ⟨n, h17⟩ : ∃ n : Hp → Int, ∀ H, callL Try.prog pr 17 [.agg (cpE.f c)] H = some (.int .i64 (n H), H) := ⟨fun H => (fn17 c hc H).choose, fun H => (fn17 c hc H).choose_spec⟩
  refine ex6 (Nat.le_of_ble_eq_true rfl) ?_
  have hy := True.intro
  repeat' (first | simp (disch := first | rfl | omega | exact lt_new _ | assumption | decide | (simp [tk_here, tk_app, tk_0, tk_S, gr_here, gr_app, gr_0, gr_S] <;> omega) | fail) only [r6_0, r6_1, c6, rs6, gc6, loadV_ptr, storeV_ptr, List.append_assoc, List.length_append, List.length_cons, List.length_nil, List.set_cons_zero, List.set_cons_succ, tk_here, tk_app, gr_here, gr_app, st_here, st_app, h17, go_sem, ↓reduceIte, Nat.reduceLT, Nat.reduceEqDiff, Nat.reduceAdd, Nat.reduceMul, Nat.reduceSub, Int.reduceAdd, Int.reduceSub, Nat.reduceLeDiff, Int.reduceLT, Int.reduceLE, Int.reduceEq, Int.reduceNeg, Int.reduceToNat, hy] | ((first | refine guardB_dec (fun hy => ?_) (fun hy => ?_) | refine guardB_bool (fun hy => ?_) (fun hy => ?_) | refine guardQ_ite (fun hy => ?_) (fun hy => ?_) | refine brQ_dec (fun hy => ?_) (fun hy => ?_) | refine brQ_bool (fun hy => ?_) (fun hy => ?_)) <;> (try simp only [Bool.not_eq_true', Bool.not_eq_false', Bool.and_eq_true, Bool.or_eq_false_iff, decide_eq_true_eq, decide_eq_false_iff_not] at hy)))
  exact ⟨_, finQ_app (by simp (disch := first | rfl | omega | exact lt_new _ | assumption | decide | (simp [tk_here, tk_app, tk_0, tk_S, gr_here, gr_app, gr_0, gr_S] <;> omega) | fail) only [go_sem, ↓reduceIte, Nat.reduceLT, Nat.reduceEqDiff, Nat.reduceAdd, Nat.reduceMul, Nat.reduceSub, Int.reduceAdd, Int.reduceSub, Nat.reduceLeDiff, Int.reduceLT, Int.reduceLE, Int.reduceEq, Int.reduceNeg, Int.reduceToNat]; rfl)⟩
set_option maxHeartbeats 1000000 in
theorem fn5 (c : Cp) (hc : CpOk c) (n : Int) (H : Hp) : callL Try.prog pr 5 [.agg (cpE.f c), .int .i64 n] H = some (.bool true, H) := by
  obtain ⟨b, h6⟩ : ∃ b : Hp → Bool, ∀ H, callL Try.prog pr 6 [.agg (cpE.f c)] H = some (.bool (b H), H) := ⟨fun H => (fn6 c hc H).choose, fun H => (fn6 c hc H).choose_spec⟩
  obtain ⟨d1, h1⟩ : ∃ d : Hp → Cp, ∀ H, callL Try.prog pr 15 [.agg (cpE.f c), .int .i64 n] H = some (.tup [.agg (cpE.f (d H)), .int .i64 (cutF c n).2], H) ∧ CpEq (d H) (cutF c n).1 := ⟨fun H => (fn15 c hc n H).choose, fun H => (fn15 c hc n H).choose_spec⟩
  obtain ⟨d2, h2⟩ : ∃ d : Hp → Cp, ∀ H, callL Try.prog pr 16 [.agg (cpE.f c), .int .i64 n] H = some (.tup [.agg (cpE.f (d H)), .int .i64 (refC c n).2], H) ∧ CpEq (d H) (refC c n).1 := ⟨fun H => (fn16 c hc n H).choose, fun H => (fn16 c hc n H).choose_spec⟩
  have s12 : ∀ H1 H2 H, callL Try.prog pr 10 [.agg (cpE.f (d1 H1)), .agg (cpE.f (d2 H2))] H = some (.bool true, H) := fun H1 H2 H => by
    rw [fn10 _ _ ((h1 H1).2.fits (cutFits hc n)), sameB_congr' (h1 H1).2 (h2 H2).2, (same_cut c n).1]
  have e1 := fun H => (h1 H).1
  have e2 := fun H => (h2 H).1
  rw [(same_cut c n).2] at e1
  refine run5 (Nat.le_of_ble_eq_true rfl) ?_
  have hy := True.intro
  repeat' (first | simp (disch := first | rfl | omega | exact lt_new _ | assumption | decide | (simp [tk_here, tk_app, tk_0, tk_S, gr_here, gr_app, gr_0, gr_S] <;> omega) | fail) only [r5_0, r5_1, r5_2, r5_3, r5_4, r5_5, c5, rs5, gc5, loadV_ptr, storeV_ptr, List.append_assoc, List.length_append, List.length_cons, List.length_nil, List.set_cons_zero, List.set_cons_succ, tk_here, tk_app, gr_here, gr_app, st_here, st_app, known_call, h6, e1, e2, s12, go_sem, ↓reduceIte, Nat.reduceLT, Nat.reduceEqDiff, Nat.reduceAdd, Nat.reduceMul, Nat.reduceSub, Int.reduceAdd, Int.reduceSub, Nat.reduceLeDiff, Int.reduceLT, Int.reduceLE, Int.reduceEq, Int.reduceNeg, Int.reduceToNat, hy] | ((first | refine guardB_dec (fun hy => ?_) (fun hy => ?_) | refine guardB_bool (fun hy => ?_) (fun hy => ?_) | refine guardQ_ite (fun hy => ?_) (fun hy => ?_) | refine brQ_dec (fun hy => ?_) (fun hy => ?_) | refine brQ_bool (fun hy => ?_) (fun hy => ?_)) <;> (try simp only [Bool.not_eq_true', Bool.not_eq_false', Bool.and_eq_true, Bool.or_eq_false_iff, decide_eq_true_eq, decide_eq_false_iff_not] at hy)))
  all_goals (try ((first | refine finQ_same ?_ | refine finQ_app ?_ | (rw [List.append_assoc]; refine finQ_app ?_)) <;> simp (disch := first | rfl | omega | exact lt_new _ | assumption | decide | (simp [tk_here, tk_app, tk_0, tk_S, gr_here, gr_app, gr_0, gr_S] <;> omega) | fail) only [go_sem, ↓reduceIte, Nat.reduceLT, Nat.reduceEqDiff, Nat.reduceAdd, Nat.reduceMul, Nat.reduceSub, Int.reduceAdd, Int.reduceSub, Nat.reduceLeDiff, Int.reduceLT, Int.reduceLE, Int.reduceEq, Int.reduceNeg, Int.reduceToNat, List.append_assoc, List.cons_append, List.nil_append, *]))
  all_goals (try first | rfl | (simp [*]; done) | grind)
end Go.Proofs.Ytdkeiaeaahpfdaa
/-
  Copies of what lies in rows, walked. No statement of the seat stands here.
-/
namespace Go.Proofs.Ytdkeiaeaahpfdaa
open Go Go.An
set_option maxRecDepth 4000
set_option linter.unusedSimpArgs false
set_option linter.unusedVariables false

theorem fn34r {l : List Fc} {u : V} {H : Hp} (h : RowM fcE 0 H u l) (hl : l.length ≤ 2 ^ 30) : ∃ v L, callL Try.prog pr 34 [u] H = some (v, H ++ L) ∧ RowM fcE H.length L v l := by
  rcases h with ⟨rfl, rfl⟩ | ⟨j, g, rfl, hj, hr⟩
  · have := fn34 (b := true) (l := []) (by simp) H
    rwa [slV_nil] at this
  rw [Nat.zero_add]
  suffices h : ∃ r, callL Try.prog pr 34 [.slice j g 0 l.length fcE.w .full] H = some r ∧ ∃ v L, r = (v, H ++ L) ∧ RowM fcE H.length L v l by
    obtain ⟨_, h1, v, L, rfl, h2⟩ := h; exact ⟨v, L, h1, h2⟩
  refine ex34 (Nat.le_of_ble_eq_true rfl) ?_
  have hw : fcE.w = 3 := rfl
  have hfl := flatE_len (E := fcE) (l := l)
  rw [hw] at hfl ⊢
  obtain ⟨g', ha⟩ : ∃ g', appOf 3 32 (H ++ [.row 0 [] true]) (.slice H.length 0 0 0 3 .full) (.slice j g 0 l.length 3 .full) = some (.slice H.length g' 0 l.length 3 .full, H ++ [.row g' (flatE fcE l) true]) := by
    have hfc := flatE_cells fcE l
    have hsr : srcCells (H ++ [AB.row 0 [] true]) (.slice j g 0 l.length 3 .full) = some (flatE fcE l, l.length) := by
      unfold srcCells
      simp only [gr_l hj, hr, Option.bind_some]
      rw [if_pos (by omega), List.drop_zero, ← hfl, List.take_length]
    unfold appOf
    rw [hsr]
    simp only [Option.bind_some]
    rw [if_pos ⟨hfl, hfc⟩]
    simp only [getRow_last, Option.bind_some]
    rw [if_pos ⟨trivial, by omega, by omega, by simp⟩]
    by_cases hz : l.length = 0
    · obtain rfl : l = [] := List.eq_nil_of_length_eq_zero hz
      exact ⟨0, by simp [flatE]⟩
    · refine ⟨1, ?_⟩
      rw [if_neg hz, if_pos trivial, if_neg (by simp; omega), if_pos (by simp)]
      simp
  simp (disch := first | rfl | omega | exact lt_new _ | assumption | decide | (simp [tk_here, tk_app, tk_0, tk_S, gr_here, gr_app, gr_0, gr_S] <;> omega) | fail) only [r34_0, r34_1, r34_2, r34_3, c34, rs34, gc34, go_sem, ↓reduceIte, Nat.reduceLT, Nat.reduceEqDiff, Nat.reduceAdd, Nat.reduceMul, Nat.reduceSub, Int.reduceAdd, Int.reduceSub, Nat.reduceLeDiff, Int.reduceLT, Int.reduceLE, Int.reduceEq, Int.reduceNeg, Int.reduceToNat, ha]
  exact ⟨_, _, rfl, Or.inr ⟨0, g', rfl, by simp, by simp [getRow]⟩⟩

theorem fn38r {l : List Pk} {u : V} {H : Hp} (h : RowM pkE 0 H u l) (hl : l.length ≤ 2 ^ 30) : ∃ v L, callL Try.prog pr 38 [u] H = some (v, H ++ L) ∧ RowM pkE H.length L v l := by
  rcases h with ⟨rfl, rfl⟩ | ⟨j, g, rfl, hj, hr⟩
  · have := fn38 (b := true) (l := []) (by simp) H
    rwa [slV_nil] at this
  rw [Nat.zero_add]
  suffices h : ∃ r, callL Try.prog pr 38 [.slice j g 0 l.length pkE.w .full] H = some r ∧ ∃ v L, r = (v, H ++ L) ∧ RowM pkE H.length L v l by
    obtain ⟨_, h1, v, L, rfl, h2⟩ := h; exact ⟨v, L, h1, h2⟩
  refine ex38 (Nat.le_of_ble_eq_true rfl) ?_
  have hw : pkE.w = 5 := rfl
  have hfl := flatE_len (E := pkE) (l := l)
  rw [hw] at hfl ⊢
  obtain ⟨g', ha⟩ : ∃ g', appOf 5 64 (H ++ [.row 0 [] true]) (.slice H.length 0 0 0 5 .full) (.slice j g 0 l.length 5 .full) = some (.slice H.length g' 0 l.length 5 .full, H ++ [.row g' (flatE pkE l) true]) := by
    have hfc := flatE_cells pkE l
    have hsr : srcCells (H ++ [AB.row 0 [] true]) (.slice j g 0 l.length 5 .full) = some (flatE pkE l, l.length) := by
      unfold srcCells
      simp only [gr_l hj, hr, Option.bind_some]
      rw [if_pos (by omega), List.drop_zero, ← hfl, List.take_length]
    unfold appOf
    rw [hsr]
    simp only [Option.bind_some]
    rw [if_pos ⟨hfl, hfc⟩]
    simp only [getRow_last, Option.bind_some]
    rw [if_pos ⟨trivial, by omega, by omega, by simp⟩]
    by_cases hz : l.length = 0
    · obtain rfl : l = [] := List.eq_nil_of_length_eq_zero hz
      exact ⟨0, by simp [flatE]⟩
    · refine ⟨1, ?_⟩
      rw [if_neg hz, if_pos trivial, if_neg (by simp; omega), if_pos (by simp)]
      simp
  simp (disch := first | rfl | omega | exact lt_new _ | assumption | decide | (simp [tk_here, tk_app, tk_0, tk_S, gr_here, gr_app, gr_0, gr_S] <;> omega) | fail) only [r38_0, r38_1, r38_2, r38_3, c38, rs38, gc38, go_sem, ↓reduceIte, Nat.reduceLT, Nat.reduceEqDiff, Nat.reduceAdd, Nat.reduceMul, Nat.reduceSub, Int.reduceAdd, Int.reduceSub, Nat.reduceLeDiff, Int.reduceLT, Int.reduceLE, Int.reduceEq, Int.reduceNeg, Int.reduceToNat, ha]
  exact ⟨_, _, rfl, Or.inr ⟨0, g', rfl, by simp, by simp [getRow]⟩⟩


set_option maxHeartbeats 4000000 in
/-- A copy of a capture that has faces and packets in rows, and nothing else. -/
theorem fn13r {s : List UInt8} {fs : List Fc} {ps : List Pk} {u1 u4 : V} {H : Hp} (h1 : RowM fcE 0 H u1 fs) (h4 : RowM pkE 0 H u4 ps) (l1 : fs.length ≤ 2 ^ 30) (l4 : ps.length ≤ 2 ^ 30) (hd : ∀ p ∈ ps, p.data.length ≤ 2 ^ 30) : ∃ v1 v4 K, callL Try.prog pr 13 [.agg [.str s, u1, .nilslice, .nilslice, u4]] H = some (.agg [.str s, v1, .nilslice, .nilslice, v4], H ++ K) ∧ RowM fcE H.length K v1 fs ∧ RowM pkE H.length K v4 ps := by
  suffices h : ∃ r, callL Try.prog pr 13 [.agg [.str s, u1, .nilslice, .nilslice, u4]] H = some r ∧ ∃ v1 v4 K, r = (.agg [.str s, v1, .nilslice, .nilslice, v4], H ++ K) ∧ RowM fcE H.length K v1 fs ∧ RowM pkE H.length K v4 ps by
    obtain ⟨_, h1, v1, v4, K, rfl, h2⟩ := h; exact ⟨v1, v4, K, h1, h2⟩
  refine ex13 (Nat.le_of_ble_eq_true rfl) ?_
  have e118 := fun {b l} h H => fn36 (b := b) (l := l) h H
  obtain ⟨a11, a12, a13, a14, a15, a16, a17⟩ := h1.cell
  obtain ⟨a41, a42, a43, a44, a45, a46, a47⟩ := h4.cell
  obtain ⟨v1, L1, e1, r1⟩ := fn34r (h1.app (AB.row 0 [.str s, u1, .nilslice, .nilslice, u4] true :: AB.row 0 [.str [], .nilslice, .nilslice, .nilslice, .nilslice] true :: [])) l1
  rw [show (H ++ AB.row 0 [.str s, u1, .nilslice, .nilslice, u4] true :: AB.row 0 [.str [], .nilslice, .nilslice, .nilslice, .nilslice] true :: []).length = H.length + 2 by simp] at r1
  obtain ⟨k11, k12, k13, k14, k15, k16, k17⟩ := r1.cell
  have e2 := fun H => fn35 (b := true) (l := []) (by simp) H
  have e3 := fun H => fn37 (b := true) (l := []) (by simp) H
  obtain ⟨v4, L4, e4, r4⟩ := fn38r (h4.app (AB.row 0 [.str s, v1, .nilslice, .nilslice, u4] true :: AB.row 0 [.str [], .nilslice, .nilslice, .nilslice, .nilslice] true :: L1)) l4
  rw [show (H ++ AB.row 0 [.str s, v1, .nilslice, .nilslice, u4] true :: AB.row 0 [.str [], .nilslice, .nilslice, .nilslice, .nilslice] true :: L1).length = H.length + 2 + L1.length by simp; omega] at r4
  replace r4 := RowM.pre L1 r4
  replace r1 := RowM.app r1 L4
  obtain ⟨k41, k42, k43, k44, k45, k46, k47⟩ := r4.cell
  have n4 := fun H' => r4.len (P := Try.prog) (t := 25) (z := 5) (by kernel_rfl) H'
  have z2 : ∀ H, callL Try.prog pr 35 [.nilslice] H = some (.nilslice, H) := fun H => by
    refine run35 (Nat.le_of_ble_eq_true rfl) ?_
    simp (disch := first | rfl | omega | exact lt_new _ | assumption | decide | (simp [tk_here, tk_app, tk_0, tk_S, gr_here, gr_app, gr_0, gr_S] <;> omega) | fail) only [r35_0, r35_1, r35_2, r35_3, c35, rs35, gc35, go_sem, ↓reduceIte, Nat.reduceLT, Nat.reduceEqDiff, Nat.reduceAdd, Nat.reduceMul, Nat.reduceSub, Int.reduceAdd, Int.reduceSub, Nat.reduceLeDiff, Int.reduceLT, Int.reduceLE, Int.reduceEq, Int.reduceNeg, Int.reduceToNat]
  have z3 : ∀ H, callL Try.prog pr 37 [.nilslice] H = some (.nilslice, H) := fun H => by
    refine run37 (Nat.le_of_ble_eq_true rfl) ?_
    simp (disch := first | rfl | omega | exact lt_new _ | assumption | decide | (simp [tk_here, tk_app, tk_0, tk_S, gr_here, gr_app, gr_0, gr_S] <;> omega) | fail) only [r37_0, r37_1, r37_2, r37_3, c37, rs37, gc37, go_sem, ↓reduceIte, Nat.reduceLT, Nat.reduceEqDiff, Nat.reduceAdd, Nat.reduceMul, Nat.reduceSub, Int.reduceAdd, Int.reduceSub, Nat.reduceLeDiff, Int.reduceLT, Int.reduceLE, Int.reduceEq, Int.reduceNeg, Int.reduceToNat]
  simp (disch := first | rfl | omega | exact lt_new _ | assumption | decide | (simp [tk_here, tk_app, tk_0, tk_S, gr_here, gr_app, gr_0, gr_S] <;> omega) | fail) only [r13_0, r13_1, r13_2, r13_3, r13_4, r13_5, r13_6, r13_7, r13_9, r13_10, r13_11, r13_12, r13_13, r13_14, r13_16, r13_17, r13_18, r13_19, r13_20, r13_21, r13_23, c13, rs13, gc13, go_sem, ↓reduceIte, Nat.reduceLT, Nat.reduceEqDiff, Nat.reduceAdd, Nat.reduceMul, Nat.reduceSub, Int.reduceAdd, Int.reduceSub, Nat.reduceLeDiff, Int.reduceLT, Int.reduceLE, Int.reduceEq, Int.reduceNeg, Int.reduceToNat, loadV_ptr, storeV_ptr, List.append_assoc, List.length_append, List.length_cons, List.length_nil, List.set_cons_zero, List.set_cons_succ, tk_here, tk_app, gr_here, gr_app, st_here, st_app, e1, z2, a11, a12, a13, a14, a15, a16, a17, a41, a42, a43, a44, a45, a46, a47, k11, k12, k13, k14, k15, k16, k17]
  refine Wp_loop (fun m T D H' => D = [] ∧ H' = H ++ AB.row 0 [.str s, v1, .nilslice, .nilslice, u4] true :: AB.row 0 [.str [], .nilslice, .nilslice, .nilslice, .nilslice] true :: L1 ∧ get T 1 = .ptr H.length 0 0 ∧ get T 2 = .ptr (H.length + 1) 0 0 ∧ get T 18 = .nilslice ∧ get T 19 = .int .i64 0 ∧ get T 20 = .int .i64 0) ?_ 0 _ _ _ ?_
  case refine_2 => exact ⟨rfl, rfl, by simp [go_sem], by simp [go_sem], by simp [go_sem], by simp [go_sem], by simp [go_sem]⟩
  rintro m T D H' ⟨rfl, rfl, t1, t2, t18, t19, t20⟩
  have t0 := Int.lt_irrefl
  simp (disch := first | rfl | omega | exact lt_new _ | assumption | decide | (simp [tk_here, tk_app, tk_0, tk_S, gr_here, gr_app, gr_0, gr_S] <;> omega) | fail) only [r13_0, r13_1, r13_2, r13_3, r13_4, r13_5, r13_6, r13_7, l13_8, r13_9, r13_10, r13_11, r13_12, r13_13, r13_14, l13_15, r13_16, r13_17, r13_18, r13_19, r13_20, r13_21, l13_22, r13_23, c13, rs13, gc13, go_sem, ↓reduceIte, Nat.reduceLT, Nat.reduceEqDiff, Nat.reduceAdd, Nat.reduceMul, Nat.reduceSub, Int.reduceAdd, Int.reduceSub, Nat.reduceLeDiff, Int.reduceLT, Int.reduceLE, Int.reduceEq, Int.reduceNeg, Int.reduceToNat, loadV_ptr, storeV_ptr, List.append_assoc, List.length_append, List.length_cons, List.length_nil, List.set_cons_zero, List.set_cons_succ, tk_here, tk_app, gr_here, gr_app, st_here, st_app, t1, t2, t18, t19, t20, t0, z3, k11, k12, k13, k14, k15, k16, k17, a41, a42, a43, a44, a45, a46, a47]
  refine Wp_loop (fun m T D H' => D = [] ∧ H' = H ++ AB.row 0 [.str s, v1, .nilslice, .nilslice, u4] true :: AB.row 0 [.str [], .nilslice, .nilslice, .nilslice, .nilslice] true :: L1 ∧ get T 1 = .ptr H.length 0 0 ∧ get T 2 = .ptr (H.length + 1) 0 0 ∧ get T 39 = .nilslice ∧ get T 40 = .int .i64 0 ∧ get T 41 = .int .i64 0) ?_ 0 _ _ _ ?_
  case refine_2 => exact ⟨rfl, rfl, by simp [go_sem, t1, t2], by simp [go_sem, t1, t2], by simp [go_sem], by simp [go_sem], by simp [go_sem]⟩
  clear t1 t2 t18 t19 t20
  rintro m T D H' ⟨rfl, rfl, t1, t2, t39, t40, t41⟩
  simp (disch := first | rfl | omega | exact lt_new _ | assumption | decide | (simp [tk_here, tk_app, tk_0, tk_S, gr_here, gr_app, gr_0, gr_S] <;> omega) | fail) only [r13_0, r13_1, r13_2, r13_3, r13_4, r13_5, r13_6, r13_7, l13_8, r13_9, r13_10, r13_11, r13_12, r13_13, r13_14, l13_15, r13_16, r13_17, r13_18, r13_19, r13_20, r13_21, l13_22, r13_23, c13, rs13, gc13, go_sem, ↓reduceIte, Nat.reduceLT, Nat.reduceEqDiff, Nat.reduceAdd, Nat.reduceMul, Nat.reduceSub, Int.reduceAdd, Int.reduceSub, Nat.reduceLeDiff, Int.reduceLT, Int.reduceLE, Int.reduceEq, Int.reduceNeg, Int.reduceToNat, loadV_ptr, storeV_ptr, List.append_assoc, List.length_append, List.length_cons, List.length_nil, List.set_cons_zero, List.set_cons_succ, tk_here, tk_app, gr_here, gr_app, st_here, st_app, t1, t2, t39, t40, t41, t0, e4, n4, k11, k12, k13, k14, k15, k16, k17, k41, k42, k43, k44, k45, k46, k47, a41, a42, a43, a44, a45, a46, a47]
  refine Wp_loop (fun m T D H' => ∃ i Y, m = ps.length - i ∧ i ≤ ps.length ∧ D = [] ∧ H' = H ++ AB.row 0 [.str s, v1, .nilslice, .nilslice, v4] true :: AB.row 0 [.str [], .nilslice, .nilslice, .nilslice, .nilslice] true :: Y ∧ get T 1 = .ptr H.length 0 0 ∧ get T 2 = .ptr (H.length + 1) 0 0 ∧ get T 60 = v4 ∧ get T 61 = .int .i64 ps.length ∧ get T 62 = .int .i64 i ∧ RowM fcE (H.length + 2) Y v1 fs ∧ RowM pkE (H.length + 2) Y v4 ps) ?_ ps.length _ _ _ ?_
  case refine_2 => exact ⟨0, _, by simp (disch := first | rfl | omega | exact lt_new _ | assumption | decide | (simp [tk_here, tk_app, tk_0, tk_S, gr_here, gr_app, gr_0, gr_S] <;> omega) | fail) only [go_sem, ↓reduceIte, Nat.reduceLT, Nat.reduceEqDiff, Nat.reduceAdd, Nat.reduceMul, Nat.reduceSub, Int.reduceAdd, Int.reduceSub, Nat.reduceLeDiff, Int.reduceLT, Int.reduceLE, Int.reduceEq, Int.reduceNeg, Int.reduceToNat], by omega, rfl, rfl, by simp [go_sem, t1, t2], by simp [go_sem, t1, t2], by simp [go_sem], by simp [go_sem], by simp [go_sem], r1, r4⟩
  clear t1 t2 t39 t40 t41
  rintro m T D H' ⟨i, Y, rfl, hi, rfl, rfl, t1, t2, t60, t61, t62, q1, q4⟩
  by_cases hlt : i < ps.length
  · have hlt' : (i : Int) < ps.length := by omega
    rcases RowM.two q4 with ⟨_, hnil⟩ | ⟨j, g, hv, hj, hr⟩
    · rw [hnil] at hlt; cases hlt
    have hv' : v4 = .slice (H.length + (j + 1 + 1)) g 0 ps.length 5 .full := hv
    have p1 : partV Try.prog 39 (flatE pkE ps) (i * 5) = some (.agg (pkE.f (pkE.at ps i))) := ld_pkE (H := H) hlt
    have ec := e118 (b := (pkE.at ps i).dataN) (hd _ (pkE.at_mem hlt))
    have hfs : setAt (flatE pkE ps) (i * 5 + 3) [slV (pkE.at ps i).dataN byE (pkE.at ps i).data] = flatE pkE ps := flatE_same (E := pkE) hlt (by decide) rfl
    have hfl : (flatE pkE ps).length = ps.length * 5 := flatE_len
    have hle : i * 5 + 3 + 1 ≤ ps.length * 5 := by omega
    have hse := (RowM.get hr).2
    subst hv'
    simp (disch := first | rfl | omega | exact lt_new _ | assumption | decide | (simp [tk_here, tk_app, tk_0, tk_S, gr_here, gr_app, gr_0, gr_S] <;> omega) | fail) only [r13_0, r13_1, r13_2, r13_3, r13_4, r13_5, r13_6, r13_7, l13_8, r13_9, r13_10, r13_11, r13_12, r13_13, r13_14, l13_15, r13_16, r13_17, r13_18, r13_19, r13_20, r13_21, l13_22, r13_23, c13, rs13, gc13, go_sem, ↓reduceIte, Nat.reduceLT, Nat.reduceEqDiff, Nat.reduceAdd, Nat.reduceMul, Nat.reduceSub, Int.reduceAdd, Int.reduceSub, Nat.reduceLeDiff, Int.reduceLT, Int.reduceLE, Int.reduceEq, Int.reduceNeg, Int.reduceToNat, loadV_ptr, storeV_ptr, List.append_assoc, List.length_append, List.length_cons, List.length_nil, List.set_cons_zero, List.set_cons_succ, tk_here, tk_app, gr_here, gr_app, st_here, st_app, gr_l hj, st_l hj, hr, hse, t1, t2, t60, t61, t62, hlt', p1, ec, hfs, hfl, hle]
    exact ⟨_, by omega, i + 1, Y ++ [_], rfl, hlt, rfl, rfl, RowM.app q1 _, RowM.app q4 _⟩
  · obtain rfl : i = ps.length := by omega
    simp (disch := first | rfl | omega | exact lt_new _ | assumption | decide | (simp [tk_here, tk_app, tk_0, tk_S, gr_here, gr_app, gr_0, gr_S] <;> omega) | fail) only [r13_0, r13_1, r13_2, r13_3, r13_4, r13_5, r13_6, r13_7, l13_8, r13_9, r13_10, r13_11, r13_12, r13_13, r13_14, l13_15, r13_16, r13_17, r13_18, r13_19, r13_20, r13_21, l13_22, r13_23, c13, rs13, gc13, go_sem, ↓reduceIte, Nat.reduceLT, Nat.reduceEqDiff, Nat.reduceAdd, Nat.reduceMul, Nat.reduceSub, Int.reduceAdd, Int.reduceSub, Nat.reduceLeDiff, Int.reduceLT, Int.reduceLE, Int.reduceEq, Int.reduceNeg, Int.reduceToNat, loadV_ptr, storeV_ptr, List.append_assoc, List.length_append, List.length_cons, List.length_nil, List.set_cons_zero, List.set_cons_succ, tk_here, tk_app, gr_here, gr_app, st_here, st_app, t1, t2, t60, t61, t62, t0, k11, k12, k13, k14, k15, k16, k17, k41, k42, k43, k44, k45, k46, k47]
    exact ⟨v1, v4, AB.row 0 [.str s, v1, .nilslice, .nilslice, v4] true :: AB.row 0 [.str s, v1, .nilslice, .nilslice, v4] true :: Y, rfl, RowM.pre [_, _] q1, RowM.pre [_, _] q4⟩
end Go.Proofs.Ytdkeiaeaahpfdaa
/-
  capt.Plain, walked. No statement of the seat stands here.
-/
namespace Go.Proofs.Ytdkeiaeaahpfdaa
open Go Go.An
set_option maxRecDepth 4000
set_option linter.unusedSimpArgs false
set_option linter.unusedVariables false

def oldB (p : Pk) : Bool := decide (p.face = 0) && decide (p.time < 4294967296000000)
def noN (p : Pk) : Pk := {p with note := []}
def plP (l : List Pk) : List Pk := (l.filter oldB).map noN
def plF (c : Cp) : Cp × Int := if valE c = 0 then (⟨[], false, [{fcE.at c.faces 0 with name := []}], true, [], true, [], true, plP c.packets⟩, 0) else (noCp, valE c)
theorem plP_snoc {l : List Pk} {i : Nat} (h : i < l.length) : plP (l.take (i + 1)) = if oldB (pkE.at l i) then plP (l.take i) ++ [noN (pkE.at l i)] else plP (l.take i) := by
  unfold plP
  rw [pkE.take_at h, List.filter_append, List.map_append]
  by_cases hb : oldB (pkE.at l i) = true
  · simp [hb]
  · simp [hb]
theorem plP_len (l : List Pk) : (plP l).length ≤ l.length := by
  unfold plP
  rw [List.length_map]
  exact List.length_filter_le _ _
theorem plP_mem {l : List Pk} {p : Pk} (h : p ∈ plP l) : ∃ q ∈ l, oldB q = true ∧ p = noN q := by
  unfold plP at h
  obtain ⟨q, hq, rfl⟩ := List.mem_map.1 h
  exact ⟨q, (List.mem_filter.1 hq).1, (List.mem_filter.1 hq).2, rfl⟩
theorem RowN.app {α : Type} {E : Enc α} {n : Nat} {K : Hp} {v : V} {l : List α} (h : RowN E n K v l) (G : Hp) : RowN E n (K ++ G) v l := by
  rcases h with h | ⟨h0, j, g, e, hj, hr⟩
  · exact Or.inl h
  · exact Or.inr ⟨h0, j, g, e, by simp; omega, by rw [gr_l hj]; exact hr⟩
set_option maxHeartbeats 4000000 in
theorem fn8 (c : Cp) (hc : CpOk c) (H : Hp) : ∃ d, callL Try.prog pr 8 [.agg (cpE.f c)] H = some (.tup [.agg (cpE.f d), .int .i64 (plF c).2], H) ∧ CpEq d (plF c).1 := by
  suffices h : ∃ r, callL Try.prog pr 8 [.agg (cpE.f c)] H = some r ∧ ∃ d, r = (.tup [.agg (cpE.f d), .int .i64 (plF c).2], H) ∧ CpEq d (plF c).1 by
    obtain ⟨_, h1, d, rfl, h2⟩ := h; exact ⟨d, h1, h2⟩
  have hval := fn18 c hc
  refine ex8 (Nat.le_of_ble_eq_true rfl) ?_
  unfold plF
  by_cases hv : valE c = 0
  case neg =>
    rw [if_neg hv]
    have hy := True.intro
    repeat' (first | simp (disch := first | rfl | omega | exact lt_new _ | assumption | decide | (simp [tk_here, tk_app, tk_0, tk_S, gr_here, gr_app, gr_0, gr_S] <;> omega) | fail) only [r8_0, r8_1, r8_2, r8_3, r8_4, r8_5, r8_6, r8_7, r8_8, r8_9, r8_10, r8_11, r8_12, r8_14, c8, rs8, gc8, loadV_ptr, storeV_ptr, List.append_assoc, List.length_append, List.length_cons, List.length_nil, List.set_cons_zero, List.set_cons_succ, tk_here, tk_app, gr_here, gr_app, st_here, st_app, hval, hv, go_sem, ↓reduceIte, Nat.reduceLT, Nat.reduceEqDiff, Nat.reduceAdd, Nat.reduceMul, Nat.reduceSub, Int.reduceAdd, Int.reduceSub, Nat.reduceLeDiff, Int.reduceLT, Int.reduceLE, Int.reduceEq, Int.reduceNeg, Int.reduceToNat, hy] | ((first | refine guardB_dec (fun hy => ?_) (fun hy => ?_) | refine guardB_bool (fun hy => ?_) (fun hy => ?_) | refine guardQ_ite (fun hy => ?_) (fun hy => ?_) | refine brQ_dec (fun hy => ?_) (fun hy => ?_) | refine brQ_bool (fun hy => ?_) (fun hy => ?_)) <;> (try simp only [Bool.not_eq_true', Bool.not_eq_false', Bool.and_eq_true, Bool.or_eq_false_iff, decide_eq_true_eq, decide_eq_false_iff_not] at hy)))
    exact ⟨noCp, finQ_app (by rw [noCp_f]; simp (disch := first | rfl | omega | exact lt_new _ | assumption | decide | (simp [tk_here, tk_app, tk_0, tk_S, gr_here, gr_app, gr_0, gr_S] <;> omega) | fail) only [go_sem, ↓reduceIte, Nat.reduceLT, Nat.reduceEqDiff, Nat.reduceAdd, Nat.reduceMul, Nat.reduceSub, Int.reduceAdd, Int.reduceSub, Nat.reduceLeDiff, Int.reduceLT, Int.reduceLE, Int.reduceEq, Int.reduceNeg, Int.reduceToNat]), CpEq.rfl' _⟩
  rw [if_pos hv]
  obtain ⟨hpf, ⟨l4, l3, l2, l1⟩, hf1⟩ := val_pk hv
  have hc0 : cpE.f c = [.str c.note, slV c.facesN fcE c.faces, slV c.namesN nmE c.names, slV c.secretsN scE c.secrets, slV c.packetsN pkE c.packets] := rfl
  obtain ⟨f, hf⟩ : ∃ f, fcE.at c.faces 0 = f := ⟨_, rfl⟩
  have p1 : ∀ H, loadV Try.prog 46 H (.ipt (flatE fcE c.faces) 0) = some (.agg (fcE.f f)) := fun H => by
    have := ld_fcE (l := c.faces) (i := 0) (H := H) hf1
    rw [hf, Nat.zero_mul] at this
    exact this
  have hf0 : (0 : Int) < c.faces.length := by omega
  have hsn : setAt (fcE.f f) 0 [.str []] = fcE.f {f with name := []} := rfl
  obtain ⟨f', hf'⟩ : ∃ f' : Fc, {f with name := []} = f' := ⟨_, rfl⟩
  rw [hf]
  rw [hf'] at hsn ⊢
  have hy := True.intro
  repeat' (first | simp (disch := first | rfl | omega | exact lt_new _ | assumption | decide | (simp [tk_here, tk_app, tk_0, tk_S, gr_here, gr_app, gr_0, gr_S] <;> omega) | fail) only [r8_0, r8_1, r8_2, r8_3, r8_4, r8_5, r8_6, r8_7, r8_8, r8_9, r8_10, r8_11, r8_12, r8_14, c8, rs8, gc8, loadV_ptr, storeV_ptr, List.append_assoc, List.length_append, List.length_cons, List.length_nil, List.set_cons_zero, List.set_cons_succ, tk_here, tk_app, gr_here, gr_app, st_here, st_app, hval, hv, hf0, p1, hsn, go_sem, ↓reduceIte, Nat.reduceLT, Nat.reduceEqDiff, Nat.reduceAdd, Nat.reduceMul, Nat.reduceSub, Int.reduceAdd, Int.reduceSub, Nat.reduceLeDiff, Int.reduceLT, Int.reduceLE, Int.reduceEq, Int.reduceNeg, Int.reduceToNat, hy] | ((first | refine guardB_dec (fun hy => ?_) (fun hy => ?_) | refine guardB_bool (fun hy => ?_) (fun hy => ?_) | refine guardQ_ite (fun hy => ?_) (fun hy => ?_) | refine brQ_dec (fun hy => ?_) (fun hy => ?_) | refine brQ_bool (fun hy => ?_) (fun hy => ?_)) <;> (try simp only [Bool.not_eq_true', Bool.not_eq_false', Bool.and_eq_true, Bool.or_eq_false_iff, decide_eq_true_eq, decide_eq_false_iff_not] at hy)))
  refine Wp_loop (fun m T D H' => ∃ k K w, m = c.packets.length - k ∧ k ≤ c.packets.length ∧ D = [] ∧ H' = H ++ AB.row 0 (cpE.f c) true :: AB.row 0 [.str [], .nilslice, .nilslice, .nilslice, .nilslice] true :: AB.row 0 (fcE.f f') true :: AB.row 0 [.str [], .slice (H.length + 2) 0 0 1 3 .full, .nilslice, .nilslice, w] true :: K ∧ get T 2 = .ptr (H.length + 1) 0 0 ∧ get T 5 = .ptr (H.length + 3) 0 0 ∧ get T 25 = slV c.packetsN pkE c.packets ∧ get T 26 = .int .i64 c.packets.length ∧ get T 27 = .int .i64 k ∧ RowN pkE (H.length + 4) K w (plP (c.packets.take k))) ?_ c.packets.length _ _ _ ?_
  case refine_2 => exact ⟨0, [], .nilslice, by simp (disch := first | rfl | omega | exact lt_new _ | assumption | decide | (simp [tk_here, tk_app, tk_0, tk_S, gr_here, gr_app, gr_0, gr_S] <;> omega) | fail) only [go_sem, ↓reduceIte, Nat.reduceLT, Nat.reduceEqDiff, Nat.reduceAdd, Nat.reduceMul, Nat.reduceSub, Int.reduceAdd, Int.reduceSub, Nat.reduceLeDiff, Int.reduceLT, Int.reduceLE, Int.reduceEq, Int.reduceNeg, Int.reduceToNat]; exact ⟨Nat.zero_le _, Or.inl ⟨rfl, rfl⟩⟩⟩
  rintro m T D H' ⟨k, K, w, rfl, hk, rfl, rfl, t2, t5, t25, t26, t27, q⟩
  obtain ⟨k21, k22, k23, k24, k25, k26, k27⟩ := q.m.cell
  by_cases hlt : k < c.packets.length
  · have hlt' : (k : Int) < c.packets.length := by omega
    have hpl := plP_len (c.packets.take k)
    have hpl2 : (plP (c.packets.take k)).length ≤ 2 ^ 30 := by simp at hpl; omega
    obtain ⟨p, hp⟩ : ∃ p, pkE.at c.packets k = p := ⟨_, rfl⟩
    have hps := plP_snoc hlt
    rw [hp] at hps
    have hpc : pkE.f p = [.int .i64 p.time, .int .i64 p.face, .int .i64 p.real, slV p.dataN byE p.data, .str p.note] := rfl
    have hno : setAt (pkE.f p) 4 [.str []] = pkE.f (noN p) := rfl
    have q' := q.app [AB.row 0 (pkE.f (noN p)) true]
    obtain ⟨w', K', ea, qa, hkp, hkl⟩ := push_row (E := pkE) (w := 5) (by_ := 64) (A := H ++ AB.row 0 (cpE.f c) true :: AB.row 0 [.str [], .nilslice, .nilslice, .nilslice, .nilslice] true :: AB.row 0 (fcE.f f') true :: [AB.row 0 [.str [], .slice (H.length + 2) 0 0 1 3 .full, .nilslice, .nilslice, w] true]) (by simp) rfl q' (noN p) (by omega) (by omega)
    simp only [List.append_assoc, List.cons_append, List.nil_append] at ea
    obtain ⟨j11, j12, j13, j14, j15, j16, j17⟩ := qa.m.cell
    by_cases hb : p.face = 0
    · by_cases hb2 : p.time < 4294967296000000
      · have hob : oldB p = true := by unfold oldB; simp [hb, hb2]
        rw [if_pos hob] at hps
        have hy := True.intro
        repeat' (first | simp (disch := first | rfl | omega | exact lt_new _ | assumption | decide | (simp [tk_here, tk_app, tk_0, tk_S, gr_here, gr_app, gr_0, gr_S] <;> omega) | fail) only [r8_0, r8_1, r8_2, r8_3, r8_4, r8_5, r8_6, r8_7, r8_8, r8_9, r8_10, r8_11, r8_12, l8_13, r8_14, c8, rs8, gc8, loadV_ptr, storeV_ptr, List.append_assoc, List.length_append, List.length_cons, List.length_nil, List.set_cons_zero, List.set_cons_succ, tk_here, tk_app, gr_here, gr_app, st_here, st_app, t2, t5, t25, t26, t27, hlt', hp, hb, hb2, hno, ea, k21, k22, k23, k24, k25, k26, k27, j11, j12, j13, j14, j15, j16, j17, go_sem, ↓reduceIte, Nat.reduceLT, Nat.reduceEqDiff, Nat.reduceAdd, Nat.reduceMul, Nat.reduceSub, Int.reduceAdd, Int.reduceSub, Nat.reduceLeDiff, Int.reduceLT, Int.reduceLE, Int.reduceEq, Int.reduceNeg, Int.reduceToNat, hy] | ((first | refine guardB_dec (fun hy => ?_) (fun hy => ?_) | refine guardB_bool (fun hy => ?_) (fun hy => ?_) | refine guardQ_ite (fun hy => ?_) (fun hy => ?_) | refine brQ_dec (fun hy => ?_) (fun hy => ?_) | refine brQ_bool (fun hy => ?_) (fun hy => ?_)) <;> (try simp only [Bool.not_eq_true', Bool.not_eq_false', Bool.and_eq_true, Bool.or_eq_false_iff, decide_eq_true_eq, decide_eq_false_iff_not] at hy)))
        exact ⟨_, by omega, k + 1, K', w', rfl, hlt, rfl, rfl, by rw [hps]; exact qa⟩
      · have hob : oldB p = false := by unfold oldB; simp [hb2]
        rw [if_neg (by rw [hob]; decide)] at hps
        have hy := True.intro
        repeat' (first | simp (disch := first | rfl | omega | exact lt_new _ | assumption | decide | (simp [tk_here, tk_app, tk_0, tk_S, gr_here, gr_app, gr_0, gr_S] <;> omega) | fail) only [r8_0, r8_1, r8_2, r8_3, r8_4, r8_5, r8_6, r8_7, r8_8, r8_9, r8_10, r8_11, r8_12, l8_13, r8_14, c8, rs8, gc8, loadV_ptr, storeV_ptr, List.append_assoc, List.length_append, List.length_cons, List.length_nil, List.set_cons_zero, List.set_cons_succ, tk_here, tk_app, gr_here, gr_app, st_here, st_app, t2, t5, t25, t26, t27, hlt', hp, hb, hb2, k21, k22, k23, k24, k25, k26, k27, go_sem, ↓reduceIte, Nat.reduceLT, Nat.reduceEqDiff, Nat.reduceAdd, Nat.reduceMul, Nat.reduceSub, Int.reduceAdd, Int.reduceSub, Nat.reduceLeDiff, Int.reduceLT, Int.reduceLE, Int.reduceEq, Int.reduceNeg, Int.reduceToNat, hy] | ((first | refine guardB_dec (fun hy => ?_) (fun hy => ?_) | refine guardB_bool (fun hy => ?_) (fun hy => ?_) | refine guardQ_ite (fun hy => ?_) (fun hy => ?_) | refine brQ_dec (fun hy => ?_) (fun hy => ?_) | refine brQ_bool (fun hy => ?_) (fun hy => ?_)) <;> (try simp only [Bool.not_eq_true', Bool.not_eq_false', Bool.and_eq_true, Bool.or_eq_false_iff, decide_eq_true_eq, decide_eq_false_iff_not] at hy)))
        exact ⟨_, by omega, k + 1, K ++ [_], w, rfl, hlt, rfl, rfl, by rw [hps]; exact q.app _⟩
    · have hob : oldB p = false := by unfold oldB; simp [hb]
      rw [if_neg (by rw [hob]; decide)] at hps
      have hy := True.intro
      repeat' (first | simp (disch := first | rfl | omega | exact lt_new _ | assumption | decide | (simp [tk_here, tk_app, tk_0, tk_S, gr_here, gr_app, gr_0, gr_S] <;> omega) | fail) only [r8_0, r8_1, r8_2, r8_3, r8_4, r8_5, r8_6, r8_7, r8_8, r8_9, r8_10, r8_11, r8_12, l8_13, r8_14, c8, rs8, gc8, loadV_ptr, storeV_ptr, List.append_assoc, List.length_append, List.length_cons, List.length_nil, List.set_cons_zero, List.set_cons_succ, tk_here, tk_app, gr_here, gr_app, st_here, st_app, t2, t5, t25, t26, t27, hlt', hp, hb, k21, k22, k23, k24, k25, k26, k27, go_sem, ↓reduceIte, Nat.reduceLT, Nat.reduceEqDiff, Nat.reduceAdd, Nat.reduceMul, Nat.reduceSub, Int.reduceAdd, Int.reduceSub, Nat.reduceLeDiff, Int.reduceLT, Int.reduceLE, Int.reduceEq, Int.reduceNeg, Int.reduceToNat, hy] | ((first | refine guardB_dec (fun hy => ?_) (fun hy => ?_) | refine guardB_bool (fun hy => ?_) (fun hy => ?_) | refine guardQ_ite (fun hy => ?_) (fun hy => ?_) | refine brQ_dec (fun hy => ?_) (fun hy => ?_) | refine brQ_bool (fun hy => ?_) (fun hy => ?_)) <;> (try simp only [Bool.not_eq_true', Bool.not_eq_false', Bool.and_eq_true, Bool.or_eq_false_iff, decide_eq_true_eq, decide_eq_false_iff_not] at hy)))
      exact ⟨_, by omega, k + 1, K ++ [_], w, rfl, hlt, rfl, rfl, by rw [hps]; exact q.app _⟩
  · obtain rfl : k = c.packets.length := by omega
    rw [List.take_length] at q
    have hpl := plP_len c.packets
    obtain ⟨v1, v4, K2, e, r1, r4⟩ := fn13r (s := []) (fs := [f']) (ps := plP c.packets) (u1 := .slice (H.length + 2) 0 0 1 3 .full) (u4 := w) (H := H ++ AB.row 0 (cpE.f c) true :: AB.row 0 [.str [], .nilslice, .nilslice, .nilslice, .nilslice] true :: AB.row 0 (fcE.f f') true :: AB.row 0 [.str [], .slice (H.length + 2) 0 0 1 3 .full, .nilslice, .nilslice, w] true :: K) (Or.inr ⟨H.length + 2, 0, by rw [Nat.zero_add]; rfl, by simp, by simp [getRow, flatE]⟩) (by
      have := RowM.pre (n := 0) (H ++ AB.row 0 (cpE.f c) true :: AB.row 0 [.str [], .nilslice, .nilslice, .nilslice, .nilslice] true :: AB.row 0 (fcE.f f') true :: [AB.row 0 [.str [], .slice (H.length + 2) 0 0 1 3 .full, .nilslice, .nilslice, w] true]) (by rw [show 0 + (H ++ AB.row 0 (cpE.f c) true :: AB.row 0 [.str [], .nilslice, .nilslice, .nilslice, .nilslice] true :: AB.row 0 (fcE.f f') true :: [AB.row 0 [.str [], .slice (H.length + 2) 0 0 1 3 .full, .nilslice, .nilslice, w] true]).length = H.length + 4 by simp]; exact q.m)
      simpa using this) (by simp) (by omega) (fun p hp => by
        obtain ⟨x, hx, _, rfl⟩ := plP_mem hp
        have := (pf_pk (hpf x hx)).2.2.2.1
        show x.data.length ≤ 2 ^ 30
        omega)
    simp only [List.append_assoc, List.cons_append, List.nil_append] at e
    obtain ⟨k11, k12, k13, k14, k15, k16, k17⟩ := r1.cell
    obtain ⟨k41, k42, k43, k44, k45, k46, k47⟩ := r4.cell
    have hy := True.intro
    repeat' (first | simp (disch := first | rfl | omega | exact lt_new _ | assumption | decide | (simp [tk_here, tk_app, tk_0, tk_S, gr_here, gr_app, gr_0, gr_S] <;> omega) | fail) only [r8_0, r8_1, r8_2, r8_3, r8_4, r8_5, r8_6, r8_7, r8_8, r8_9, r8_10, r8_11, r8_12, r8_14, c8, rs8, gc8, l8_13, loadV_ptr, storeV_ptr, List.append_assoc, List.length_append, List.length_cons, List.length_nil, List.set_cons_zero, List.set_cons_succ, tk_here, tk_app, gr_here, gr_app, st_here, st_app, t2, t5, t25, t26, t27, Int.lt_irrefl, e, k11, k12, k13, k14, k15, k16, k17, k21, k22, k23, k24, k25, k26, k27, k41, k42, k43, k44, k45, k46, k47, go_sem, ↓reduceIte, Nat.reduceLT, Nat.reduceEqDiff, Nat.reduceAdd, Nat.reduceMul, Nat.reduceSub, Int.reduceAdd, Int.reduceSub, Nat.reduceLeDiff, Int.reduceLT, Int.reduceLE, Int.reduceEq, Int.reduceNeg, Int.reduceToNat, hy] | ((first | refine guardB_dec (fun hy => ?_) (fun hy => ?_) | refine guardB_bool (fun hy => ?_) (fun hy => ?_) | refine guardQ_ite (fun hy => ?_) (fun hy => ?_) | refine brQ_dec (fun hy => ?_) (fun hy => ?_) | refine brQ_bool (fun hy => ?_) (fun hy => ?_)) <;> (try simp only [Bool.not_eq_true', Bool.not_eq_false', Bool.and_eq_true, Bool.or_eq_false_iff, decide_eq_true_eq, decide_eq_false_iff_not] at hy)))
    obtain ⟨b1, i1⟩ := RowM.inl (f := 6) (A := H ++ AB.row 0 (cpE.f c) true :: AB.row 0 [.str [], v1, .nilslice, .nilslice, v4] true :: AB.row 0 (fcE.f f') true :: AB.row 0 [.str [], .slice (H.length + 2) 0 0 1 3 .full, .nilslice, .nilslice, w] true :: K) (m := H.length) r1 (by simp) (by simp)
    obtain ⟨b4, i4⟩ := RowM.inl (f := 6) (A := H ++ AB.row 0 (cpE.f c) true :: AB.row 0 [.str [], v1, .nilslice, .nilslice, v4] true :: AB.row 0 (fcE.f f') true :: AB.row 0 [.str [], .slice (H.length + 2) 0 0 1 3 .full, .nilslice, .nilslice, w] true :: K) (m := H.length) r4 (by simp) (by simp)
    simp only [List.append_assoc, List.cons_append, List.nil_append, cpE_f] at i1 i4
    refine ⟨⟨[], b1, [f'], true, [], true, [], b4, plP c.packets⟩, finQ_app ?_, rfl, rfl, rfl, rfl, rfl⟩
    simp (disch := first | rfl | omega | exact lt_new _ | assumption | decide | (simp [tk_here, tk_app, tk_0, tk_S, gr_here, gr_app, gr_0, gr_S] <;> omega) | fail) only [go_sem, ↓reduceIte, Nat.reduceLT, Nat.reduceEqDiff, Nat.reduceAdd, Nat.reduceMul, Nat.reduceSub, Int.reduceAdd, Int.reduceSub, Nat.reduceLeDiff, Int.reduceLT, Int.reduceLE, Int.reduceEq, Int.reduceNeg, Int.reduceToNat, i1, i4, cpE_f, slV_nil]
end Go.Proofs.Ytdkeiaeaahpfdaa
