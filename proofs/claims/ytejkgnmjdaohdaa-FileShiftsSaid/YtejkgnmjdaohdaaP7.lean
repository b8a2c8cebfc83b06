/-
  Texts of this seat, laid together. No statement of the seat stands here.
-/
import Derived.Test.YtejkgnmjdaohdaaP6
/-
  Texts of this seat, laid together. No statement of the seat stands here.
-/
/-
  Division of two words by one: its two loops; walked. No statement of the seat stands here.
-/
namespace Go.Proofs.Ytejkgnmjdaohdaa
open Go Go.An
set_option maxRecDepth 4000
set_option linter.unusedSimpArgs false
set_option linter.unusedVariables false

/-- What stands in the division's frame all along. -/
structure DivF (T : Fr) (V s y1 y0 U u1 u0 : Nat) : Prop where
  t2 : get T 2 = .int .u64 (V : Int)
  t8 : get T 8 = .int .u64 (s : Int)
  t9 : get T 9 = .int .u64 (y1 : Int)
  t10 : get T 10 = .int .u64 (y0 : Int)
  t11 : get T 11 = .int .u64 (U : Int)
  t13 : get T 13 = .int .u64 (u1 : Int)
  t14 : get T 14 = .int .u64 (u0 : Int)
theorem DivF.put {T : Fr} {V s y1 y0 U u1 u0 d : Nat} {v : An.V} (h : DivF T V s y1 y0 U u1 u0) (hd : d ≠ 2 ∧ d ≠ 8 ∧ d ≠ 9 ∧ d ≠ 10 ∧ d ≠ 11 ∧ d ≠ 13 ∧ d ≠ 14) : DivF (An.put T d v) V s y1 y0 U u1 u0 := by
  obtain ⟨h1, h2, h3, h4, h5, h6, h7⟩ := hd
  refine ⟨?_, ?_, ?_, ?_, ?_, ?_, ?_⟩ <;> rw [get_put, if_neg (by omega)]
  · exact h.t2
  · exact h.t8
  · exact h.t9
  · exact h.t10
  · exact h.t11
  · exact h.t13
  · exact h.t14
set_option maxHeartbeats 8000000 in
theorem dl1 {T : Fr} {H : Hp} {Q : Ex → Fr → Dfr → Hp → Prop} {V s y1 y0 U u1 u0 : Nat} (hV : V = y1 * 4294967296 + y0) (h1 : 2147483648 ≤ y1) (h1' : y1 < 4294967296) (h0 : y0 < 4294967296) (hU : U < V) (hu1 : u1 < 4294967296) (hF : DivF T V s y1 y0 U u1 u0)
    (t15 : get T 15 = .int .u64 ((U / y1 : Nat) : Int)) (t16 : get T 16 = .int .u64 ((U % y1 : Nat) : Int)) (hQ : ∀ T', DivF T' V s y1 y0 U u1 u0 → get T' 15 = .int .u64 (((U * 4294967296 + u1) / V : Nat) : Int) → Q (.exit 0) T' [] H) :
    Wp Try.prog (callL Try.prog pr) 135 (.loop l136_21) T [] H Q := by
  have hB : y1 > 0 := by omega
  obtain ⟨Q1, hQ1⟩ : ∃ Q1, (U * 4294967296 + u1) / V = Q1 := ⟨_, rfl⟩
  rw [hQ1] at hQ
  refine Wp_loop (fun m T D H' => ∃ q r : Nat, m = q ∧ D = [] ∧ H' = H ∧ DivF T V s y1 y0 U u1 u0 ∧ get T 15 = .int .u64 (q : Int) ∧ get T 16 = .int .u64 (r : Int) ∧ q * y1 + r = U ∧ Q1 ≤ q ∧ q ≤ 4294967297 ∧ r < 4294967296) ?_ (U / y1) _ _ _ ?_
  case refine_2 =>
    refine ⟨U / y1, U % y1, rfl, rfl, rfl, hF, t15, t16, ?_, hQ1 ▸ kd_le hV h1 hU hu1, kd_init hV h1 h0 hU, ?_⟩
    · rw [Nat.mul_comm]; exact Nat.div_add_mod U y1
    · exact Nat.lt_trans (Nat.mod_lt _ hB) h1'
  clear t15 t16 hF
  rintro q T D _ ⟨_, r, rfl, rfl, rfl, hF, t15, t16, hr, hq, hq2, hrB⟩
  obtain ⟨t2, t8, t9, t10, t11, t13, t14⟩ := id hF
  have dec : ∀ (ht : 4294967296 ≤ q ∨ 4294967296 * r + u1 < q * y0), 1 ≤ q ∧ (q - 1) * y1 + (r + y1) = U ∧ Q1 ≤ q - 1 := fun ht => by
    have := kd_dec hV hU hu1 hr (hQ1 ▸ hq) ht
    rw [hQ1] at this
    refine ⟨by omega, ?_, by omega⟩
    rw [Nat.sub_mul, Nat.one_mul]
    have : y1 ≤ q * y1 := Nat.le_mul_of_pos_left _ (by omega)
    omega
  have hq1 : IntKind.u64.wrap ((r : Int) + (y1 : Int)) = ((r + y1 : Nat) : Int) := by rw [u64m]; omega
  by_cases a1 : 4294967296 ≤ q
  · have a1' : (4294967296 : Int) ≤ q := by omega
    obtain ⟨d1, d2, d3⟩ := dec (.inl a1)
    have hq0 : IntKind.u64.wrap ((q : Int) - 1) = ((q - 1 : Nat) : Int) := by rw [u64m]; omega
    by_cases a2 : 4294967296 ≤ r + y1
    · have a2' : (4294967296 : Int) ≤ ((r + y1 : Nat) : Int) := by omega
      have hfin := kd_brk hV h1 h0 d2 (hQ1 ▸ d3) (by omega) a2
      rw [hQ1] at hfin
      simp (disch := first | rfl | omega | exact lt_new _ | assumption | decide | (simp [tk_here, tk_app, tk_0, tk_S, gr_here, gr_app, gr_0, gr_S] <;> omega) | fail) only [l136_21, r136_17, r136_18, r136_19, r136_20, t15, t16, t10, t13, t9, a1', hq0, hq1, a2', go_sem, ↓reduceIte, Nat.reduceLT, Nat.reduceEqDiff, Nat.reduceAdd, Nat.reduceMul, Nat.reduceSub, Int.reduceAdd, Int.reduceSub, Nat.reduceLeDiff, Int.reduceLT, Int.reduceLE, Int.reduceEq, Int.reduceNeg, Int.reduceToNat]
      repeat' ((first | refine guardB_dec (fun hy => ?_) (fun hy => ?_) | refine guardB_bool (fun hy => ?_) (fun hy => ?_) | refine guardQ_ite (fun hy => ?_) (fun hy => ?_) | refine brQ_dec (fun hy => ?_) (fun hy => ?_) | refine brQ_bool (fun hy => ?_) (fun hy => ?_)) <;> (try simp only [Bool.not_eq_true', Bool.not_eq_false', Bool.and_eq_true, Bool.or_eq_false_iff, decide_eq_true_eq, decide_eq_false_iff_not] at hy) <;> simp (disch := first | rfl | omega | exact lt_new _ | assumption | decide | (simp [tk_here, tk_app, tk_0, tk_S, gr_here, gr_app, gr_0, gr_S] <;> omega) | fail) only [l136_21, r136_17, r136_18, r136_19, r136_20, t15, t16, t10, t13, t9, a1', hq0, hq1, a2', go_sem, ↓reduceIte, Nat.reduceLT, Nat.reduceEqDiff, Nat.reduceAdd, Nat.reduceMul, Nat.reduceSub, Int.reduceAdd, Int.reduceSub, Nat.reduceLeDiff, Int.reduceLT, Int.reduceLE, Int.reduceEq, Int.reduceNeg, Int.reduceToNat, hy])
      refine hQ _ ?_ ?_
      · repeat refine DivF.put ?_ (by decide)
        exact hF
      · simp (disch := first | rfl | omega | exact lt_new _ | assumption | decide | (simp [tk_here, tk_app, tk_0, tk_S, gr_here, gr_app, gr_0, gr_S] <;> omega) | fail) only [go_sem, ↓reduceIte, Nat.reduceLT, Nat.reduceEqDiff, Nat.reduceAdd, Nat.reduceMul, Nat.reduceSub, Int.reduceAdd, Int.reduceSub, Nat.reduceLeDiff, Int.reduceLT, Int.reduceLE, Int.reduceEq, Int.reduceNeg, Int.reduceToNat, hfin, t15]
    · have a2' : ¬ (4294967296 : Int) ≤ ((r + y1 : Nat) : Int) := by omega
      simp (disch := first | rfl | omega | exact lt_new _ | assumption | decide | (simp [tk_here, tk_app, tk_0, tk_S, gr_here, gr_app, gr_0, gr_S] <;> omega) | fail) only [l136_21, r136_17, r136_18, r136_19, r136_20, t15, t16, t10, t13, t9, a1', hq0, hq1, a2', go_sem, ↓reduceIte, Nat.reduceLT, Nat.reduceEqDiff, Nat.reduceAdd, Nat.reduceMul, Nat.reduceSub, Int.reduceAdd, Int.reduceSub, Nat.reduceLeDiff, Int.reduceLT, Int.reduceLE, Int.reduceEq, Int.reduceNeg, Int.reduceToNat]
      repeat' ((first | refine guardB_dec (fun hy => ?_) (fun hy => ?_) | refine guardB_bool (fun hy => ?_) (fun hy => ?_) | refine guardQ_ite (fun hy => ?_) (fun hy => ?_) | refine brQ_dec (fun hy => ?_) (fun hy => ?_) | refine brQ_bool (fun hy => ?_) (fun hy => ?_)) <;> (try simp only [Bool.not_eq_true', Bool.not_eq_false', Bool.and_eq_true, Bool.or_eq_false_iff, decide_eq_true_eq, decide_eq_false_iff_not] at hy) <;> simp (disch := first | rfl | omega | exact lt_new _ | assumption | decide | (simp [tk_here, tk_app, tk_0, tk_S, gr_here, gr_app, gr_0, gr_S] <;> omega) | fail) only [l136_21, r136_17, r136_18, r136_19, r136_20, t15, t16, t10, t13, t9, a1', hq0, hq1, a2', go_sem, ↓reduceIte, Nat.reduceLT, Nat.reduceEqDiff, Nat.reduceAdd, Nat.reduceMul, Nat.reduceSub, Int.reduceAdd, Int.reduceSub, Nat.reduceLeDiff, Int.reduceLT, Int.reduceLE, Int.reduceEq, Int.reduceNeg, Int.reduceToNat, hy])
      refine ⟨_, by omega, q - 1, r + y1, rfl, ?_, by simp (disch := first | rfl | omega | exact lt_new _ | assumption | decide | (simp [tk_here, tk_app, tk_0, tk_S, gr_here, gr_app, gr_0, gr_S] <;> omega) | fail) only [go_sem, ↓reduceIte, Nat.reduceLT, Nat.reduceEqDiff, Nat.reduceAdd, Nat.reduceMul, Nat.reduceSub, Int.reduceAdd, Int.reduceSub, Nat.reduceLeDiff, Int.reduceLT, Int.reduceLE, Int.reduceEq, Int.reduceNeg, Int.reduceToNat], by simp (disch := first | rfl | omega | exact lt_new _ | assumption | decide | (simp [tk_here, tk_app, tk_0, tk_S, gr_here, gr_app, gr_0, gr_S] <;> omega) | fail) only [go_sem, ↓reduceIte, Nat.reduceLT, Nat.reduceEqDiff, Nat.reduceAdd, Nat.reduceMul, Nat.reduceSub, Int.reduceAdd, Int.reduceSub, Nat.reduceLeDiff, Int.reduceLT, Int.reduceLE, Int.reduceEq, Int.reduceNeg, Int.reduceToNat], d2, d3, by omega, by omega⟩
      repeat refine DivF.put ?_ (by decide)
      exact hF
  · have a1' : ¬ (4294967296 : Int) ≤ q := by omega
    obtain ⟨Z, hZ⟩ : ∃ Z, q * y0 = Z := ⟨_, rfl⟩
    have hZb : Z ≤ 18446744065119617025 := hZ ▸ prod_le (by omega) h0
    have wZ := wmul hZ (by omega)
    have wr : IntKind.u64.wrap (4294967296 * (r : Int)) = 4294967296 * (r : Int) := by rw [u64m]; omega
    have wr2 : IntKind.u64.wrap (4294967296 * (r : Int) + (u1 : Int)) = 4294967296 * (r : Int) + (u1 : Int) := by rw [u64m]; omega
    by_cases a3 : 4294967296 * r + u1 < Z
    · have a3' : 4294967296 * (r : Int) + (u1 : Int) < Z := by omega
      obtain ⟨d1, d2, d3⟩ := dec (.inr (by rw [hZ]; exact a3))
      have hq0 : IntKind.u64.wrap ((q : Int) - 1) = ((q - 1 : Nat) : Int) := by rw [u64m]; omega
      by_cases a2 : 4294967296 ≤ r + y1
      · have a2' : (4294967296 : Int) ≤ ((r + y1 : Nat) : Int) := by omega
        have hfin := kd_brk hV h1 h0 d2 (hQ1 ▸ d3) (by omega) a2
        rw [hQ1] at hfin
        simp (disch := first | rfl | omega | exact lt_new _ | assumption | decide | (simp [tk_here, tk_app, tk_0, tk_S, gr_here, gr_app, gr_0, gr_S] <;> omega) | fail) only [l136_21, r136_17, r136_18, r136_19, r136_20, t15, t16, t10, t13, t9, a1', wZ, wr, wr2, a3', hq0, hq1, a2', go_sem, ↓reduceIte, Nat.reduceLT, Nat.reduceEqDiff, Nat.reduceAdd, Nat.reduceMul, Nat.reduceSub, Int.reduceAdd, Int.reduceSub, Nat.reduceLeDiff, Int.reduceLT, Int.reduceLE, Int.reduceEq, Int.reduceNeg, Int.reduceToNat]
        repeat' ((first | refine guardB_dec (fun hy => ?_) (fun hy => ?_) | refine guardB_bool (fun hy => ?_) (fun hy => ?_) | refine guardQ_ite (fun hy => ?_) (fun hy => ?_) | refine brQ_dec (fun hy => ?_) (fun hy => ?_) | refine brQ_bool (fun hy => ?_) (fun hy => ?_)) <;> (try simp only [Bool.not_eq_true', Bool.not_eq_false', Bool.and_eq_true, Bool.or_eq_false_iff, decide_eq_true_eq, decide_eq_false_iff_not] at hy) <;> simp (disch := first | rfl | omega | exact lt_new _ | assumption | decide | (simp [tk_here, tk_app, tk_0, tk_S, gr_here, gr_app, gr_0, gr_S] <;> omega) | fail) only [l136_21, r136_17, r136_18, r136_19, r136_20, t15, t16, t10, t13, t9, a1', wZ, wr, wr2, a3', hq0, hq1, a2', go_sem, ↓reduceIte, Nat.reduceLT, Nat.reduceEqDiff, Nat.reduceAdd, Nat.reduceMul, Nat.reduceSub, Int.reduceAdd, Int.reduceSub, Nat.reduceLeDiff, Int.reduceLT, Int.reduceLE, Int.reduceEq, Int.reduceNeg, Int.reduceToNat, hy])
        refine hQ _ ?_ ?_
        · repeat refine DivF.put ?_ (by decide)
          exact hF
        · simp (disch := first | rfl | omega | exact lt_new _ | assumption | decide | (simp [tk_here, tk_app, tk_0, tk_S, gr_here, gr_app, gr_0, gr_S] <;> omega) | fail) only [go_sem, ↓reduceIte, Nat.reduceLT, Nat.reduceEqDiff, Nat.reduceAdd, Nat.reduceMul, Nat.reduceSub, Int.reduceAdd, Int.reduceSub, Nat.reduceLeDiff, Int.reduceLT, Int.reduceLE, Int.reduceEq, Int.reduceNeg, Int.reduceToNat, hfin, t15]
      · have a2' : ¬ (4294967296 : Int) ≤ ((r + y1 : Nat) : Int) := by omega
        simp (disch := first | rfl | omega | exact lt_new _ | assumption | decide | (simp [tk_here, tk_app, tk_0, tk_S, gr_here, gr_app, gr_0, gr_S] <;> omega) | fail) only [l136_21, r136_17, r136_18, r136_19, r136_20, t15, t16, t10, t13, t9, a1', wZ, wr, wr2, a3', hq0, hq1, a2', go_sem, ↓reduceIte, Nat.reduceLT, Nat.reduceEqDiff, Nat.reduceAdd, Nat.reduceMul, Nat.reduceSub, Int.reduceAdd, Int.reduceSub, Nat.reduceLeDiff, Int.reduceLT, Int.reduceLE, Int.reduceEq, Int.reduceNeg, Int.reduceToNat]
        repeat' ((first | refine guardB_dec (fun hy => ?_) (fun hy => ?_) | refine guardB_bool (fun hy => ?_) (fun hy => ?_) | refine guardQ_ite (fun hy => ?_) (fun hy => ?_) | refine brQ_dec (fun hy => ?_) (fun hy => ?_) | refine brQ_bool (fun hy => ?_) (fun hy => ?_)) <;> (try simp only [Bool.not_eq_true', Bool.not_eq_false', Bool.and_eq_true, Bool.or_eq_false_iff, decide_eq_true_eq, decide_eq_false_iff_not] at hy) <;> simp (disch := first | rfl | omega | exact lt_new _ | assumption | decide | (simp [tk_here, tk_app, tk_0, tk_S, gr_here, gr_app, gr_0, gr_S] <;> omega) | fail) only [l136_21, r136_17, r136_18, r136_19, r136_20, t15, t16, t10, t13, t9, a1', wZ, wr, wr2, a3', hq0, hq1, a2', go_sem, ↓reduceIte, Nat.reduceLT, Nat.reduceEqDiff, Nat.reduceAdd, Nat.reduceMul, Nat.reduceSub, Int.reduceAdd, Int.reduceSub, Nat.reduceLeDiff, Int.reduceLT, Int.reduceLE, Int.reduceEq, Int.reduceNeg, Int.reduceToNat, hy])
        refine ⟨_, by omega, q - 1, r + y1, rfl, ?_, by simp (disch := first | rfl | omega | exact lt_new _ | assumption | decide | (simp [tk_here, tk_app, tk_0, tk_S, gr_here, gr_app, gr_0, gr_S] <;> omega) | fail) only [go_sem, ↓reduceIte, Nat.reduceLT, Nat.reduceEqDiff, Nat.reduceAdd, Nat.reduceMul, Nat.reduceSub, Int.reduceAdd, Int.reduceSub, Nat.reduceLeDiff, Int.reduceLT, Int.reduceLE, Int.reduceEq, Int.reduceNeg, Int.reduceToNat], by simp (disch := first | rfl | omega | exact lt_new _ | assumption | decide | (simp [tk_here, tk_app, tk_0, tk_S, gr_here, gr_app, gr_0, gr_S] <;> omega) | fail) only [go_sem, ↓reduceIte, Nat.reduceLT, Nat.reduceEqDiff, Nat.reduceAdd, Nat.reduceMul, Nat.reduceSub, Int.reduceAdd, Int.reduceSub, Nat.reduceLeDiff, Int.reduceLT, Int.reduceLE, Int.reduceEq, Int.reduceNeg, Int.reduceToNat], d2, d3, by omega, by omega⟩
        repeat refine DivF.put ?_ (by decide)
        exact hF
    · have a3' : ¬ 4294967296 * (r : Int) + (u1 : Int) < Z := by omega
      have hfin := kd_done hV h1 hr (hQ1 ▸ hq) (by rw [hZ]; omega)
      rw [hQ1] at hfin
      simp (disch := first | rfl | omega | exact lt_new _ | assumption | decide | (simp [tk_here, tk_app, tk_0, tk_S, gr_here, gr_app, gr_0, gr_S] <;> omega) | fail) only [l136_21, r136_17, t15, t16, t10, t13, t9, a1', wZ, wr, wr2, a3', go_sem, ↓reduceIte, Nat.reduceLT, Nat.reduceEqDiff, Nat.reduceAdd, Nat.reduceMul, Nat.reduceSub, Int.reduceAdd, Int.reduceSub, Nat.reduceLeDiff, Int.reduceLT, Int.reduceLE, Int.reduceEq, Int.reduceNeg, Int.reduceToNat]
      repeat' ((first | refine guardB_dec (fun hy => ?_) (fun hy => ?_) | refine guardB_bool (fun hy => ?_) (fun hy => ?_) | refine guardQ_ite (fun hy => ?_) (fun hy => ?_) | refine brQ_dec (fun hy => ?_) (fun hy => ?_) | refine brQ_bool (fun hy => ?_) (fun hy => ?_)) <;> (try simp only [Bool.not_eq_true', Bool.not_eq_false', Bool.and_eq_true, Bool.or_eq_false_iff, decide_eq_true_eq, decide_eq_false_iff_not] at hy) <;> simp (disch := first | rfl | omega | exact lt_new _ | assumption | decide | (simp [tk_here, tk_app, tk_0, tk_S, gr_here, gr_app, gr_0, gr_S] <;> omega) | fail) only [l136_21, r136_17, t15, t16, t10, t13, t9, a1', wZ, wr, wr2, a3', go_sem, ↓reduceIte, Nat.reduceLT, Nat.reduceEqDiff, Nat.reduceAdd, Nat.reduceMul, Nat.reduceSub, Int.reduceAdd, Int.reduceSub, Nat.reduceLeDiff, Int.reduceLT, Int.reduceLE, Int.reduceEq, Int.reduceNeg, Int.reduceToNat, hy])
      refine hQ _ ?_ ?_
      · repeat refine DivF.put ?_ (by decide)
        exact hF
      · simp (disch := first | rfl | omega | exact lt_new _ | assumption | decide | (simp [tk_here, tk_app, tk_0, tk_S, gr_here, gr_app, gr_0, gr_S] <;> omega) | fail) only [go_sem, ↓reduceIte, Nat.reduceLT, Nat.reduceEqDiff, Nat.reduceAdd, Nat.reduceMul, Nat.reduceSub, Int.reduceAdd, Int.reduceSub, Nat.reduceLeDiff, Int.reduceLT, Int.reduceLE, Int.reduceEq, Int.reduceNeg, Int.reduceToNat, hfin, t15]
/-- The same in the second half. -/
structure DivG (T : Fr) (V s y1 y0 U u1 u0 : Nat) : Prop where
  t2 : get T 2 = .int .u64 (V : Int)
  t8 : get T 8 = .int .u64 (s : Int)
  t9 : get T 9 = .int .u64 (y1 : Int)
  t10 : get T 10 = .int .u64 (y0 : Int)
  t17 : get T 17 = .int .u64 (U : Int)
  t14 : get T 14 = .int .u64 (u1 : Int)
  t15 : get T 15 = .int .u64 (u0 : Int)
theorem DivG.put {T : Fr} {V s y1 y0 U u1 u0 d : Nat} {v : An.V} (h : DivG T V s y1 y0 U u1 u0) (hd : d ≠ 2 ∧ d ≠ 8 ∧ d ≠ 9 ∧ d ≠ 10 ∧ d ≠ 17 ∧ d ≠ 14 ∧ d ≠ 15) : DivG (An.put T d v) V s y1 y0 U u1 u0 := by
  obtain ⟨h1, h2, h3, h4, h5, h6, h7⟩ := hd
  refine ⟨?_, ?_, ?_, ?_, ?_, ?_, ?_⟩ <;> rw [get_put, if_neg (by omega)]
  · exact h.t2
  · exact h.t8
  · exact h.t9
  · exact h.t10
  · exact h.t17
  · exact h.t14
  · exact h.t15
set_option maxHeartbeats 8000000 in
theorem dl2 {T : Fr} {H : Hp} {Q : Ex → Fr → Dfr → Hp → Prop} {V s y1 y0 U u1 u0 : Nat} (hV : V = y1 * 4294967296 + y0) (h1 : 2147483648 ≤ y1) (h1' : y1 < 4294967296) (h0 : y0 < 4294967296) (hU : U < V) (hu1 : u1 < 4294967296) (hF : DivG T V s y1 y0 U u1 u0)
    (t18 : get T 18 = .int .u64 ((U / y1 : Nat) : Int)) (t16 : get T 16 = .int .u64 ((U % y1 : Nat) : Int)) (hQ : ∀ T', DivG T' V s y1 y0 U u1 u0 → get T' 18 = .int .u64 (((U * 4294967296 + u1) / V : Nat) : Int) → Q (.exit 2) T' [] H) :
    Wp Try.prog (callL Try.prog pr) 135 (.loop l136_29) T [] H Q := by
  have hB : y1 > 0 := by omega
  obtain ⟨Q1, hQ1⟩ : ∃ Q1, (U * 4294967296 + u1) / V = Q1 := ⟨_, rfl⟩
  rw [hQ1] at hQ
  refine Wp_loop (fun m T D H' => ∃ q r : Nat, m = q ∧ D = [] ∧ H' = H ∧ DivG T V s y1 y0 U u1 u0 ∧ get T 18 = .int .u64 (q : Int) ∧ get T 16 = .int .u64 (r : Int) ∧ q * y1 + r = U ∧ Q1 ≤ q ∧ q ≤ 4294967297 ∧ r < 4294967296) ?_ (U / y1) _ _ _ ?_
  case refine_2 =>
    refine ⟨U / y1, U % y1, rfl, rfl, rfl, hF, t18, t16, ?_, hQ1 ▸ kd_le hV h1 hU hu1, kd_init hV h1 h0 hU, ?_⟩
    · rw [Nat.mul_comm]; exact Nat.div_add_mod U y1
    · exact Nat.lt_trans (Nat.mod_lt _ hB) h1'
  clear t18 t16 hF
  rintro q T D _ ⟨_, r, rfl, rfl, rfl, hF, t18, t16, hr, hq, hq2, hrB⟩
  obtain ⟨t2, t8, t9, t10, t17, t14, tq⟩ := id hF
  have dec : ∀ (ht : 4294967296 ≤ q ∨ 4294967296 * r + u1 < q * y0), 1 ≤ q ∧ (q - 1) * y1 + (r + y1) = U ∧ Q1 ≤ q - 1 := fun ht => by
    have := kd_dec hV hU hu1 hr (hQ1 ▸ hq) ht
    rw [hQ1] at this
    refine ⟨by omega, ?_, by omega⟩
    rw [Nat.sub_mul, Nat.one_mul]
    have : y1 ≤ q * y1 := Nat.le_mul_of_pos_left _ (by omega)
    omega
  have hq1 : IntKind.u64.wrap ((r : Int) + (y1 : Int)) = ((r + y1 : Nat) : Int) := by rw [u64m]; omega
  by_cases a1 : 4294967296 ≤ q
  · have a1' : (4294967296 : Int) ≤ q := by omega
    obtain ⟨d1, d2, d3⟩ := dec (.inl a1)
    have hq0 : IntKind.u64.wrap ((q : Int) - 1) = ((q - 1 : Nat) : Int) := by rw [u64m]; omega
    by_cases a2 : 4294967296 ≤ r + y1
    · have a2' : (4294967296 : Int) ≤ ((r + y1 : Nat) : Int) := by omega
      have hfin := kd_brk hV h1 h0 d2 (hQ1 ▸ d3) (by omega) a2
      rw [hQ1] at hfin
      simp (disch := first | rfl | omega | exact lt_new _ | assumption | decide | (simp [tk_here, tk_app, tk_0, tk_S, gr_here, gr_app, gr_0, gr_S] <;> omega) | fail) only [l136_29, r136_25, r136_26, r136_27, r136_28, t18, t16, t10, t14, t9, a1', hq0, hq1, a2', go_sem, ↓reduceIte, Nat.reduceLT, Nat.reduceEqDiff, Nat.reduceAdd, Nat.reduceMul, Nat.reduceSub, Int.reduceAdd, Int.reduceSub, Nat.reduceLeDiff, Int.reduceLT, Int.reduceLE, Int.reduceEq, Int.reduceNeg, Int.reduceToNat]
      repeat' ((first | refine guardB_dec (fun hy => ?_) (fun hy => ?_) | refine guardB_bool (fun hy => ?_) (fun hy => ?_) | refine guardQ_ite (fun hy => ?_) (fun hy => ?_) | refine brQ_dec (fun hy => ?_) (fun hy => ?_) | refine brQ_bool (fun hy => ?_) (fun hy => ?_)) <;> (try simp only [Bool.not_eq_true', Bool.not_eq_false', Bool.and_eq_true, Bool.or_eq_false_iff, decide_eq_true_eq, decide_eq_false_iff_not] at hy) <;> simp (disch := first | rfl | omega | exact lt_new _ | assumption | decide | (simp [tk_here, tk_app, tk_0, tk_S, gr_here, gr_app, gr_0, gr_S] <;> omega) | fail) only [l136_29, r136_25, r136_26, r136_27, r136_28, t18, t16, t10, t14, t9, a1', hq0, hq1, a2', go_sem, ↓reduceIte, Nat.reduceLT, Nat.reduceEqDiff, Nat.reduceAdd, Nat.reduceMul, Nat.reduceSub, Int.reduceAdd, Int.reduceSub, Nat.reduceLeDiff, Int.reduceLT, Int.reduceLE, Int.reduceEq, Int.reduceNeg, Int.reduceToNat, hy])
      refine hQ _ ?_ ?_
      · repeat refine DivG.put ?_ (by decide)
        exact hF
      · simp (disch := first | rfl | omega | exact lt_new _ | assumption | decide | (simp [tk_here, tk_app, tk_0, tk_S, gr_here, gr_app, gr_0, gr_S] <;> omega) | fail) only [go_sem, ↓reduceIte, Nat.reduceLT, Nat.reduceEqDiff, Nat.reduceAdd, Nat.reduceMul, Nat.reduceSub, Int.reduceAdd, Int.reduceSub, Nat.reduceLeDiff, Int.reduceLT, Int.reduceLE, Int.reduceEq, Int.reduceNeg, Int.reduceToNat, hfin, t18]
    · have a2' : ¬ (4294967296 : Int) ≤ ((r + y1 : Nat) : Int) := by omega
      simp (disch := first | rfl | omega | exact lt_new _ | assumption | decide | (simp [tk_here, tk_app, tk_0, tk_S, gr_here, gr_app, gr_0, gr_S] <;> omega) | fail) only [l136_29, r136_25, r136_26, r136_27, r136_28, t18, t16, t10, t14, t9, a1', hq0, hq1, a2', go_sem, ↓reduceIte, Nat.reduceLT, Nat.reduceEqDiff, Nat.reduceAdd, Nat.reduceMul, Nat.reduceSub, Int.reduceAdd, Int.reduceSub, Nat.reduceLeDiff, Int.reduceLT, Int.reduceLE, Int.reduceEq, Int.reduceNeg, Int.reduceToNat]
      repeat' ((first | refine guardB_dec (fun hy => ?_) (fun hy => ?_) | refine guardB_bool (fun hy => ?_) (fun hy => ?_) | refine guardQ_ite (fun hy => ?_) (fun hy => ?_) | refine brQ_dec (fun hy => ?_) (fun hy => ?_) | refine brQ_bool (fun hy => ?_) (fun hy => ?_)) <;> (try simp only [Bool.not_eq_true', Bool.not_eq_false', Bool.and_eq_true, Bool.or_eq_false_iff, decide_eq_true_eq, decide_eq_false_iff_not] at hy) <;> simp (disch := first | rfl | omega | exact lt_new _ | assumption | decide | (simp [tk_here, tk_app, tk_0, tk_S, gr_here, gr_app, gr_0, gr_S] <;> omega) | fail) only [l136_29, r136_25, r136_26, r136_27, r136_28, t18, t16, t10, t14, t9, a1', hq0, hq1, a2', go_sem, ↓reduceIte, Nat.reduceLT, Nat.reduceEqDiff, Nat.reduceAdd, Nat.reduceMul, Nat.reduceSub, Int.reduceAdd, Int.reduceSub, Nat.reduceLeDiff, Int.reduceLT, Int.reduceLE, Int.reduceEq, Int.reduceNeg, Int.reduceToNat, hy])
      refine ⟨_, by omega, q - 1, r + y1, rfl, ?_, by simp (disch := first | rfl | omega | exact lt_new _ | assumption | decide | (simp [tk_here, tk_app, tk_0, tk_S, gr_here, gr_app, gr_0, gr_S] <;> omega) | fail) only [go_sem, ↓reduceIte, Nat.reduceLT, Nat.reduceEqDiff, Nat.reduceAdd, Nat.reduceMul, Nat.reduceSub, Int.reduceAdd, Int.reduceSub, Nat.reduceLeDiff, Int.reduceLT, Int.reduceLE, Int.reduceEq, Int.reduceNeg, Int.reduceToNat], by simp (disch := first | rfl | omega | exact lt_new _ | assumption | decide | (simp [tk_here, tk_app, tk_0, tk_S, gr_here, gr_app, gr_0, gr_S] <;> omega) | fail) only [go_sem, ↓reduceIte, Nat.reduceLT, Nat.reduceEqDiff, Nat.reduceAdd, Nat.reduceMul, Nat.reduceSub, Int.reduceAdd, Int.reduceSub, Nat.reduceLeDiff, Int.reduceLT, Int.reduceLE, Int.reduceEq, Int.reduceNeg, Int.reduceToNat], d2, d3, by omega, by omega⟩
      repeat refine DivG.put ?_ (by decide)
      exact hF
  · have a1' : ¬ (4294967296 : Int) ≤ q := by omega
    obtain ⟨Z, hZ⟩ : ∃ Z, q * y0 = Z := ⟨_, rfl⟩
    have hZb : Z ≤ 18446744065119617025 := hZ ▸ prod_le (by omega) h0
    have wZ := wmul hZ (by omega)
    have wr : IntKind.u64.wrap (4294967296 * (r : Int)) = 4294967296 * (r : Int) := by rw [u64m]; omega
    have wr2 : IntKind.u64.wrap (4294967296 * (r : Int) + (u1 : Int)) = 4294967296 * (r : Int) + (u1 : Int) := by rw [u64m]; omega
    by_cases a3 : 4294967296 * r + u1 < Z
    · have a3' : 4294967296 * (r : Int) + (u1 : Int) < Z := by omega
      obtain ⟨d1, d2, d3⟩ := dec (.inr (by rw [hZ]; exact a3))
      have hq0 : IntKind.u64.wrap ((q : Int) - 1) = ((q - 1 : Nat) : Int) := by rw [u64m]; omega
      by_cases a2 : 4294967296 ≤ r + y1
      · have a2' : (4294967296 : Int) ≤ ((r + y1 : Nat) : Int) := by omega
        have hfin := kd_brk hV h1 h0 d2 (hQ1 ▸ d3) (by omega) a2
        rw [hQ1] at hfin
        simp (disch := first | rfl | omega | exact lt_new _ | assumption | decide | (simp [tk_here, tk_app, tk_0, tk_S, gr_here, gr_app, gr_0, gr_S] <;> omega) | fail) only [l136_29, r136_25, r136_26, r136_27, r136_28, t18, t16, t10, t14, t9, a1', wZ, wr, wr2, a3', hq0, hq1, a2', go_sem, ↓reduceIte, Nat.reduceLT, Nat.reduceEqDiff, Nat.reduceAdd, Nat.reduceMul, Nat.reduceSub, Int.reduceAdd, Int.reduceSub, Nat.reduceLeDiff, Int.reduceLT, Int.reduceLE, Int.reduceEq, Int.reduceNeg, Int.reduceToNat]
        repeat' ((first | refine guardB_dec (fun hy => ?_) (fun hy => ?_) | refine guardB_bool (fun hy => ?_) (fun hy => ?_) | refine guardQ_ite (fun hy => ?_) (fun hy => ?_) | refine brQ_dec (fun hy => ?_) (fun hy => ?_) | refine brQ_bool (fun hy => ?_) (fun hy => ?_)) <;> (try simp only [Bool.not_eq_true', Bool.not_eq_false', Bool.and_eq_true, Bool.or_eq_false_iff, decide_eq_true_eq, decide_eq_false_iff_not] at hy) <;> simp (disch := first | rfl | omega | exact lt_new _ | assumption | decide | (simp [tk_here, tk_app, tk_0, tk_S, gr_here, gr_app, gr_0, gr_S] <;> omega) | fail) only [l136_29, r136_25, r136_26, r136_27, r136_28, t18, t16, t10, t14, t9, a1', wZ, wr, wr2, a3', hq0, hq1, a2', go_sem, ↓reduceIte, Nat.reduceLT, Nat.reduceEqDiff, Nat.reduceAdd, Nat.reduceMul, Nat.reduceSub, Int.reduceAdd, Int.reduceSub, Nat.reduceLeDiff, Int.reduceLT, Int.reduceLE, Int.reduceEq, Int.reduceNeg, Int.reduceToNat, hy])
        refine hQ _ ?_ ?_
        · repeat refine DivG.put ?_ (by decide)
          exact hF
        · simp (disch := first | rfl | omega | exact lt_new _ | assumption | decide | (simp [tk_here, tk_app, tk_0, tk_S, gr_here, gr_app, gr_0, gr_S] <;> omega) | fail) only [go_sem, ↓reduceIte, Nat.reduceLT, Nat.reduceEqDiff, Nat.reduceAdd, Nat.reduceMul, Nat.reduceSub, Int.reduceAdd, Int.reduceSub, Nat.reduceLeDiff, Int.reduceLT, Int.reduceLE, Int.reduceEq, Int.reduceNeg, Int.reduceToNat, hfin, t18]
      · have a2' : ¬ (4294967296 : Int) ≤ ((r + y1 : Nat) : Int) := by omega
        simp (disch := first | rfl | omega | exact lt_new _ | assumption | decide | (simp [tk_here, tk_app, tk_0, tk_S, gr_here, gr_app, gr_0, gr_S] <;> omega) | fail) only [l136_29, r136_25, r136_26, r136_27, r136_28, t18, t16, t10, t14, t9, a1', wZ, wr, wr2, a3', hq0, hq1, a2', go_sem, ↓reduceIte, Nat.reduceLT, Nat.reduceEqDiff, Nat.reduceAdd, Nat.reduceMul, Nat.reduceSub, Int.reduceAdd, Int.reduceSub, Nat.reduceLeDiff, Int.reduceLT, Int.reduceLE, Int.reduceEq, Int.reduceNeg, Int.reduceToNat]
        repeat' ((first | refine guardB_dec (fun hy => ?_) (fun hy => ?_) | refine guardB_bool (fun hy => ?_) (fun hy => ?_) | refine guardQ_ite (fun hy => ?_) (fun hy => ?_) | refine brQ_dec (fun hy => ?_) (fun hy => ?_) | refine brQ_bool (fun hy => ?_) (fun hy => ?_)) <;> (try simp only [Bool.not_eq_true', Bool.not_eq_false', Bool.and_eq_true, Bool.or_eq_false_iff, decide_eq_true_eq, decide_eq_false_iff_not] at hy) <;> simp (disch := first | rfl | omega | exact lt_new _ | assumption | decide | (simp [tk_here, tk_app, tk_0, tk_S, gr_here, gr_app, gr_0, gr_S] <;> omega) | fail) only [l136_29, r136_25, r136_26, r136_27, r136_28, t18, t16, t10, t14, t9, a1', wZ, wr, wr2, a3', hq0, hq1, a2', go_sem, ↓reduceIte, Nat.reduceLT, Nat.reduceEqDiff, Nat.reduceAdd, Nat.reduceMul, Nat.reduceSub, Int.reduceAdd, Int.reduceSub, Nat.reduceLeDiff, Int.reduceLT, Int.reduceLE, Int.reduceEq, Int.reduceNeg, Int.reduceToNat, hy])
        refine ⟨_, by omega, q - 1, r + y1, rfl, ?_, by simp (disch := first | rfl | omega | exact lt_new _ | assumption | decide | (simp [tk_here, tk_app, tk_0, tk_S, gr_here, gr_app, gr_0, gr_S] <;> omega) | fail) only [go_sem, ↓reduceIte, Nat.reduceLT, Nat.reduceEqDiff, Nat.reduceAdd, Nat.reduceMul, Nat.reduceSub, Int.reduceAdd, Int.reduceSub, Nat.reduceLeDiff, Int.reduceLT, Int.reduceLE, Int.reduceEq, Int.reduceNeg, Int.reduceToNat], by simp (disch := first | rfl | omega | exact lt_new _ | assumption | decide | (simp [tk_here, tk_app, tk_0, tk_S, gr_here, gr_app, gr_0, gr_S] <;> omega) | fail) only [go_sem, ↓reduceIte, Nat.reduceLT, Nat.reduceEqDiff, Nat.reduceAdd, Nat.reduceMul, Nat.reduceSub, Int.reduceAdd, Int.reduceSub, Nat.reduceLeDiff, Int.reduceLT, Int.reduceLE, Int.reduceEq, Int.reduceNeg, Int.reduceToNat], d2, d3, by omega, by omega⟩
        repeat refine DivG.put ?_ (by decide)
        exact hF
    · have a3' : ¬ 4294967296 * (r : Int) + (u1 : Int) < Z := by omega
      have hfin := kd_done hV h1 hr (hQ1 ▸ hq) (by rw [hZ]; omega)
      rw [hQ1] at hfin
      simp (disch := first | rfl | omega | exact lt_new _ | assumption | decide | (simp [tk_here, tk_app, tk_0, tk_S, gr_here, gr_app, gr_0, gr_S] <;> omega) | fail) only [l136_29, r136_25, t18, t16, t10, t14, t9, a1', wZ, wr, wr2, a3', go_sem, ↓reduceIte, Nat.reduceLT, Nat.reduceEqDiff, Nat.reduceAdd, Nat.reduceMul, Nat.reduceSub, Int.reduceAdd, Int.reduceSub, Nat.reduceLeDiff, Int.reduceLT, Int.reduceLE, Int.reduceEq, Int.reduceNeg, Int.reduceToNat]
      repeat' ((first | refine guardB_dec (fun hy => ?_) (fun hy => ?_) | refine guardB_bool (fun hy => ?_) (fun hy => ?_) | refine guardQ_ite (fun hy => ?_) (fun hy => ?_) | refine brQ_dec (fun hy => ?_) (fun hy => ?_) | refine brQ_bool (fun hy => ?_) (fun hy => ?_)) <;> (try simp only [Bool.not_eq_true', Bool.not_eq_false', Bool.and_eq_true, Bool.or_eq_false_iff, decide_eq_true_eq, decide_eq_false_iff_not] at hy) <;> simp (disch := first | rfl | omega | exact lt_new _ | assumption | decide | (simp [tk_here, tk_app, tk_0, tk_S, gr_here, gr_app, gr_0, gr_S] <;> omega) | fail) only [l136_29, r136_25, t18, t16, t10, t14, t9, a1', wZ, wr, wr2, a3', go_sem, ↓reduceIte, Nat.reduceLT, Nat.reduceEqDiff, Nat.reduceAdd, Nat.reduceMul, Nat.reduceSub, Int.reduceAdd, Int.reduceSub, Nat.reduceLeDiff, Int.reduceLT, Int.reduceLE, Int.reduceEq, Int.reduceNeg, Int.reduceToNat, hy])
      refine hQ _ ?_ ?_
      · repeat refine DivG.put ?_ (by decide)
        exact hF
      · simp (disch := first | rfl | omega | exact lt_new _ | assumption | decide | (simp [tk_here, tk_app, tk_0, tk_S, gr_here, gr_app, gr_0, gr_S] <;> omega) | fail) only [go_sem, ↓reduceIte, Nat.reduceLT, Nat.reduceEqDiff, Nat.reduceAdd, Nat.reduceMul, Nat.reduceSub, Int.reduceAdd, Int.reduceSub, Nat.reduceLeDiff, Int.reduceLT, Int.reduceLE, Int.reduceEq, Int.reduceNeg, Int.reduceToNat, hfin, t18]
end Go.Proofs.Ytejkgnmjdaohdaa
/-
  Division of two words by one; walked. No statement of the seat stands here.
-/
namespace Go.Proofs.Ytejkgnmjdaohdaa
open Go Go.An
set_option maxRecDepth 4000
set_option linter.unusedSimpArgs false
set_option linter.unusedVariables false

theorem tdivN (a b : Nat) : ((a : Int)).tdiv (b : Int) = ((a / b : Nat) : Int) := rfl
theorem tmodN (a b : Nat) : ((a : Int)).tmod (b : Int) = ((a % b : Nat) : Int) := rfl
theorem kaL {U d Q V R Z u : Nat} (h1 : d / 4294967296 = u) (h2 : Q * V = Z) (h3 : Z + R = U * 4294967296 + u) : U * 4294967296 + d / 4294967296 = Q * V + R := by omega
theorem kbL {U d Q V R Z u : Nat} (h1 : d % 4294967296 = u) (h2 : Q * V = Z) (h3 : Z + R = U * 4294967296 + u) : U * 4294967296 + d % 4294967296 = Q * V + R := by omega
theorem fn161 (y : Nat) (hy : y < 18446744073709551616) (H : Hp) : callL Try.prog pr 161 [.int .u64 (y : Int)] H = some (.int .i64 ((64 - bl y : Nat) : Int), H) := by
  have h177 := fn171 y hy
  have hb : bl y ≤ 64 := bl_le (k := 64) hy
  have e : (64 : Int) - (bl y : Int) = ((64 - bl y : Nat) : Int) := by omega
  refine run161 (Nat.le_of_ble_eq_true rfl) ?_
  simp (disch := first | rfl | omega | exact lt_new _ | assumption | decide | (simp [tk_here, tk_app, tk_0, tk_S, gr_here, gr_app, gr_0, gr_S] <;> omega) | fail) only [r161_0, r161_1, c161, rs161, gc161, h177, e, go_sem, ↓reduceIte, Nat.reduceLT, Nat.reduceEqDiff, Nat.reduceAdd, Nat.reduceMul, Nat.reduceSub, Int.reduceAdd, Int.reduceSub, Nat.reduceLeDiff, Int.reduceLT, Int.reduceLE, Int.reduceEq, Int.reduceNeg, Int.reduceToNat]
  repeat' ((first | refine guardB_dec (fun hy => ?_) (fun hy => ?_) | refine guardB_bool (fun hy => ?_) (fun hy => ?_) | refine guardQ_ite (fun hy => ?_) (fun hy => ?_) | refine brQ_dec (fun hy => ?_) (fun hy => ?_) | refine brQ_bool (fun hy => ?_) (fun hy => ?_)) <;> (try simp only [Bool.not_eq_true', Bool.not_eq_false', Bool.and_eq_true, Bool.or_eq_false_iff, decide_eq_true_eq, decide_eq_false_iff_not] at hy) <;> simp (disch := first | rfl | omega | exact lt_new _ | assumption | decide | (simp [tk_here, tk_app, tk_0, tk_S, gr_here, gr_app, gr_0, gr_S] <;> omega) | fail) only [r161_0, r161_1, c161, rs161, gc161, h177, e, go_sem, ↓reduceIte, Nat.reduceLT, Nat.reduceEqDiff, Nat.reduceAdd, Nat.reduceMul, Nat.reduceSub, Int.reduceAdd, Int.reduceSub, Nat.reduceLeDiff, Int.reduceLT, Int.reduceLE, Int.reduceEq, Int.reduceNeg, Int.reduceToNat, hy])
  all_goals (try ((first | refine finQ_same ?_ | refine finQ_app ?_ | (rw [List.append_assoc]; refine finQ_app ?_)) <;> simp (disch := first | rfl | omega | exact lt_new _ | assumption | decide | (simp [tk_here, tk_app, tk_0, tk_S, gr_here, gr_app, gr_0, gr_S] <;> omega) | fail) only [go_sem, ↓reduceIte, Nat.reduceLT, Nat.reduceEqDiff, Nat.reduceAdd, Nat.reduceMul, Nat.reduceSub, Int.reduceAdd, Int.reduceSub, Nat.reduceLeDiff, Int.reduceLT, Int.reduceLE, Int.reduceEq, Int.reduceNeg, Int.reduceToNat, List.append_assoc, List.cons_append, List.nil_append, *]))
  all_goals (try first | rfl | (simp [*]; done) | grind)
set_option maxHeartbeats 16000000 in
theorem fn136 (hi lo y : Nat) (hh : hi < y) (hl : lo < 18446744073709551616) (hy : y < 18446744073709551616) (H : Hp) : callL Try.prog pr 136 [.int .u64 (hi : Int), .int .u64 (lo : Int), .int .u64 (y : Int)] H = some (.tup [.int .u64 (((hi * 18446744073709551616 + lo) / y : Nat) : Int), .int .u64 (((hi * 18446744073709551616 + lo) % y : Nat) : Int)], H) := by
  refine run136 (Nat.le_of_ble_eq_true rfl) ?_
  have g1 : ¬ (y : Int) = 0 := by omega
  have g2 : ¬ (y : Int) ≤ hi := by omega
  by_cases h0 : hi = 0
  · subst h0
    rw [Nat.zero_mul, Nat.zero_add]
    have w1 : IntKind.u64.wrap ((lo : Int).tdiv (y : Int)) = ((lo / y : Nat) : Int) := by
      rw [tdivN]; exact u64n (Nat.lt_of_le_of_lt (Nat.div_le_self _ _) hl)
    have w2 : IntKind.u64.wrap ((lo : Int).tmod (y : Int)) = ((lo % y : Nat) : Int) := by
      rw [tmodN]; exact u64n (Nat.lt_of_le_of_lt (Nat.mod_le _ _) hl)
    have z : ((0 : Nat) : Int) = 0 := rfl
    rw [z] at g2 ⊢
    simp (disch := first | rfl | omega | exact lt_new _ | assumption | decide | (simp [tk_here, tk_app, tk_0, tk_S, gr_here, gr_app, gr_0, gr_S] <;> omega) | fail) only [r136_0, r136_1, r136_2, r136_3, r136_4, r136_5, r136_6, r136_7, r136_8, r136_9, r136_10, r136_11, r136_12, r136_13, r136_14, r136_15, r136_16, r136_17, r136_18, r136_19, r136_20, r136_22, r136_23, r136_24, r136_25, r136_26, r136_27, r136_28, r136_30, c136, rs136, gc136, g1, g2, w1, w2, go_sem, ↓reduceIte, Nat.reduceLT, Nat.reduceEqDiff, Nat.reduceAdd, Nat.reduceMul, Nat.reduceSub, Int.reduceAdd, Int.reduceSub, Nat.reduceLeDiff, Int.reduceLT, Int.reduceLE, Int.reduceEq, Int.reduceNeg, Int.reduceToNat]
    repeat' ((first | refine guardB_dec (fun hy => ?_) (fun hy => ?_) | refine guardB_bool (fun hy => ?_) (fun hy => ?_) | refine guardQ_ite (fun hy => ?_) (fun hy => ?_) | refine brQ_dec (fun hy => ?_) (fun hy => ?_) | refine brQ_bool (fun hy => ?_) (fun hy => ?_)) <;> (try simp only [Bool.not_eq_true', Bool.not_eq_false', Bool.and_eq_true, Bool.or_eq_false_iff, decide_eq_true_eq, decide_eq_false_iff_not] at hy) <;> simp (disch := first | rfl | omega | exact lt_new _ | assumption | decide | (simp [tk_here, tk_app, tk_0, tk_S, gr_here, gr_app, gr_0, gr_S] <;> omega) | fail) only [r136_0, r136_1, r136_2, r136_3, r136_4, r136_5, r136_6, r136_7, r136_8, r136_9, r136_10, r136_11, r136_12, r136_13, r136_14, r136_15, r136_16, r136_17, r136_18, r136_19, r136_20, r136_22, r136_23, r136_24, r136_25, r136_26, r136_27, r136_28, r136_30, c136, rs136, gc136, g1, g2, w1, w2, go_sem, ↓reduceIte, Nat.reduceLT, Nat.reduceEqDiff, Nat.reduceAdd, Nat.reduceMul, Nat.reduceSub, Int.reduceAdd, Int.reduceSub, Nat.reduceLeDiff, Int.reduceLT, Int.reduceLE, Int.reduceEq, Int.reduceNeg, Int.reduceToNat, hy])
    refine finQ_same ?_
    simp (disch := first | rfl | omega | exact lt_new _ | assumption | decide | (simp [tk_here, tk_app, tk_0, tk_S, gr_here, gr_app, gr_0, gr_S] <;> omega) | fail) only [go_sem, ↓reduceIte, Nat.reduceLT, Nat.reduceEqDiff, Nat.reduceAdd, Nat.reduceMul, Nat.reduceSub, Int.reduceAdd, Int.reduceSub, Nat.reduceLeDiff, Int.reduceLT, Int.reduceLE, Int.reduceEq, Int.reduceNeg, Int.reduceToNat, tmodN]
  have h0' : ¬ (hi : Int) = 0 := by omega
  have h158 := fn161 y hy
  obtain ⟨b1, b2, b3⟩ := bl_spec (n := y) (by omega)
  have b4 : bl y ≤ 64 := bl_le (k := 64) hy
  obtain ⟨s, hs⟩ : ∃ s, 64 - bl y = s := ⟨_, rfl⟩
  rw [hs] at h158
  have hs2 : s ≤ 63 := by omega
  have hp : 0 < 2 ^ s := Nat.two_pow_pos s
  obtain ⟨V, hV⟩ : ∃ V, y * 2 ^ s = V := ⟨_, rfl⟩
  have hV1 : V < 18446744073709551616 := by
    have : y * 2 ^ s < 2 ^ bl y * 2 ^ s := Nat.mul_lt_mul_of_pos_right b3 hp
    rw [← Nat.pow_add, show bl y + s = 64 by omega] at this
    omega
  have hV2 : 9223372036854775808 ≤ V := by
    have : 2 ^ (bl y - 1) * 2 ^ s ≤ y * 2 ^ s := Nat.mul_le_mul_right _ b2
    rw [← Nat.pow_add, show bl y - 1 + s = 63 by omega] at this
    omega
  have hms : min s 64 = s := by omega
  have hms2 : min (64 - s) 64 = 64 - s := by omega
  have f1 := sh_l (t := 175) (k := .u64) y s
  rw [hms, hV, Nat.mod_eq_of_lt hV1] at f1
  obtain ⟨y1, hy1⟩ : ∃ x, V / 4294967296 = x := ⟨_, rfl⟩
  obtain ⟨y0, hy0⟩ : ∃ x, V % 4294967296 = x := ⟨_, rfl⟩
  have f2 := sr32 (t := 175) V
  have f3 := an_m (t := 175) V hV1
  rw [hy1] at f2
  rw [hy0] at f3
  obtain ⟨X, hX⟩ : ∃ X, hi * 2 ^ s = X := ⟨_, rfl⟩
  have hXV : X < V := by rw [← hX, ← hV]; exact Nat.mul_lt_mul_of_pos_right hh hp
  have f4 := sh_l (t := 175) (k := .u64) hi s
  rw [hms, hX, Nat.mod_eq_of_lt (by omega)] at f4
  have e64 : IntKind.u64.wrap ((64 : Int) - (s : Int)) = ((64 - s : Nat) : Int) := by rw [u64m]; omega
  obtain ⟨L, hL⟩ : ∃ L, lo / 2 ^ (64 - s) = L := ⟨_, rfl⟩
  have f5 := sh_r (t := 175) (k := .u64) lo (64 - s)
  rw [hms2, hL] at f5
  have hL2 : L < 2 ^ s := by
    rw [← hL]
    refine Nat.div_lt_of_lt_mul ?_
    rw [← Nat.pow_add, Nat.sub_add_cancel (by omega)]
    exact hl
  obtain ⟨d, hd⟩ : ∃ d, lo * 2 ^ s % 18446744073709551616 = d := ⟨_, rfl⟩
  have hd2 : d < 18446744073709551616 := by rw [← hd]; exact Nat.mod_lt _ (by decide)
  have hN := kd_shift (hi := hi) (lo := lo) (s := s) (by omega) hl
  rw [hX, hL, hd] at hN
  obtain ⟨U, hU⟩ : ∃ U, X + L = U := ⟨_, rfl⟩
  rw [hU] at hN
  have hUV : U < V := by
    have a : (hi * 18446744073709551616 + lo) * 2 ^ s < y * 18446744073709551616 * 2 ^ s := Nat.mul_lt_mul_of_pos_right (by omega) hp
    have b : y * 18446744073709551616 * 2 ^ s = V * 18446744073709551616 := by rw [Nat.mul_right_comm, hV]
    rw [b, ← hN] at a
    omega
  have f6 := or_a (t := 175) (n := L) (x := hi) (s := s) hL2 (by rw [hX]; omega)
  rw [hX, hU] at f6
  have f7 := sh_l (t := 175) (k := .u64) lo s
  rw [hms, hd] at f7
  obtain ⟨u1, hu1⟩ : ∃ x, d / 4294967296 = x := ⟨_, rfl⟩
  obtain ⟨u0, hu0⟩ : ∃ x, d % 4294967296 = x := ⟨_, rfl⟩
  have f8 := sr32 (t := 175) d
  have f9 := an_m (t := 175) d hd2
  rw [hu1] at f8
  rw [hu0] at f9
  have hy1b : 2147483648 ≤ y1 := by omega
  have hy1c : y1 < 4294967296 := by omega
  have g3 : ¬ (y1 : Int) = 0 := by omega
  have hVe : V = y1 * 4294967296 + y0 := by omega
  have w1 : IntKind.u64.wrap ((U : Int).tdiv (y1 : Int)) = ((U / y1 : Nat) : Int) := by
    rw [tdivN]; exact u64n (Nat.lt_of_le_of_lt (Nat.div_le_self _ _) (by omega))
  obtain ⟨Z, hZ⟩ : ∃ Z, U / y1 * y1 = Z := ⟨_, rfl⟩
  have hZU : Z + U % y1 = U := by rw [← hZ, Nat.mul_comm]; exact Nat.div_add_mod U y1
  have w2 := wmul hZ (by omega)
  have w3 : IntKind.u64.wrap ((U : Int) - (Z : Int)) = ((U % y1 : Nat) : Int) := by rw [u64m]; omega
  have wS : IntKind.u64.wrap (s : Int) = s := u64n (by omega)
  simp (disch := first | rfl | omega | exact lt_new _ | assumption | decide | (simp [tk_here, tk_app, tk_0, tk_S, gr_here, gr_app, gr_0, gr_S] <;> omega) | fail) only [r136_0, r136_1, r136_2, r136_3, r136_4, r136_5, r136_6, r136_7, r136_8, r136_9, r136_10, r136_11, r136_12, r136_13, r136_14, r136_15, r136_16, r136_17, r136_18, r136_19, r136_20, r136_22, r136_23, r136_24, r136_25, r136_26, r136_27, r136_28, r136_30, c136, rs136, gc136, g1, g2, g3, h0', h158, wS, f1, f2, f3, f4, e64, f5, f6, f7, f8, f9, w1, w2, w3, go_sem, ↓reduceIte, Nat.reduceLT, Nat.reduceEqDiff, Nat.reduceAdd, Nat.reduceMul, Nat.reduceSub, Int.reduceAdd, Int.reduceSub, Nat.reduceLeDiff, Int.reduceLT, Int.reduceLE, Int.reduceEq, Int.reduceNeg, Int.reduceToNat]
  repeat' ((first | refine guardB_dec (fun hy => ?_) (fun hy => ?_) | refine guardB_bool (fun hy => ?_) (fun hy => ?_) | refine guardQ_ite (fun hy => ?_) (fun hy => ?_) | refine brQ_dec (fun hy => ?_) (fun hy => ?_) | refine brQ_bool (fun hy => ?_) (fun hy => ?_)) <;> (try simp only [Bool.not_eq_true', Bool.not_eq_false', Bool.and_eq_true, Bool.or_eq_false_iff, decide_eq_true_eq, decide_eq_false_iff_not] at hy) <;> simp (disch := first | rfl | omega | exact lt_new _ | assumption | decide | (simp [tk_here, tk_app, tk_0, tk_S, gr_here, gr_app, gr_0, gr_S] <;> omega) | fail) only [r136_0, r136_1, r136_2, r136_3, r136_4, r136_5, r136_6, r136_7, r136_8, r136_9, r136_10, r136_11, r136_12, r136_13, r136_14, r136_15, r136_16, r136_17, r136_18, r136_19, r136_20, r136_22, r136_23, r136_24, r136_25, r136_26, r136_27, r136_28, r136_30, c136, rs136, gc136, g1, g2, g3, h0', h158, wS, f1, f2, f3, f4, e64, f5, f6, f7, f8, f9, w1, w2, w3, go_sem, ↓reduceIte, Nat.reduceLT, Nat.reduceEqDiff, Nat.reduceAdd, Nat.reduceMul, Nat.reduceSub, Int.reduceAdd, Int.reduceSub, Nat.reduceLeDiff, Int.reduceLT, Int.reduceLE, Int.reduceEq, Int.reduceNeg, Int.reduceToNat, hy])
  have hy0b : y0 < 4294967296 := by omega
  have hu1b : u1 < 4294967296 := by omega
  have hu0b : u0 < 4294967296 := by omega
  refine dl1 (V := V) (s := s) (y1 := y1) (y0 := y0) (U := U) (u1 := u1) (u0 := u0) hVe hy1b hy1c hy0b hUV hu1b ⟨?_, ?_, ?_, ?_, ?_, ?_, ?_⟩ ?_ ?_ fun T' hF t15 => ?_
  iterate 9 (simp (disch := first | rfl | omega | exact lt_new _ | assumption | decide | (simp [tk_here, tk_app, tk_0, tk_S, gr_here, gr_app, gr_0, gr_S] <;> omega) | fail) only [go_sem, ↓reduceIte, Nat.reduceLT, Nat.reduceEqDiff, Nat.reduceAdd, Nat.reduceMul, Nat.reduceSub, Int.reduceAdd, Int.reduceSub, Nat.reduceLeDiff, Int.reduceLT, Int.reduceLE, Int.reduceEq, Int.reduceNeg, Int.reduceToNat])
  obtain ⟨t2, t8, t9, t10, t11, t13, t14⟩ := hF
  obtain ⟨Q1, hQ1⟩ : ∃ Q1, (U * 4294967296 + u1) / V = Q1 := ⟨_, rfl⟩
  rw [hQ1] at t15
  obtain ⟨R, hR⟩ : ∃ R, (U * 4294967296 + u1) % V = R := ⟨_, rfl⟩
  have hRV : R < V := by rw [← hR]; exact Nat.mod_lt _ (by omega)
  obtain ⟨Z1, hZ1⟩ : ∃ Z1, Q1 * V = Z1 := ⟨_, rfl⟩
  have hE1 : Z1 + R = U * 4294967296 + u1 := by rw [← hZ1, ← hQ1, ← hR, Nat.mul_comm]; exact Nat.div_add_mod _ _
  have hQ1b : Q1 < 4294967296 := hQ1 ▸ kd_lt hUV hu1b
  have wz1 := wmulm Q1 V
  rw [hZ1] at wz1
  have wu : IntKind.u64.wrap ((U : Int) * 4294967296) = ((U * 4294967296 % 18446744073709551616 : Nat) : Int) := wmulm U 4294967296
  have wu2 : IntKind.u64.wrap (((U * 4294967296 % 18446744073709551616 : Nat) : Int) + (u1 : Int)) = (((U * 4294967296 + u1) % 18446744073709551616 : Nat) : Int) := by rw [u64m]; omega
  have wu3 : IntKind.u64.wrap ((((U * 4294967296 + u1) % 18446744073709551616 : Nat) : Int) - ((Z1 % 18446744073709551616 : Nat) : Int)) = (R : Int) := by rw [u64m]; omega
  have wr1 : IntKind.u64.wrap ((R : Int).tdiv (y1 : Int)) = ((R / y1 : Nat) : Int) := by
    rw [tdivN]; exact u64n (Nat.lt_of_le_of_lt (Nat.div_le_self _ _) (by omega))
  obtain ⟨Z2, hZ2⟩ : ∃ Z, R / y1 * y1 = Z := ⟨_, rfl⟩
  have hZR : Z2 + R % y1 = R := by rw [← hZ2, Nat.mul_comm]; exact Nat.div_add_mod R y1
  have wr2 := wmul hZ2 (by omega)
  have wr3 : IntKind.u64.wrap ((R : Int) - (Z2 : Int)) = ((R % y1 : Nat) : Int) := by rw [u64m]; omega
  simp (disch := first | rfl | omega | exact lt_new _ | assumption | decide | (simp [tk_here, tk_app, tk_0, tk_S, gr_here, gr_app, gr_0, gr_S] <;> omega) | fail) only [r136_22, r136_23, r136_24, t2, t8, t9, t10, t11, t13, t14, t15, g3, wz1, wu, wu2, wu3, wr1, wr2, wr3, go_sem, ↓reduceIte, Nat.reduceLT, Nat.reduceEqDiff, Nat.reduceAdd, Nat.reduceMul, Nat.reduceSub, Int.reduceAdd, Int.reduceSub, Nat.reduceLeDiff, Int.reduceLT, Int.reduceLE, Int.reduceEq, Int.reduceNeg, Int.reduceToNat]
  repeat' ((first | refine guardB_dec (fun hy => ?_) (fun hy => ?_) | refine guardB_bool (fun hy => ?_) (fun hy => ?_) | refine guardQ_ite (fun hy => ?_) (fun hy => ?_) | refine brQ_dec (fun hy => ?_) (fun hy => ?_) | refine brQ_bool (fun hy => ?_) (fun hy => ?_)) <;> (try simp only [Bool.not_eq_true', Bool.not_eq_false', Bool.and_eq_true, Bool.or_eq_false_iff, decide_eq_true_eq, decide_eq_false_iff_not] at hy) <;> simp (disch := first | rfl | omega | exact lt_new _ | assumption | decide | (simp [tk_here, tk_app, tk_0, tk_S, gr_here, gr_app, gr_0, gr_S] <;> omega) | fail) only [r136_22, r136_23, r136_24, t2, t8, t9, t10, t11, t13, t14, t15, g3, wz1, wu, wu2, wu3, wr1, wr2, wr3, go_sem, ↓reduceIte, Nat.reduceLT, Nat.reduceEqDiff, Nat.reduceAdd, Nat.reduceMul, Nat.reduceSub, Int.reduceAdd, Int.reduceSub, Nat.reduceLeDiff, Int.reduceLT, Int.reduceLE, Int.reduceEq, Int.reduceNeg, Int.reduceToNat, hy])
  refine dl2 (V := V) (s := s) (y1 := y1) (y0 := y0) (U := R) (u1 := u0) (u0 := Q1) hVe hy1b hy1c hy0b hRV hu0b ⟨?_, ?_, ?_, ?_, ?_, ?_, ?_⟩ ?_ ?_ fun T2 hF t18 => ?_
  iterate 9 (simp (disch := first | rfl | omega | exact lt_new _ | assumption | decide | (simp [tk_here, tk_app, tk_0, tk_S, gr_here, gr_app, gr_0, gr_S] <;> omega) | fail) only [go_sem, ↓reduceIte, Nat.reduceLT, Nat.reduceEqDiff, Nat.reduceAdd, Nat.reduceMul, Nat.reduceSub, Int.reduceAdd, Int.reduceSub, Nat.reduceLeDiff, Int.reduceLT, Int.reduceLE, Int.reduceEq, Int.reduceNeg, Int.reduceToNat, t2, t8, t9, t10, t11, t13, t14, t15])
  clear t2 t8 t9 t10 t11 t13 t14 t15
  obtain ⟨t2, t8, t9, t10, t17, t14, t15⟩ := hF
  obtain ⟨Q0, hQ0⟩ : ∃ Q0, (R * 4294967296 + u0) / V = Q0 := ⟨_, rfl⟩
  rw [hQ0] at t18
  obtain ⟨R0, hR0⟩ : ∃ z, (R * 4294967296 + u0) % V = z := ⟨_, rfl⟩
  have hR0V : R0 < V := by rw [← hR0]; exact Nat.mod_lt _ (by omega)
  obtain ⟨Z3, hZ3⟩ : ∃ Z, Q0 * V = Z := ⟨_, rfl⟩
  have hE0 : Z3 + R0 = R * 4294967296 + u0 := by rw [← hZ3, ← hQ0, ← hR0, Nat.mul_comm]; exact Nat.div_add_mod _ _
  have hQ0b : Q0 < 4294967296 := hQ0 ▸ kd_lt hRV hu0b
  have ka : U * 4294967296 + d / 4294967296 = Q1 * V + R := kaL hu1 hZ1 hE1
  have kb : R * 4294967296 + d % 4294967296 = Q0 * V + R0 := kbL hu0 hZ3 hE0
  obtain ⟨k1, k2⟩ := kd_all (N := hi * 18446744073709551616 + lo) (y := y) (s := s) (V := V) (U := U) (d := d) (q1 := Q1) (R := R) (q0 := Q0) (R0 := R0) hV.symm hN ka kb hR0V
  obtain ⟨N, hNN⟩ : ∃ N, hi * 18446744073709551616 + lo = N := ⟨_, rfl⟩
  rw [hNN] at k1 k2 ⊢
  have wz3 := wmulm Q0 V
  rw [hZ3] at wz3
  have v1 : IntKind.u64.wrap ((Q1 : Int) * 4294967296) = (Q1 : Int) * 4294967296 := by rw [u64m]; omega
  have v2 : IntKind.u64.wrap ((Q1 : Int) * 4294967296 + (Q0 : Int)) = ((N / y : Nat) : Int) := by rw [u64m, ← k1]; omega
  have v3 : IntKind.u64.wrap ((R : Int) * 4294967296) = ((R * 4294967296 % 18446744073709551616 : Nat) : Int) := wmulm R 4294967296
  have v4 : IntKind.u64.wrap (((R * 4294967296 % 18446744073709551616 : Nat) : Int) + (u0 : Int)) = (((R * 4294967296 + u0) % 18446744073709551616 : Nat) : Int) := by rw [u64m]; omega
  have v5 : IntKind.u64.wrap ((((R * 4294967296 + u0) % 18446744073709551616 : Nat) : Int) - ((Z3 % 18446744073709551616 : Nat) : Int)) = (R0 : Int) := by rw [u64m]; omega
  have v6 := sh_r (t := 175) (k := .u64) R0 s
  rw [hms, k2, Nat.mul_div_cancel _ hp, ← k2] at v6
  simp (disch := first | rfl | omega | exact lt_new _ | assumption | decide | (simp [tk_here, tk_app, tk_0, tk_S, gr_here, gr_app, gr_0, gr_S] <;> omega) | fail) only [r136_30, rs136, gc136, t2, t8, t14, t15, t17, t18, wz3, v1, v2, v3, v4, v5, v6, go_sem, ↓reduceIte, Nat.reduceLT, Nat.reduceEqDiff, Nat.reduceAdd, Nat.reduceMul, Nat.reduceSub, Int.reduceAdd, Int.reduceSub, Nat.reduceLeDiff, Int.reduceLT, Int.reduceLE, Int.reduceEq, Int.reduceNeg, Int.reduceToNat]
  repeat' ((first | refine guardB_dec (fun hy => ?_) (fun hy => ?_) | refine guardB_bool (fun hy => ?_) (fun hy => ?_) | refine guardQ_ite (fun hy => ?_) (fun hy => ?_) | refine brQ_dec (fun hy => ?_) (fun hy => ?_) | refine brQ_bool (fun hy => ?_) (fun hy => ?_)) <;> (try simp only [Bool.not_eq_true', Bool.not_eq_false', Bool.and_eq_true, Bool.or_eq_false_iff, decide_eq_true_eq, decide_eq_false_iff_not] at hy) <;> simp (disch := first | rfl | omega | exact lt_new _ | assumption | decide | (simp [tk_here, tk_app, tk_0, tk_S, gr_here, gr_app, gr_0, gr_S] <;> omega) | fail) only [r136_30, rs136, gc136, t2, t8, t14, t15, t17, t18, wz3, v1, v2, v3, v4, v5, v6, go_sem, ↓reduceIte, Nat.reduceLT, Nat.reduceEqDiff, Nat.reduceAdd, Nat.reduceMul, Nat.reduceSub, Int.reduceAdd, Int.reduceSub, Nat.reduceLeDiff, Int.reduceLT, Int.reduceLE, Int.reduceEq, Int.reduceNeg, Int.reduceToNat, hy])
  refine finQ_same ?_
  simp (disch := first | rfl | omega | exact lt_new _ | assumption | decide | (simp [tk_here, tk_app, tk_0, tk_S, gr_here, gr_app, gr_0, gr_S] <;> omega) | fail) only [go_sem, ↓reduceIte, Nat.reduceLT, Nat.reduceEqDiff, Nat.reduceAdd, Nat.reduceMul, Nat.reduceSub, Int.reduceAdd, Int.reduceSub, Nat.reduceLeDiff, Int.reduceLT, Int.reduceLE, Int.reduceEq, Int.reduceNeg, Int.reduceToNat]
end Go.Proofs.Ytejkgnmjdaohdaa
/-
  A product divided, for numbers that are not below 0; walked. No statement of the seat stands here.
-/
namespace Go.Proofs.Ytejkgnmjdaohdaa
open Go Go.An
set_option maxRecDepth 4000
set_option linter.unusedSimpArgs false
set_option linter.unusedVariables false

theorem fn135 (n : Nat) (hn : n < 4611686018427387904) (H : Hp) : callL Try.prog pr 135 [.int .i64 (n : Int)] H = some (.int .u64 (n : Int), H) := by
  refine run135 (Nat.le_of_ble_eq_true rfl) ?_
  have w : IntKind.u64.wrap (n : Int) = n := u64n (by omega)
  by_cases h0 : n = 0
  · subst h0
    simp (disch := first | rfl | omega | exact lt_new _ | assumption | decide | (simp [tk_here, tk_app, tk_0, tk_S, gr_here, gr_app, gr_0, gr_S] <;> omega) | fail) only [r135_0, r135_1, c135, rs135, gc135, go_sem, ↓reduceIte, Nat.reduceLT, Nat.reduceEqDiff, Nat.reduceAdd, Nat.reduceMul, Nat.reduceSub, Int.reduceAdd, Int.reduceSub, Nat.reduceLeDiff, Int.reduceLT, Int.reduceLE, Int.reduceEq, Int.reduceNeg, Int.reduceToNat]
    repeat' ((first | refine guardB_dec (fun hy => ?_) (fun hy => ?_) | refine guardB_bool (fun hy => ?_) (fun hy => ?_) | refine guardQ_ite (fun hy => ?_) (fun hy => ?_) | refine brQ_dec (fun hy => ?_) (fun hy => ?_) | refine brQ_bool (fun hy => ?_) (fun hy => ?_)) <;> (try simp only [Bool.not_eq_true', Bool.not_eq_false', Bool.and_eq_true, Bool.or_eq_false_iff, decide_eq_true_eq, decide_eq_false_iff_not] at hy) <;> simp (disch := first | rfl | omega | exact lt_new _ | assumption | decide | (simp [tk_here, tk_app, tk_0, tk_S, gr_here, gr_app, gr_0, gr_S] <;> omega) | fail) only [r135_0, r135_1, c135, rs135, gc135, go_sem, ↓reduceIte, Nat.reduceLT, Nat.reduceEqDiff, Nat.reduceAdd, Nat.reduceMul, Nat.reduceSub, Int.reduceAdd, Int.reduceSub, Nat.reduceLeDiff, Int.reduceLT, Int.reduceLE, Int.reduceEq, Int.reduceNeg, Int.reduceToNat, hy])
    all_goals (try ((first | refine finQ_same ?_ | refine finQ_app ?_ | (rw [List.append_assoc]; refine finQ_app ?_)) <;> simp (disch := first | rfl | omega | exact lt_new _ | assumption | decide | (simp [tk_here, tk_app, tk_0, tk_S, gr_here, gr_app, gr_0, gr_S] <;> omega) | fail) only [go_sem, ↓reduceIte, Nat.reduceLT, Nat.reduceEqDiff, Nat.reduceAdd, Nat.reduceMul, Nat.reduceSub, Int.reduceAdd, Int.reduceSub, Nat.reduceLeDiff, Int.reduceLT, Int.reduceLE, Int.reduceEq, Int.reduceNeg, Int.reduceToNat, List.append_assoc, List.cons_append, List.nil_append, *]))
    all_goals (try first | rfl | (simp [*]; done) | grind)
  · have h1 : (0 : Int) < n := by omega
    have hm : (if (0 : Int) - (n : Int) > n then (0 : Int) - (n : Int) else n) = n := if_neg (by omega)
    simp (disch := first | rfl | omega | exact lt_new _ | assumption | decide | (simp [tk_here, tk_app, tk_0, tk_S, gr_here, gr_app, gr_0, gr_S] <;> omega) | fail) only [r135_0, r135_1, c135, rs135, gc135, w, go_sem, ↓reduceIte, Nat.reduceLT, Nat.reduceEqDiff, Nat.reduceAdd, Nat.reduceMul, Nat.reduceSub, Int.reduceAdd, Int.reduceSub, Nat.reduceLeDiff, Int.reduceLT, Int.reduceLE, Int.reduceEq, Int.reduceNeg, Int.reduceToNat]
    repeat' ((first | refine guardB_dec (fun hy => ?_) (fun hy => ?_) | refine guardB_bool (fun hy => ?_) (fun hy => ?_) | refine guardQ_ite (fun hy => ?_) (fun hy => ?_) | refine brQ_dec (fun hy => ?_) (fun hy => ?_) | refine brQ_bool (fun hy => ?_) (fun hy => ?_)) <;> (try simp only [Bool.not_eq_true', Bool.not_eq_false', Bool.and_eq_true, Bool.or_eq_false_iff, decide_eq_true_eq, decide_eq_false_iff_not] at hy) <;> simp (disch := first | rfl | omega | exact lt_new _ | assumption | decide | (simp [tk_here, tk_app, tk_0, tk_S, gr_here, gr_app, gr_0, gr_S] <;> omega) | fail) only [r135_0, r135_1, c135, rs135, gc135, w, go_sem, ↓reduceIte, Nat.reduceLT, Nat.reduceEqDiff, Nat.reduceAdd, Nat.reduceMul, Nat.reduceSub, Int.reduceAdd, Int.reduceSub, Nat.reduceLeDiff, Int.reduceLT, Int.reduceLE, Int.reduceEq, Int.reduceNeg, Int.reduceToNat, hy])
    rw [hm, w]
    refine finQ_same ?_
    simp (disch := first | rfl | omega | exact lt_new _ | assumption | decide | (simp [tk_here, tk_app, tk_0, tk_S, gr_here, gr_app, gr_0, gr_S] <;> omega) | fail) only [go_sem, ↓reduceIte, Nat.reduceLT, Nat.reduceEqDiff, Nat.reduceAdd, Nat.reduceMul, Nat.reduceSub, Int.reduceAdd, Int.reduceSub, Nat.reduceLeDiff, Int.reduceLT, Int.reduceLE, Int.reduceEq, Int.reduceNeg, Int.reduceToNat]
set_option maxHeartbeats 4000000 in
theorem fn95 (a b c : Nat) (ha : a < 4611686018427387904) (hb : b < 4611686018427387904) (hc : 0 < c) (hc2 : c < 4611686018427387904) (hq : a * b / c < 4611686018427387904) (H : Hp) : callL Try.prog pr 95 [.int .i64 (a : Int), .int .i64 (b : Int), .int .i64 (c : Int)] H = some (.tup [.int .i64 ((a * b / c : Nat) : Int), .int .i64 ((a * b % c : Nat) : Int), .bool true], H) := by
  have h107a := fn135 a ha
  have h107b := fn135 b hb
  have h106 := fn134 a b (by omega) (by omega)
  obtain ⟨N, hN⟩ : ∃ N, a * b = N := ⟨_, rfl⟩
  rw [hN] at h106 hq ⊢
  have hd := Nat.div_add_mod N 18446744073709551616
  obtain ⟨hi, hhi⟩ : ∃ z, N / 18446744073709551616 = z := ⟨_, rfl⟩
  obtain ⟨lo, hlo⟩ : ∃ z, N % 18446744073709551616 = z := ⟨_, rfl⟩
  have hlo2 : lo < 18446744073709551616 := by omega
  have hhc : hi < c := by
    rw [← hhi]
    refine Nat.div_lt_of_lt_mul ?_
    exact Nat.lt_of_lt_of_le ((Nat.div_lt_iff_lt_mul hc).1 hq) (Nat.mul_le_mul_right c (by decide))
  have h108 := fn136 hi lo c hhc hlo2 (by omega)
  rw [show hi * 18446744073709551616 + lo = N by omega] at h108
  rw [hhi, hlo] at h106
  obtain ⟨q, hq1⟩ : ∃ z, N / c = z := ⟨_, rfl⟩
  obtain ⟨r, hr1⟩ : ∃ z, N % c = z := ⟨_, rfl⟩
  have hrc : r < c := by rw [← hr1]; exact Nat.mod_lt _ hc
  rw [hq1] at h108 hq ⊢
  rw [hr1] at h108 ⊢
  have wc : IntKind.u64.wrap (c : Int) = c := u64n (by omega)
  have g1 : ¬ (c : Int) ≤ hi := by omega
  have g2 : ¬ (9223372036854775806 : Int) < q := by omega
  have g3 : ¬ (a : Int) < 0 := by omega
  have g4 : ¬ (b : Int) < 0 := by omega
  have hbe : (false == false) = true := rfl
  refine run95 (Nat.le_of_ble_eq_true rfl) ?_
  simp (disch := first | rfl | omega | exact lt_new _ | assumption | decide | (simp [tk_here, tk_app, tk_0, tk_S, gr_here, gr_app, gr_0, gr_S] <;> omega) | fail) only [r95_0, r95_1, r95_2, r95_3, r95_4, r95_5, r95_6, r95_7, r95_8, r95_9, r95_10, r95_11, r95_12, c95, rs95, gc95, h107a, h107b, h106, h108, wc, g1, g2, g3, g4, hbe, go_sem, ↓reduceIte, Nat.reduceLT, Nat.reduceEqDiff, Nat.reduceAdd, Nat.reduceMul, Nat.reduceSub, Int.reduceAdd, Int.reduceSub, Nat.reduceLeDiff, Int.reduceLT, Int.reduceLE, Int.reduceEq, Int.reduceNeg, Int.reduceToNat]
  repeat' ((first | refine guardB_dec (fun hy => ?_) (fun hy => ?_) | refine guardB_bool (fun hy => ?_) (fun hy => ?_) | refine guardQ_ite (fun hy => ?_) (fun hy => ?_) | refine brQ_dec (fun hy => ?_) (fun hy => ?_) | refine brQ_bool (fun hy => ?_) (fun hy => ?_)) <;> (try simp only [Bool.not_eq_true', Bool.not_eq_false', Bool.and_eq_true, Bool.or_eq_false_iff, decide_eq_true_eq, decide_eq_false_iff_not] at hy) <;> simp (disch := first | rfl | omega | exact lt_new _ | assumption | decide | (simp [tk_here, tk_app, tk_0, tk_S, gr_here, gr_app, gr_0, gr_S] <;> omega) | fail) only [r95_0, r95_1, r95_2, r95_3, r95_4, r95_5, r95_6, r95_7, r95_8, r95_9, r95_10, r95_11, r95_12, c95, rs95, gc95, h107a, h107b, h106, h108, wc, g1, g2, g3, g4, hbe, go_sem, ↓reduceIte, Nat.reduceLT, Nat.reduceEqDiff, Nat.reduceAdd, Nat.reduceMul, Nat.reduceSub, Int.reduceAdd, Int.reduceSub, Nat.reduceLeDiff, Int.reduceLT, Int.reduceLE, Int.reduceEq, Int.reduceNeg, Int.reduceToNat, hy])
  all_goals (refine finQ_same ?_; simp (disch := first | rfl | omega | exact lt_new _ | assumption | decide | (simp [tk_here, tk_app, tk_0, tk_S, gr_here, gr_app, gr_0, gr_S] <;> omega) | fail) only [go_sem, ↓reduceIte, Nat.reduceLT, Nat.reduceEqDiff, Nat.reduceAdd, Nat.reduceMul, Nat.reduceSub, Int.reduceAdd, Int.reduceSub, Nat.reduceLeDiff, Int.reduceLT, Int.reduceLE, Int.reduceEq, Int.reduceNeg, Int.reduceToNat])
end Go.Proofs.Ytejkgnmjdaohdaa
/-
  A product divided, for numbers of any sign; walked. No statement of the seat stands here.
-/
namespace Go.Proofs.Ytejkgnmjdaohdaa
open Go Go.An
set_option maxRecDepth 4000
set_option linter.unusedSimpArgs false
set_option linter.unusedVariables false

theorem size_f (n : Int) (h : -4611686018427387904 < n) (h2 : n < 4611686018427387904) (H : Hp) : callL Try.prog pr 135 [.int .i64 n] H = some (.int .u64 (n.natAbs : Int), H) := by
  by_cases hn : 0 ≤ n
  · obtain ⟨m, rfl⟩ : ∃ m : Nat, n = m := ⟨n.toNat, by omega⟩
    rw [Int.natAbs_natCast]
    exact fn135 m (by omega) H
  · obtain ⟨m, rfl⟩ : ∃ m : Nat, n = -(m : Int) := ⟨n.natAbs, by omega⟩
    have h1 : (0 : Int) < m := by omega
    have w : IntKind.u64.wrap (m : Int) = m := u64n (by omega)
    have w2 : IntKind.i64.wrap (0 - -(m : Int)) = m := by rw [IntWalk.i64_in _ (by omega)]; omega
    have hm : (if (m : Int) > -(m : Int) then (m : Int) else -(m : Int)) = m := if_pos (by omega)
    have e : (-(m : Int)).natAbs = m := by omega
    rw [e]
    refine run135 (Nat.le_of_ble_eq_true rfl) ?_
    have hy := True.intro
    repeat' (first | simp (disch := first | rfl | omega | exact lt_new _ | assumption | decide | (simp [tk_here, tk_app, tk_0, tk_S, gr_here, gr_app, gr_0, gr_S] <;> omega) | fail) only [r135_0, r135_1, c135, rs135, gc135, w2, go_sem, ↓reduceIte, Nat.reduceLT, Nat.reduceEqDiff, Nat.reduceAdd, Nat.reduceMul, Nat.reduceSub, Int.reduceAdd, Int.reduceSub, Nat.reduceLeDiff, Int.reduceLT, Int.reduceLE, Int.reduceEq, Int.reduceNeg, Int.reduceToNat, hy] | ((first | refine guardB_dec (fun hy => ?_) (fun hy => ?_) | refine guardB_bool (fun hy => ?_) (fun hy => ?_) | refine guardQ_ite (fun hy => ?_) (fun hy => ?_) | refine brQ_dec (fun hy => ?_) (fun hy => ?_) | refine brQ_bool (fun hy => ?_) (fun hy => ?_)) <;> (try simp only [Bool.not_eq_true', Bool.not_eq_false', Bool.and_eq_true, Bool.or_eq_false_iff, decide_eq_true_eq, decide_eq_false_iff_not] at hy)))
    rw [hm, w]
    refine finQ_same ?_
    simp (disch := first | rfl | omega | exact lt_new _ | assumption | decide | (simp [tk_here, tk_app, tk_0, tk_S, gr_here, gr_app, gr_0, gr_S] <;> omega) | fail) only [go_sem, ↓reduceIte, Nat.reduceLT, Nat.reduceEqDiff, Nat.reduceAdd, Nat.reduceMul, Nat.reduceSub, Int.reduceAdd, Int.reduceSub, Nat.reduceLeDiff, Int.reduceLT, Int.reduceLE, Int.reduceEq, Int.reduceNeg, Int.reduceToNat]
def mdF (a b : Int) (c : Nat) : Int × Bool :=
  if 9223372036854775806 < a.natAbs * b.natAbs / c then (0, false)
  else if (decide (a < 0) == decide (b < 0)) = true ∨ (a.natAbs * b.natAbs % c = 0 ∧ a.natAbs * b.natAbs / c = 0) then (((a.natAbs * b.natAbs / c : Nat) : Int), true)
  else if a.natAbs * b.natAbs % c = 0 then (-((a.natAbs * b.natAbs / c : Nat) : Int), true) else (-((a.natAbs * b.natAbs / c : Nat) : Int) - 1, true)
set_option maxHeartbeats 8000000 in
theorem md_f (a b : Int) (c : Nat) (ha : a.natAbs ≤ 1000000000000000) (hb : b.natAbs ≤ 1000000000000000) (hc : 0 < c) (hc2 : c ≤ 1000000000000000) (H : Hp) : ∃ r, callL Try.prog pr 95 [.int .i64 a, .int .i64 b, .int .i64 (c : Int)] H = some (.tup [.int .i64 (mdF a b c).1, .int .i64 r, .bool (mdF a b c).2], H) := by
  suffices h : ∃ p, callL Try.prog pr 95 [.int .i64 a, .int .i64 b, .int .i64 (c : Int)] H = some p ∧ ∃ r, p = (.tup [.int .i64 (mdF a b c).1, .int .i64 r, .bool (mdF a b c).2], H) by
    obtain ⟨_, h1, r, rfl⟩ := h; exact ⟨r, h1⟩
  have hsa := size_f a (by omega) (by omega)
  have hsb := size_f b (by omega) (by omega)
  obtain ⟨A, hA⟩ : ∃ A, a.natAbs = A := ⟨_, rfl⟩
  obtain ⟨B, hB⟩ : ∃ B, b.natAbs = B := ⟨_, rfl⟩
  unfold mdF
  rw [hA] at hsa ha ⊢
  rw [hB] at hsb hb ⊢
  have h134 := fn134 A B (by omega) (by omega)
  obtain ⟨N, hN⟩ : ∃ N, A * B = N := ⟨_, rfl⟩
  rw [hN] at h134 ⊢
  obtain ⟨hi, hhi⟩ : ∃ z, N / 18446744073709551616 = z := ⟨_, rfl⟩
  obtain ⟨lo, hlo⟩ : ∃ z, N % 18446744073709551616 = z := ⟨_, rfl⟩
  rw [hhi, hlo] at h134
  have hlo2 : lo < 18446744073709551616 := by omega
  have wc : IntKind.u64.wrap (c : Int) = c := u64n (by omega)
  by_cases hhc : c ≤ hi
  · have g1 : (c : Int) ≤ hi := by omega
    have hq : 9223372036854775806 < N / c := by
      have h1 : 9223372036854775807 * c ≤ N := by omega
      exact (Nat.le_div_iff_mul_le hc).2 h1
    rw [if_pos hq]
    refine ex95 (Nat.le_of_ble_eq_true rfl) ?_
    have hy := True.intro
    repeat' (first | simp (disch := first | rfl | omega | exact lt_new _ | assumption | decide | (simp [tk_here, tk_app, tk_0, tk_S, gr_here, gr_app, gr_0, gr_S] <;> omega) | fail) only [r95_0, r95_1, r95_2, r95_3, r95_4, r95_5, r95_6, r95_7, r95_8, r95_9, r95_10, r95_11, r95_12, c95, rs95, gc95, hsa, hsb, h134, wc, g1, go_sem, ↓reduceIte, Nat.reduceLT, Nat.reduceEqDiff, Nat.reduceAdd, Nat.reduceMul, Nat.reduceSub, Int.reduceAdd, Int.reduceSub, Nat.reduceLeDiff, Int.reduceLT, Int.reduceLE, Int.reduceEq, Int.reduceNeg, Int.reduceToNat, hy] | ((first | refine guardB_dec (fun hy => ?_) (fun hy => ?_) | refine guardB_bool (fun hy => ?_) (fun hy => ?_) | refine guardQ_ite (fun hy => ?_) (fun hy => ?_) | refine brQ_dec (fun hy => ?_) (fun hy => ?_) | refine brQ_bool (fun hy => ?_) (fun hy => ?_)) <;> (try simp only [Bool.not_eq_true', Bool.not_eq_false', Bool.and_eq_true, Bool.or_eq_false_iff, decide_eq_true_eq, decide_eq_false_iff_not] at hy)))
    exact ⟨0, finQ_same (by simp (disch := first | rfl | omega | exact lt_new _ | assumption | decide | (simp [tk_here, tk_app, tk_0, tk_S, gr_here, gr_app, gr_0, gr_S] <;> omega) | fail) only [go_sem, ↓reduceIte, Nat.reduceLT, Nat.reduceEqDiff, Nat.reduceAdd, Nat.reduceMul, Nat.reduceSub, Int.reduceAdd, Int.reduceSub, Nat.reduceLeDiff, Int.reduceLT, Int.reduceLE, Int.reduceEq, Int.reduceNeg, Int.reduceToNat])⟩
  · have g1 : ¬ (c : Int) ≤ hi := by omega
    have h136 := fn136 hi lo c (by omega) hlo2 (by omega)
    rw [show hi * 18446744073709551616 + lo = N by omega] at h136
    obtain ⟨q, hq1⟩ : ∃ z, N / c = z := ⟨_, rfl⟩
    obtain ⟨r, hr1⟩ : ∃ z, N % c = z := ⟨_, rfl⟩
    have hrc : r < c := by rw [← hr1]; exact Nat.mod_lt _ hc
    rw [hq1] at h136 ⊢
    rw [hr1] at h136 ⊢
    by_cases hbig : 9223372036854775806 < q
    · rw [if_pos hbig]
      have g2 : (9223372036854775806 : Int) < q := by omega
      refine ex95 (Nat.le_of_ble_eq_true rfl) ?_
      have hy := True.intro
      repeat' (first | simp (disch := first | rfl | omega | exact lt_new _ | assumption | decide | (simp [tk_here, tk_app, tk_0, tk_S, gr_here, gr_app, gr_0, gr_S] <;> omega) | fail) only [r95_0, r95_1, r95_2, r95_3, r95_4, r95_5, r95_6, r95_7, r95_8, r95_9, r95_10, r95_11, r95_12, c95, rs95, gc95, hsa, hsb, h134, h136, wc, g1, g2, go_sem, ↓reduceIte, Nat.reduceLT, Nat.reduceEqDiff, Nat.reduceAdd, Nat.reduceMul, Nat.reduceSub, Int.reduceAdd, Int.reduceSub, Nat.reduceLeDiff, Int.reduceLT, Int.reduceLE, Int.reduceEq, Int.reduceNeg, Int.reduceToNat, hy] | ((first | refine guardB_dec (fun hy => ?_) (fun hy => ?_) | refine guardB_bool (fun hy => ?_) (fun hy => ?_) | refine guardQ_ite (fun hy => ?_) (fun hy => ?_) | refine brQ_dec (fun hy => ?_) (fun hy => ?_) | refine brQ_bool (fun hy => ?_) (fun hy => ?_)) <;> (try simp only [Bool.not_eq_true', Bool.not_eq_false', Bool.and_eq_true, Bool.or_eq_false_iff, decide_eq_true_eq, decide_eq_false_iff_not] at hy)))
      exact ⟨0, finQ_same (by simp (disch := first | rfl | omega | exact lt_new _ | assumption | decide | (simp [tk_here, tk_app, tk_0, tk_S, gr_here, gr_app, gr_0, gr_S] <;> omega) | fail) only [go_sem, ↓reduceIte, Nat.reduceLT, Nat.reduceEqDiff, Nat.reduceAdd, Nat.reduceMul, Nat.reduceSub, Int.reduceAdd, Int.reduceSub, Nat.reduceLeDiff, Int.reduceLT, Int.reduceLE, Int.reduceEq, Int.reduceNeg, Int.reduceToNat])⟩
    rw [if_neg hbig]
    have g2 : ¬ (9223372036854775806 : Int) < q := by omega
    have wq : IntKind.i64.wrap (q : Int) = q := IntWalk.i64_in _ (by omega)
    have wr : IntKind.i64.wrap (r : Int) = r := IntWalk.i64_in _ (by omega)
    have hneg : ∀ x : Int, unV .neg (.int .i64 x) = some (.int .i64 (IntKind.i64.wrap (0 - x))) := fun x => rfl
    have w0 : IntKind.i64.wrap (0 - (q : Int)) = -(q : Int) := by rw [IntWalk.i64_in _ (by omega)]; omega
    have w1 : IntKind.i64.wrap (-(q : Int) - 1) = -(q : Int) - 1 := IntWalk.i64_in _ (by omega)
    have w2 : IntKind.i64.wrap ((c : Int) - r) = (c : Int) - r := IntWalk.i64_in _ (by omega)
    have er : ((r : Int) = 0) = (r = 0) := by simp
    have eq : ((q : Int) = 0) = (q = 0) := by simp
    have tt : (true == true) = true := rfl
    have tf : (true == false) = false := rfl
    have ft : (false == true) = false := rfl
    have ff : (false == false) = true := rfl
    have z0 : IntKind.i64.wrap 0 = 0 := rfl
    by_cases a0 : a < 0 <;> by_cases b0 : b < 0
    · rw [if_pos (.inl (by simp [a0, b0]))]
      refine ex95 (Nat.le_of_ble_eq_true rfl) ?_
      have hy := True.intro
      repeat' (first | simp (disch := first | rfl | omega | exact lt_new _ | assumption | decide | (simp [tk_here, tk_app, tk_0, tk_S, gr_here, gr_app, gr_0, gr_S] <;> omega) | fail) only [r95_0, r95_1, r95_2, r95_3, r95_4, r95_5, r95_6, r95_7, r95_8, r95_9, r95_10, r95_11, r95_12, c95, rs95, gc95, hsa, hsb, h134, h136, wc, g1, g2, a0, b0, wq, wr, tt, go_sem, ↓reduceIte, Nat.reduceLT, Nat.reduceEqDiff, Nat.reduceAdd, Nat.reduceMul, Nat.reduceSub, Int.reduceAdd, Int.reduceSub, Nat.reduceLeDiff, Int.reduceLT, Int.reduceLE, Int.reduceEq, Int.reduceNeg, Int.reduceToNat, hy] | ((first | refine guardB_dec (fun hy => ?_) (fun hy => ?_) | refine guardB_bool (fun hy => ?_) (fun hy => ?_) | refine guardQ_ite (fun hy => ?_) (fun hy => ?_) | refine brQ_dec (fun hy => ?_) (fun hy => ?_) | refine brQ_bool (fun hy => ?_) (fun hy => ?_)) <;> (try simp only [Bool.not_eq_true', Bool.not_eq_false', Bool.and_eq_true, Bool.or_eq_false_iff, decide_eq_true_eq, decide_eq_false_iff_not] at hy)))
      exact ⟨_, finQ_same (by simp (disch := first | rfl | omega | exact lt_new _ | assumption | decide | (simp [tk_here, tk_app, tk_0, tk_S, gr_here, gr_app, gr_0, gr_S] <;> omega) | fail) only [go_sem, ↓reduceIte, Nat.reduceLT, Nat.reduceEqDiff, Nat.reduceAdd, Nat.reduceMul, Nat.reduceSub, Int.reduceAdd, Int.reduceSub, Nat.reduceLeDiff, Int.reduceLT, Int.reduceLE, Int.reduceEq, Int.reduceNeg, Int.reduceToNat]; rfl)⟩
    · by_cases r0 : r = 0
      · by_cases q0 : q = 0
        · rw [if_pos (.inr ⟨r0, q0⟩)]
          subst r0 q0
          refine ex95 (Nat.le_of_ble_eq_true rfl) ?_
          have hy := True.intro
          repeat' (first | simp (disch := first | rfl | omega | exact lt_new _ | assumption | decide | (simp [tk_here, tk_app, tk_0, tk_S, gr_here, gr_app, gr_0, gr_S] <;> omega) | fail) only [r95_0, r95_1, r95_2, r95_3, r95_4, r95_5, r95_6, r95_7, r95_8, r95_9, r95_10, r95_11, r95_12, c95, rs95, gc95, hsa, hsb, h134, h136, wc, g1, g2, a0, b0, wq, wr, tf, go_sem, ↓reduceIte, Nat.reduceLT, Nat.reduceEqDiff, Nat.reduceAdd, Nat.reduceMul, Nat.reduceSub, Int.reduceAdd, Int.reduceSub, Nat.reduceLeDiff, Int.reduceLT, Int.reduceLE, Int.reduceEq, Int.reduceNeg, Int.reduceToNat, hy] | ((first | refine guardB_dec (fun hy => ?_) (fun hy => ?_) | refine guardB_bool (fun hy => ?_) (fun hy => ?_) | refine guardQ_ite (fun hy => ?_) (fun hy => ?_) | refine brQ_dec (fun hy => ?_) (fun hy => ?_) | refine brQ_bool (fun hy => ?_) (fun hy => ?_)) <;> (try simp only [Bool.not_eq_true', Bool.not_eq_false', Bool.and_eq_true, Bool.or_eq_false_iff, decide_eq_true_eq, decide_eq_false_iff_not] at hy)))
          exact ⟨_, finQ_same (by simp (disch := first | rfl | omega | exact lt_new _ | assumption | decide | (simp [tk_here, tk_app, tk_0, tk_S, gr_here, gr_app, gr_0, gr_S] <;> omega) | fail) only [go_sem, ↓reduceIte, Nat.reduceLT, Nat.reduceEqDiff, Nat.reduceAdd, Nat.reduceMul, Nat.reduceSub, Int.reduceAdd, Int.reduceSub, Nat.reduceLeDiff, Int.reduceLT, Int.reduceLE, Int.reduceEq, Int.reduceNeg, Int.reduceToNat]; rfl)⟩
        · rw [if_neg (by simp [a0, b0, q0]), if_pos r0]
          subst r0
          refine ex95 (Nat.le_of_ble_eq_true rfl) ?_
          have hy := True.intro
          repeat' (first | simp (disch := first | rfl | omega | exact lt_new _ | assumption | decide | (simp [tk_here, tk_app, tk_0, tk_S, gr_here, gr_app, gr_0, gr_S] <;> omega) | fail) only [r95_0, r95_1, r95_2, r95_3, r95_4, r95_5, r95_6, r95_7, r95_8, r95_9, r95_10, r95_11, r95_12, c95, rs95, gc95, hsa, hsb, h134, h136, wc, g1, g2, a0, b0, wq, wr, tf, eq, q0, hneg, w0, go_sem, ↓reduceIte, Nat.reduceLT, Nat.reduceEqDiff, Nat.reduceAdd, Nat.reduceMul, Nat.reduceSub, Int.reduceAdd, Int.reduceSub, Nat.reduceLeDiff, Int.reduceLT, Int.reduceLE, Int.reduceEq, Int.reduceNeg, Int.reduceToNat, hy] | ((first | refine guardB_dec (fun hy => ?_) (fun hy => ?_) | refine guardB_bool (fun hy => ?_) (fun hy => ?_) | refine guardQ_ite (fun hy => ?_) (fun hy => ?_) | refine brQ_dec (fun hy => ?_) (fun hy => ?_) | refine brQ_bool (fun hy => ?_) (fun hy => ?_)) <;> (try simp only [Bool.not_eq_true', Bool.not_eq_false', Bool.and_eq_true, Bool.or_eq_false_iff, decide_eq_true_eq, decide_eq_false_iff_not] at hy)))
          exact ⟨_, finQ_same (by simp (disch := first | rfl | omega | exact lt_new _ | assumption | decide | (simp [tk_here, tk_app, tk_0, tk_S, gr_here, gr_app, gr_0, gr_S] <;> omega) | fail) only [go_sem, ↓reduceIte, Nat.reduceLT, Nat.reduceEqDiff, Nat.reduceAdd, Nat.reduceMul, Nat.reduceSub, Int.reduceAdd, Int.reduceSub, Nat.reduceLeDiff, Int.reduceLT, Int.reduceLE, Int.reduceEq, Int.reduceNeg, Int.reduceToNat]; rfl)⟩
      · rw [if_neg (by simp [a0, b0, r0]), if_neg r0]
        refine ex95 (Nat.le_of_ble_eq_true rfl) ?_
        have hy := True.intro
        repeat' (first | simp (disch := first | rfl | omega | exact lt_new _ | assumption | decide | (simp [tk_here, tk_app, tk_0, tk_S, gr_here, gr_app, gr_0, gr_S] <;> omega) | fail) only [r95_0, r95_1, r95_2, r95_3, r95_4, r95_5, r95_6, r95_7, r95_8, r95_9, r95_10, r95_11, r95_12, c95, rs95, gc95, hsa, hsb, h134, h136, wc, g1, g2, a0, b0, wq, wr, tf, er, r0, hneg, w0, w1, w2, go_sem, ↓reduceIte, Nat.reduceLT, Nat.reduceEqDiff, Nat.reduceAdd, Nat.reduceMul, Nat.reduceSub, Int.reduceAdd, Int.reduceSub, Nat.reduceLeDiff, Int.reduceLT, Int.reduceLE, Int.reduceEq, Int.reduceNeg, Int.reduceToNat, hy] | ((first | refine guardB_dec (fun hy => ?_) (fun hy => ?_) | refine guardB_bool (fun hy => ?_) (fun hy => ?_) | refine guardQ_ite (fun hy => ?_) (fun hy => ?_) | refine brQ_dec (fun hy => ?_) (fun hy => ?_) | refine brQ_bool (fun hy => ?_) (fun hy => ?_)) <;> (try simp only [Bool.not_eq_true', Bool.not_eq_false', Bool.and_eq_true, Bool.or_eq_false_iff, decide_eq_true_eq, decide_eq_false_iff_not] at hy)))
        exact ⟨_, finQ_same (by simp (disch := first | rfl | omega | exact lt_new _ | assumption | decide | (simp [tk_here, tk_app, tk_0, tk_S, gr_here, gr_app, gr_0, gr_S] <;> omega) | fail) only [go_sem, ↓reduceIte, Nat.reduceLT, Nat.reduceEqDiff, Nat.reduceAdd, Nat.reduceMul, Nat.reduceSub, Int.reduceAdd, Int.reduceSub, Nat.reduceLeDiff, Int.reduceLT, Int.reduceLE, Int.reduceEq, Int.reduceNeg, Int.reduceToNat]; rfl)⟩
    · by_cases r0 : r = 0
      · by_cases q0 : q = 0
        · rw [if_pos (.inr ⟨r0, q0⟩)]
          subst r0 q0
          refine ex95 (Nat.le_of_ble_eq_true rfl) ?_
          have hy := True.intro
          repeat' (first | simp (disch := first | rfl | omega | exact lt_new _ | assumption | decide | (simp [tk_here, tk_app, tk_0, tk_S, gr_here, gr_app, gr_0, gr_S] <;> omega) | fail) only [r95_0, r95_1, r95_2, r95_3, r95_4, r95_5, r95_6, r95_7, r95_8, r95_9, r95_10, r95_11, r95_12, c95, rs95, gc95, hsa, hsb, h134, h136, wc, g1, g2, a0, b0, wq, wr, ft, go_sem, ↓reduceIte, Nat.reduceLT, Nat.reduceEqDiff, Nat.reduceAdd, Nat.reduceMul, Nat.reduceSub, Int.reduceAdd, Int.reduceSub, Nat.reduceLeDiff, Int.reduceLT, Int.reduceLE, Int.reduceEq, Int.reduceNeg, Int.reduceToNat, hy] | ((first | refine guardB_dec (fun hy => ?_) (fun hy => ?_) | refine guardB_bool (fun hy => ?_) (fun hy => ?_) | refine guardQ_ite (fun hy => ?_) (fun hy => ?_) | refine brQ_dec (fun hy => ?_) (fun hy => ?_) | refine brQ_bool (fun hy => ?_) (fun hy => ?_)) <;> (try simp only [Bool.not_eq_true', Bool.not_eq_false', Bool.and_eq_true, Bool.or_eq_false_iff, decide_eq_true_eq, decide_eq_false_iff_not] at hy)))
          exact ⟨_, finQ_same (by simp (disch := first | rfl | omega | exact lt_new _ | assumption | decide | (simp [tk_here, tk_app, tk_0, tk_S, gr_here, gr_app, gr_0, gr_S] <;> omega) | fail) only [go_sem, ↓reduceIte, Nat.reduceLT, Nat.reduceEqDiff, Nat.reduceAdd, Nat.reduceMul, Nat.reduceSub, Int.reduceAdd, Int.reduceSub, Nat.reduceLeDiff, Int.reduceLT, Int.reduceLE, Int.reduceEq, Int.reduceNeg, Int.reduceToNat]; rfl)⟩
        · rw [if_neg (by simp [a0, b0, q0]), if_pos r0]
          subst r0
          refine ex95 (Nat.le_of_ble_eq_true rfl) ?_
          have hy := True.intro
          repeat' (first | simp (disch := first | rfl | omega | exact lt_new _ | assumption | decide | (simp [tk_here, tk_app, tk_0, tk_S, gr_here, gr_app, gr_0, gr_S] <;> omega) | fail) only [r95_0, r95_1, r95_2, r95_3, r95_4, r95_5, r95_6, r95_7, r95_8, r95_9, r95_10, r95_11, r95_12, c95, rs95, gc95, hsa, hsb, h134, h136, wc, g1, g2, a0, b0, wq, wr, ft, eq, q0, hneg, w0, go_sem, ↓reduceIte, Nat.reduceLT, Nat.reduceEqDiff, Nat.reduceAdd, Nat.reduceMul, Nat.reduceSub, Int.reduceAdd, Int.reduceSub, Nat.reduceLeDiff, Int.reduceLT, Int.reduceLE, Int.reduceEq, Int.reduceNeg, Int.reduceToNat, hy] | ((first | refine guardB_dec (fun hy => ?_) (fun hy => ?_) | refine guardB_bool (fun hy => ?_) (fun hy => ?_) | refine guardQ_ite (fun hy => ?_) (fun hy => ?_) | refine brQ_dec (fun hy => ?_) (fun hy => ?_) | refine brQ_bool (fun hy => ?_) (fun hy => ?_)) <;> (try simp only [Bool.not_eq_true', Bool.not_eq_false', Bool.and_eq_true, Bool.or_eq_false_iff, decide_eq_true_eq, decide_eq_false_iff_not] at hy)))
          exact ⟨_, finQ_same (by simp (disch := first | rfl | omega | exact lt_new _ | assumption | decide | (simp [tk_here, tk_app, tk_0, tk_S, gr_here, gr_app, gr_0, gr_S] <;> omega) | fail) only [go_sem, ↓reduceIte, Nat.reduceLT, Nat.reduceEqDiff, Nat.reduceAdd, Nat.reduceMul, Nat.reduceSub, Int.reduceAdd, Int.reduceSub, Nat.reduceLeDiff, Int.reduceLT, Int.reduceLE, Int.reduceEq, Int.reduceNeg, Int.reduceToNat]; rfl)⟩
      · rw [if_neg (by simp [a0, b0, r0]), if_neg r0]
        refine ex95 (Nat.le_of_ble_eq_true rfl) ?_
        have hy := True.intro
        repeat' (first | simp (disch := first | rfl | omega | exact lt_new _ | assumption | decide | (simp [tk_here, tk_app, tk_0, tk_S, gr_here, gr_app, gr_0, gr_S] <;> omega) | fail) only [r95_0, r95_1, r95_2, r95_3, r95_4, r95_5, r95_6, r95_7, r95_8, r95_9, r95_10, r95_11, r95_12, c95, rs95, gc95, hsa, hsb, h134, h136, wc, g1, g2, a0, b0, wq, wr, ft, er, r0, hneg, w0, w1, w2, go_sem, ↓reduceIte, Nat.reduceLT, Nat.reduceEqDiff, Nat.reduceAdd, Nat.reduceMul, Nat.reduceSub, Int.reduceAdd, Int.reduceSub, Nat.reduceLeDiff, Int.reduceLT, Int.reduceLE, Int.reduceEq, Int.reduceNeg, Int.reduceToNat, hy] | ((first | refine guardB_dec (fun hy => ?_) (fun hy => ?_) | refine guardB_bool (fun hy => ?_) (fun hy => ?_) | refine guardQ_ite (fun hy => ?_) (fun hy => ?_) | refine brQ_dec (fun hy => ?_) (fun hy => ?_) | refine brQ_bool (fun hy => ?_) (fun hy => ?_)) <;> (try simp only [Bool.not_eq_true', Bool.not_eq_false', Bool.and_eq_true, Bool.or_eq_false_iff, decide_eq_true_eq, decide_eq_false_iff_not] at hy)))
        exact ⟨_, finQ_same (by simp (disch := first | rfl | omega | exact lt_new _ | assumption | decide | (simp [tk_here, tk_app, tk_0, tk_S, gr_here, gr_app, gr_0, gr_S] <;> omega) | fail) only [go_sem, ↓reduceIte, Nat.reduceLT, Nat.reduceEqDiff, Nat.reduceAdd, Nat.reduceMul, Nat.reduceSub, Int.reduceAdd, Int.reduceSub, Nat.reduceLeDiff, Int.reduceLT, Int.reduceLE, Int.reduceEq, Int.reduceNeg, Int.reduceToNat]; rfl)⟩
    · rw [if_pos (.inl (by simp [a0, b0]))]
      refine ex95 (Nat.le_of_ble_eq_true rfl) ?_
      have hy := True.intro
      repeat' (first | simp (disch := first | rfl | omega | exact lt_new _ | assumption | decide | (simp [tk_here, tk_app, tk_0, tk_S, gr_here, gr_app, gr_0, gr_S] <;> omega) | fail) only [r95_0, r95_1, r95_2, r95_3, r95_4, r95_5, r95_6, r95_7, r95_8, r95_9, r95_10, r95_11, r95_12, c95, rs95, gc95, hsa, hsb, h134, h136, wc, g1, g2, a0, b0, wq, wr, ff, go_sem, ↓reduceIte, Nat.reduceLT, Nat.reduceEqDiff, Nat.reduceAdd, Nat.reduceMul, Nat.reduceSub, Int.reduceAdd, Int.reduceSub, Nat.reduceLeDiff, Int.reduceLT, Int.reduceLE, Int.reduceEq, Int.reduceNeg, Int.reduceToNat, hy] | ((first | refine guardB_dec (fun hy => ?_) (fun hy => ?_) | refine guardB_bool (fun hy => ?_) (fun hy => ?_) | refine guardQ_ite (fun hy => ?_) (fun hy => ?_) | refine brQ_dec (fun hy => ?_) (fun hy => ?_) | refine brQ_bool (fun hy => ?_) (fun hy => ?_)) <;> (try simp only [Bool.not_eq_true', Bool.not_eq_false', Bool.and_eq_true, Bool.or_eq_false_iff, decide_eq_true_eq, decide_eq_false_iff_not] at hy)))
      exact ⟨_, finQ_same (by simp (disch := first | rfl | omega | exact lt_new _ | assumption | decide | (simp [tk_here, tk_app, tk_0, tk_S, gr_here, gr_app, gr_0, gr_S] <;> omega) | fail) only [go_sem, ↓reduceIte, Nat.reduceLT, Nat.reduceEqDiff, Nat.reduceAdd, Nat.reduceMul, Nat.reduceSub, Int.reduceAdd, Int.reduceSub, Nat.reduceLeDiff, Int.reduceLT, Int.reduceLE, Int.reduceEq, Int.reduceNeg, Int.reduceToNat]; rfl)⟩
end Go.Proofs.Ytejkgnmjdaohdaa
/-
  Shares bit by bit, walked; what a line through two moments gives, twice told. No statement of the seat stands here.
-/
namespace Go.Proofs.Ytejkgnmjdaohdaa
open Go Go.An
set_option maxRecDepth 4000
set_option linter.unusedSimpArgs false
set_option linter.unusedVariables false

theorem tdivI (a b : Nat) : (a : Int).tdiv (b : Int) = ((a / b : Nat) : Int) := by rw [Int.tdiv_eq_ediv_of_nonneg (by omega)]; rfl
theorem tmodI (a b : Nat) : (a : Int).tmod (b : Int) = ((a % b : Nat) : Int) := by rw [Int.tmod_eq_emod_of_nonneg (by omega)]; rfl
theorem shi {t : TypeId} {k : IntKind} (n s : Nat) (h : s ≤ 64) : binV Try.prog .shr t (.int .i64 (n : Int)) (.int k (s : Int)) = some (.int .i64 ((n / 2 ^ s : Nat) : Int)) := by
  show (if (s : Int) < 0 then none else some (V.int .i64 ((n : Int).fdiv (2 ^ min (s : Int).toNat 64)))) = _
  rw [if_neg (by omega), Int.toNat_natCast, Int.fdiv_eq_ediv_of_nonneg _ (Int.le_of_lt (Int.pow_pos (by decide))), Nat.min_eq_left h]
  rfl
/-- One bit more. -/
theorem share_step {a c X : Nat} (hc : 0 < c) : (2 * X + a) / c = 2 * (X / c) + a / c + (2 * (X % c) + a % c) / c ∧ (2 * X + a) % c = (2 * (X % c) + a % c) % c := by
  have h1 := Nat.div_add_mod X c
  have h2 := Nat.div_add_mod a c
  have e : 2 * X + a = (2 * (X % c) + a % c) + (2 * (X / c) + a / c) * c := by
    have e1 : (2 * (X / c) + a / c) * c = 2 * (c * (X / c)) + c * (a / c) := by
      rw [Nat.add_mul, Nat.mul_assoc, Nat.mul_comm (X / c) c, Nat.mul_comm (a / c) c]
    rw [e1]
    omega
  constructor
  · rw [e, Nat.add_mul_div_right _ _ hc]
    omega
  · rw [e, Nat.add_mul_mod_self_right]
theorem half_eq (b i : Nat) : b / 2 ^ i = 2 * (b / 2 ^ (i + 1)) + b / 2 ^ i % 2 := by
  have : b / 2 ^ (i + 1) = b / 2 ^ i / 2 := by rw [Nat.pow_succ, Nat.div_div_eq_div_mul]
  omega
set_option maxHeartbeats 4000000 in
theorem fn96 (a b c : Nat) (ha : a ≤ 1000000000000000) (hb : b ≤ 1000000000000000) (hc : 0 < c) (hc2 : c ≤ 1000000000000000) (H : Hp) : callL Try.prog pr 96 [.int .i64 (a : Int), .int .i64 (b : Int), .int .i64 (c : Int)] H = some (.tup [.int .i64 ((min (a * b / c) 4000000000000000 : Nat) : Int), .bool (decide (a * b % c = 0))], H) := by
  refine run96 (Nat.le_of_ble_eq_true rfl) ?_
  simp (disch := first | rfl | omega | exact lt_new _ | assumption | decide | (simp [tk_here, tk_app, tk_0, tk_S, gr_here, gr_app, gr_0, gr_S] <;> omega) | fail) only [r96_0, r96_1, r96_2, r96_3, r96_4, r96_5, r96_6, r96_7, r96_8, r96_9, r96_10, r96_11, r96_13, c96, rs96, gc96, go_sem, ↓reduceIte, Nat.reduceLT, Nat.reduceEqDiff, Nat.reduceAdd, Nat.reduceMul, Nat.reduceSub, Int.reduceAdd, Int.reduceSub, Nat.reduceLeDiff, Int.reduceLT, Int.reduceLE, Int.reduceEq, Int.reduceNeg, Int.reduceToNat]
  repeat' ((first | refine guardB_dec (fun hy => ?_) (fun hy => ?_) | refine guardB_bool (fun hy => ?_) (fun hy => ?_) | refine guardQ_ite (fun hy => ?_) (fun hy => ?_) | refine brQ_dec (fun hy => ?_) (fun hy => ?_) | refine brQ_bool (fun hy => ?_) (fun hy => ?_)) <;> (try simp only [Bool.not_eq_true', Bool.not_eq_false', Bool.and_eq_true, Bool.or_eq_false_iff, decide_eq_true_eq, decide_eq_false_iff_not] at hy) <;> simp (disch := first | rfl | omega | exact lt_new _ | assumption | decide | (simp [tk_here, tk_app, tk_0, tk_S, gr_here, gr_app, gr_0, gr_S] <;> omega) | fail) only [r96_0, r96_1, r96_2, r96_3, r96_4, r96_5, r96_6, r96_7, r96_8, r96_9, r96_10, r96_11, r96_13, c96, rs96, gc96, go_sem, ↓reduceIte, Nat.reduceLT, Nat.reduceEqDiff, Nat.reduceAdd, Nat.reduceMul, Nat.reduceSub, Int.reduceAdd, Int.reduceSub, Nat.reduceLeDiff, Int.reduceLT, Int.reduceLE, Int.reduceEq, Int.reduceNeg, Int.reduceToNat, hy])
  refine Wp_loop (fun m T D H' => ∃ q r : Nat, m ≤ 51 ∧ D = [] ∧ H' = H ∧ get T 0 = .int .i64 (a : Int) ∧ get T 1 = .int .i64 (b : Int) ∧ get T 2 = .int .i64 (c : Int) ∧ get T 8 = .int .i64 (q : Int) ∧ get T 9 = .int .i64 (r : Int) ∧ get T 10 = .int .i64 ((m : Int) - 1) ∧ q = min (a * (b / 2 ^ m) / c) 4000000000000000 ∧ r = a * (b / 2 ^ m) % c) ?_ 51 _ _ _ ?_
  case refine_2 =>
    have h0 : b / 2 ^ 51 = 0 := Nat.div_eq_of_lt (by omega)
    exact ⟨0, 0, Nat.le_refl _, by simp (disch := first | rfl | omega | exact lt_new _ | assumption | decide | (simp [tk_here, tk_app, tk_0, tk_S, gr_here, gr_app, gr_0, gr_S] <;> omega) | fail) only [go_sem, ↓reduceIte, Nat.reduceLT, Nat.reduceEqDiff, Nat.reduceAdd, Nat.reduceMul, Nat.reduceSub, Int.reduceAdd, Int.reduceSub, Nat.reduceLeDiff, Int.reduceLT, Int.reduceLE, Int.reduceEq, Int.reduceNeg, Int.reduceToNat]; simp [h0]⟩
  rintro m T D H' ⟨q, r, hm, rfl, rfl, t0, t1, t2, t8, t9, t10, hq, hr⟩
  cases m with
  | zero =>
    have g : ¬ (0 : Int) ≤ ((0 : Nat) : Int) - 1 := by omega
    have hd : b / 2 ^ 0 = b := by simp
    rw [hd] at hq hr
    have e : ((r : Int) = 0) = (r = 0) := by simp
    simp (disch := first | rfl | omega | exact lt_new _ | assumption | decide | (simp [tk_here, tk_app, tk_0, tk_S, gr_here, gr_app, gr_0, gr_S] <;> omega) | fail) only [r96_0, r96_1, r96_2, r96_3, r96_4, r96_5, r96_6, r96_7, r96_8, r96_9, r96_10, r96_11, l96_12, r96_13, c96, rs96, gc96, t0, t1, t2, t8, t9, t10, g, go_sem, ↓reduceIte, Nat.reduceLT, Nat.reduceEqDiff, Nat.reduceAdd, Nat.reduceMul, Nat.reduceSub, Int.reduceAdd, Int.reduceSub, Nat.reduceLeDiff, Int.reduceLT, Int.reduceLE, Int.reduceEq, Int.reduceNeg, Int.reduceToNat]
    repeat' ((first | refine guardB_dec (fun hy => ?_) (fun hy => ?_) | refine guardB_bool (fun hy => ?_) (fun hy => ?_) | refine guardQ_ite (fun hy => ?_) (fun hy => ?_) | refine brQ_dec (fun hy => ?_) (fun hy => ?_) | refine brQ_bool (fun hy => ?_) (fun hy => ?_)) <;> (try simp only [Bool.not_eq_true', Bool.not_eq_false', Bool.and_eq_true, Bool.or_eq_false_iff, decide_eq_true_eq, decide_eq_false_iff_not] at hy) <;> simp (disch := first | rfl | omega | exact lt_new _ | assumption | decide | (simp [tk_here, tk_app, tk_0, tk_S, gr_here, gr_app, gr_0, gr_S] <;> omega) | fail) only [r96_0, r96_1, r96_2, r96_3, r96_4, r96_5, r96_6, r96_7, r96_8, r96_9, r96_10, r96_11, l96_12, r96_13, c96, rs96, gc96, t0, t1, t2, t8, t9, t10, g, go_sem, ↓reduceIte, Nat.reduceLT, Nat.reduceEqDiff, Nat.reduceAdd, Nat.reduceMul, Nat.reduceSub, Int.reduceAdd, Int.reduceSub, Nat.reduceLeDiff, Int.reduceLT, Int.reduceLE, Int.reduceEq, Int.reduceNeg, Int.reduceToNat, hy])
    refine finQ_same ?_
    rw [hr] at e
    simp (disch := first | rfl | omega | exact lt_new _ | assumption | decide | (simp [tk_here, tk_app, tk_0, tk_S, gr_here, gr_app, gr_0, gr_S] <;> omega) | fail) only [go_sem, ↓reduceIte, Nat.reduceLT, Nat.reduceEqDiff, Nat.reduceAdd, Nat.reduceMul, Nat.reduceSub, Int.reduceAdd, Int.reduceSub, Nat.reduceLeDiff, Int.reduceLT, Int.reduceLE, Int.reduceEq, Int.reduceNeg, Int.reduceToNat, e, hq, hr]
  | succ i =>
    have g : (0 : Int) ≤ ((i + 1 : Nat) : Int) - 1 := by omega
    have g0 : ((i + 1 : Nat) : Int) - 1 = (i : Int) := by omega
    have hs := shi (t := 3) (k := .i64) b i (by omega)
    obtain ⟨X, hX⟩ : ∃ X, a * (b / 2 ^ (i + 1)) = X := ⟨_, rfl⟩
    rw [hX] at hq hr
    have hrc : r < c := by rw [hr]; exact Nat.mod_lt _ hc
    obtain ⟨ac, hac⟩ : ∃ z, a / c = z := ⟨_, rfl⟩
    obtain ⟨am, ham⟩ : ∃ z, a % c = z := ⟨_, rfl⟩
    have hac2 : ac ≤ 1000000000000000 := by rw [← hac]; exact Nat.le_trans (Nat.div_le_self _ _) ha
    have ham2 : am < c := by rw [← ham]; exact Nat.mod_lt _ hc
    have f1 : (a : Int).tdiv (c : Int) = (ac : Int) := by rw [tdivI, hac]
    have f2 : (a : Int).tmod (c : Int) = (am : Int) := by rw [tmodI, ham]
    have gc : ¬ (c : Int) = 0 := by omega
    have gi : (0 : Int) ≤ (i : Int) := by omega
    have hbit := half_eq b i
    obtain ⟨bi, hbi⟩ : ∃ z, b / 2 ^ i = z := ⟨_, rfl⟩
    rw [hbi] at hs hbit
    have hx2 : a * (b / 2 ^ i) = 2 * X + a * (bi % 2) := by
      rw [hbi, hbit, Nat.mul_add, ← Nat.mul_assoc, Nat.mul_comm a 2, Nat.mul_assoc, hX]
      congr 2
      omega
    have w1 : IntKind.i64.wrap (2 * (q : Int)) = ((2 * q : Nat) : Int) := by rw [IntWalk.i64_in _ (by omega)]; omega
    have w2 : IntKind.i64.wrap (2 * (r : Int)) = ((2 * r : Nat) : Int) := by rw [IntWalk.i64_in _ (by omega)]; omega
    have tb : (bi : Int).tmod 2 = ((bi % 2 : Nat) : Int) := tmodI _ 2
    have wac : IntKind.i64.wrap (ac : Int) = (ac : Int) := IntWalk.i64_in _ (by omega)
    have wi : IntKind.i64.wrap ((i : Int) - 1) = (i : Int) - 1 := IntWalk.i64_in _ (by omega)
    have hmn : ∀ x : Nat, (if (4000000000000000 : Int) < (x : Int) then (4000000000000000 : Int) else (x : Int)) = ((min x 4000000000000000 : Nat) : Int) := fun x => by split <;> omega
    by_cases hbt : bi % 2 = 1
    · have hbt' : ((bi % 2 : Nat) : Int) = 1 := by omega
      rw [hbt, Nat.mul_one] at hx2
      obtain ⟨s1, s2⟩ := share_step (a := a) (X := X) hc
      rw [hac, ham, ← hr] at s1
      rw [ham, ← hr] at s2
      obtain ⟨S, hS⟩ : ∃ S, 2 * r + am = S := ⟨_, rfl⟩
      rw [hS] at s1 s2
      obtain ⟨sd, hsd⟩ : ∃ z, S / c = z := ⟨_, rfl⟩
      obtain ⟨sm, hsm⟩ : ∃ z, S % c = z := ⟨_, rfl⟩
      have hsd2 : sd ≤ S := by rw [← hsd]; exact Nat.div_le_self _ _
      have f3 : (S : Int).tdiv (c : Int) = (sd : Int) := by rw [tdivI, hsd]
      have f4 : (S : Int).tmod (c : Int) = (sm : Int) := by rw [tmodI, hsm]
      have w3 : IntKind.i64.wrap (((2 * q : Nat) : Int) + (ac : Int)) = ((2 * q + ac : Nat) : Int) := by rw [IntWalk.i64_in _ (by omega)]; omega
      have w4 : IntKind.i64.wrap (((2 * r : Nat) : Int) + (am : Int)) = (S : Int) := by rw [IntWalk.i64_in _ (by omega)]; omega
      have w5 : IntKind.i64.wrap (sd : Int) = (sd : Int) := IntWalk.i64_in _ (by omega)
      have w6 : IntKind.i64.wrap (((2 * q + ac : Nat) : Int) + (sd : Int)) = ((2 * q + ac + sd : Nat) : Int) := by rw [IntWalk.i64_in _ (by omega)]; omega
      simp (disch := first | rfl | omega | exact lt_new _ | assumption | decide | (simp [tk_here, tk_app, tk_0, tk_S, gr_here, gr_app, gr_0, gr_S] <;> omega) | fail) only [r96_0, r96_1, r96_2, r96_3, r96_4, r96_5, r96_6, r96_7, r96_8, r96_9, r96_10, r96_11, l96_12, r96_13, c96, rs96, gc96, t0, t1, t2, t8, t9, t10, gi, g0, hs, tb, hbt', gc, f1, f2, f3, f4, w1, w2, w3, w4, w5, w6, wac, wi, hmn, go_sem, ↓reduceIte, Nat.reduceLT, Nat.reduceEqDiff, Nat.reduceAdd, Nat.reduceMul, Nat.reduceSub, Int.reduceAdd, Int.reduceSub, Nat.reduceLeDiff, Int.reduceLT, Int.reduceLE, Int.reduceEq, Int.reduceNeg, Int.reduceToNat]
      repeat' ((first | refine guardB_dec (fun hy => ?_) (fun hy => ?_) | refine guardB_bool (fun hy => ?_) (fun hy => ?_) | refine guardQ_ite (fun hy => ?_) (fun hy => ?_) | refine brQ_dec (fun hy => ?_) (fun hy => ?_) | refine brQ_bool (fun hy => ?_) (fun hy => ?_)) <;> (try simp only [Bool.not_eq_true', Bool.not_eq_false', Bool.and_eq_true, Bool.or_eq_false_iff, decide_eq_true_eq, decide_eq_false_iff_not] at hy) <;> simp (disch := first | rfl | omega | exact lt_new _ | assumption | decide | (simp [tk_here, tk_app, tk_0, tk_S, gr_here, gr_app, gr_0, gr_S] <;> omega) | fail) only [r96_0, r96_1, r96_2, r96_3, r96_4, r96_5, r96_6, r96_7, r96_8, r96_9, r96_10, r96_11, l96_12, r96_13, c96, rs96, gc96, t0, t1, t2, t8, t9, t10, gi, g0, hs, tb, hbt', gc, f1, f2, f3, f4, w1, w2, w3, w4, w5, w6, wac, wi, hmn, go_sem, ↓reduceIte, Nat.reduceLT, Nat.reduceEqDiff, Nat.reduceAdd, Nat.reduceMul, Nat.reduceSub, Int.reduceAdd, Int.reduceSub, Nat.reduceLeDiff, Int.reduceLT, Int.reduceLE, Int.reduceEq, Int.reduceNeg, Int.reduceToNat, hy])
      refine ⟨i, by omega, min (2 * q + ac + sd) 4000000000000000, sm, by omega, rfl, rfl, rfl, ?_, by rw [hx2, s2, hsm]⟩
      rw [hx2, s1, hsd, hq]
      generalize X / c = Y
      omega
    · have hbt' : ¬ ((bi % 2 : Nat) : Int) = 1 := by omega
      rw [show bi % 2 = 0 by omega, Nat.mul_zero] at hx2
      obtain ⟨s1, s2⟩ := share_step (a := 0) (X := X) hc
      rw [Nat.zero_div, Nat.zero_mod, ← hr] at s1
      rw [Nat.zero_mod, ← hr] at s2
      simp only [Nat.add_zero] at s1 s2 hx2
      obtain ⟨S, hS⟩ : ∃ S, 2 * r = S := ⟨_, rfl⟩
      rw [hS] at s1 s2
      obtain ⟨sd, hsd⟩ : ∃ z, S / c = z := ⟨_, rfl⟩
      obtain ⟨sm, hsm⟩ : ∃ z, S % c = z := ⟨_, rfl⟩
      have hsd2 : sd ≤ S := by rw [← hsd]; exact Nat.div_le_self _ _
      have f3 : (S : Int).tdiv (c : Int) = (sd : Int) := by rw [tdivI, hsd]
      have f4 : (S : Int).tmod (c : Int) = (sm : Int) := by rw [tmodI, hsm]
      rw [hS] at w2
      have w5 : IntKind.i64.wrap (sd : Int) = (sd : Int) := IntWalk.i64_in _ (by omega)
      have w6 : IntKind.i64.wrap (((2 * q : Nat) : Int) + (sd : Int)) = ((2 * q + sd : Nat) : Int) := by rw [IntWalk.i64_in _ (by omega)]; omega
      simp (disch := first | rfl | omega | exact lt_new _ | assumption | decide | (simp [tk_here, tk_app, tk_0, tk_S, gr_here, gr_app, gr_0, gr_S] <;> omega) | fail) only [r96_0, r96_1, r96_2, r96_3, r96_4, r96_5, r96_6, r96_7, r96_8, r96_9, r96_10, r96_11, l96_12, r96_13, c96, rs96, gc96, t0, t1, t2, t8, t9, t10, gi, g0, hs, tb, hbt', gc, f1, f2, f3, f4, w1, w2, w5, w6, wac, wi, hmn, go_sem, ↓reduceIte, Nat.reduceLT, Nat.reduceEqDiff, Nat.reduceAdd, Nat.reduceMul, Nat.reduceSub, Int.reduceAdd, Int.reduceSub, Nat.reduceLeDiff, Int.reduceLT, Int.reduceLE, Int.reduceEq, Int.reduceNeg, Int.reduceToNat]
      repeat' ((first | refine guardB_dec (fun hy => ?_) (fun hy => ?_) | refine guardB_bool (fun hy => ?_) (fun hy => ?_) | refine guardQ_ite (fun hy => ?_) (fun hy => ?_) | refine brQ_dec (fun hy => ?_) (fun hy => ?_) | refine brQ_bool (fun hy => ?_) (fun hy => ?_)) <;> (try simp only [Bool.not_eq_true', Bool.not_eq_false', Bool.and_eq_true, Bool.or_eq_false_iff, decide_eq_true_eq, decide_eq_false_iff_not] at hy) <;> simp (disch := first | rfl | omega | exact lt_new _ | assumption | decide | (simp [tk_here, tk_app, tk_0, tk_S, gr_here, gr_app, gr_0, gr_S] <;> omega) | fail) only [r96_0, r96_1, r96_2, r96_3, r96_4, r96_5, r96_6, r96_7, r96_8, r96_9, r96_10, r96_11, l96_12, r96_13, c96, rs96, gc96, t0, t1, t2, t8, t9, t10, gi, g0, hs, tb, hbt', gc, f1, f2, f3, f4, w1, w2, w5, w6, wac, wi, hmn, go_sem, ↓reduceIte, Nat.reduceLT, Nat.reduceEqDiff, Nat.reduceAdd, Nat.reduceMul, Nat.reduceSub, Int.reduceAdd, Int.reduceSub, Nat.reduceLeDiff, Int.reduceLT, Int.reduceLE, Int.reduceEq, Int.reduceNeg, Int.reduceToNat, hy])
      refine ⟨i, by omega, min (2 * q + sd) 4000000000000000, sm, by omega, rfl, rfl, rfl, ?_, by rw [hx2, s2, hsm]⟩
      rw [hx2, s1, hsd, hq]
      generalize X / c = Y
      omega
/-- The program's moved time. -/
def drP (a1 u1 a2 u2 t : Int) : Int × Bool := if (mdF (if a2 - a1 < 0 then -(t - a1) else t - a1) (u2 - u1) (a2 - a1).natAbs).2 = true then addF u1 (mdF (if a2 - a1 < 0 then -(t - a1) else t - a1) (u2 - u1) (a2 - a1).natAbs).1 else (0, false)
/-- The reference's way from the first moment. -/
def drB (a1 u1 a2 u2 t : Int) : Bool := (decide (t - a1 < 0) != decide (u2 - u1 < 0)) != decide (a2 - a1 < 0)
def drR (a1 u1 a2 u2 t : Int) : Int :=
  if drB a1 u1 a2 u2 t = true then
    (if (t - a1).natAbs * (u2 - u1).natAbs % (a2 - a1).natAbs = 0 then -((min ((t - a1).natAbs * (u2 - u1).natAbs / (a2 - a1).natAbs) 4000000000000000 : Nat) : Int) else -(((min ((t - a1).natAbs * (u2 - u1).natAbs / (a2 - a1).natAbs) 4000000000000000 : Nat) : Int) + 1))
  else ((min ((t - a1).natAbs * (u2 - u1).natAbs / (a2 - a1).natAbs) 4000000000000000 : Nat) : Int)
theorem okT_iff {n : Int} : okT n = true ↔ 0 ≤ n ∧ n ≤ 1000000000000000 := by simp [okT]
theorem okT_not {n : Int} (h : n < 0 ∨ 1000000000000000 < n) : okT n = false := by
  cases hk : okT n with
  | false => rfl
  | true => have := okT_iff.1 hk; omega
theorem addF_in {t b : Int} (h : -1000000000000000 ≤ b ∧ b ≤ 1000000000000000) : addF t b = (t + b, okT (t + b)) := if_neg (by omega)
theorem addF_far {t b : Int} (ht : 0 ≤ t ∧ t ≤ 1000000000000000) (h : b < -1000000000000000 ∨ 1000000000000000 < b) : addF t b = (0, false) ∧ okT (t + b) = false := ⟨if_pos (by omega), okT_not (by omega)⟩
/-- What is added is the same or far away. -/
theorem add_both {u x y : Int} (hu : 0 ≤ u ∧ u ≤ 1000000000000000) (h : x = y ∨ (1000000000000000 < x ∧ 1000000000000000 < y) ∨ (x < -1000000000000000 ∧ y < -1000000000000000)) : (addF u x).2 = okT (u + y) ∧ ((addF u x).2 = true → (addF u x).1 = u + y) := by
  rcases h with rfl | h
  · by_cases hx : -1000000000000000 ≤ x ∧ x ≤ 1000000000000000
    · rw [addF_in hx]; exact ⟨rfl, fun _ => rfl⟩
    · obtain ⟨h1, h2⟩ := addF_far hu (b := x) (by omega)
      rw [h1, h2]
      exact ⟨rfl, fun h => by cases h⟩
  · obtain ⟨h1, _⟩ := addF_far hu (b := x) (by omega)
    have h2 : okT (u + y) = false := okT_not (by omega)
    rw [h1, h2]
    exact ⟨rfl, fun h => by cases h⟩
theorem dr_eq {a1 u1 a2 u2 t : Int} (hu : 0 ≤ u1 ∧ u1 ≤ 1000000000000000) (hd : a1 ≠ a2) : (drP a1 u1 a2 u2 t).2 = okT (u1 + drR a1 u1 a2 u2 t) ∧ ((drP a1 u1 a2 u2 t).2 = true → (drP a1 u1 a2 u2 t).1 = u1 + drR a1 u1 a2 u2 t) := by
  unfold drP drR drB
  have hn : (if a2 - a1 < 0 then -(t - a1) else t - a1).natAbs = (t - a1).natAbs := by split <;> omega
  obtain ⟨x, hx⟩ : ∃ x, (if a2 - a1 < 0 then -(t - a1) else t - a1) = x := ⟨_, rfl⟩
  rw [hx] at hn ⊢
  unfold mdF
  rw [hn]
  have hz : (t - a1).natAbs = 0 → (t - a1).natAbs * (u2 - u1).natAbs % (a2 - a1).natAbs = 0 ∧ (t - a1).natAbs * (u2 - u1).natAbs / (a2 - a1).natAbs = 0 := fun h => by rw [h]; simp
  obtain ⟨Q, hQ⟩ : ∃ Q, (t - a1).natAbs * (u2 - u1).natAbs / (a2 - a1).natAbs = Q := ⟨_, rfl⟩
  obtain ⟨R, hR⟩ : ∃ R, (t - a1).natAbs * (u2 - u1).natAbs % (a2 - a1).natAbs = R := ⟨_, rfl⟩
  rw [hQ, hR] at hz ⊢
  have hsg : (decide (x < 0) == decide (u2 - u1 < 0)) = true ∨ (R = 0 ∧ Q = 0) ↔ ((decide (t - a1 < 0) != decide (u2 - u1 < 0)) != decide (a2 - a1 < 0)) = false ∨ (R = 0 ∧ Q = 0) := by
    by_cases h0 : t - a1 = 0
    · have := hz (by omega)
      simp [this]
    · have hx2 : decide (x < 0) = (decide (t - a1 < 0) != decide (a2 - a1 < 0)) := by
        rw [← hx]
        by_cases h1 : a2 - a1 < 0 <;> by_cases h2 : t - a1 < 0 <;> simp [h1, h2] <;> omega
      rw [hx2]
      cases decide (t - a1 < 0) <;> cases decide (u2 - u1 < 0) <;> cases decide (a2 - a1 < 0) <;> simp
  by_cases hbig : 9223372036854775806 < Q
  · rw [if_pos hbig]
    simp only [Bool.false_eq_true, if_false]
    have : okT (u1 + (if ((decide (t - a1 < 0) != decide (u2 - u1 < 0)) != decide (a2 - a1 < 0)) = true then (if R = 0 then -((min Q 4000000000000000 : Nat) : Int) else -(((min Q 4000000000000000 : Nat) : Int) + 1)) else ((min Q 4000000000000000 : Nat) : Int))) = false := by
      refine okT_not ?_
      split
      · split <;> omega
      · omega
    rw [this]
    exact ⟨rfl, fun h => by cases h⟩
  rw [if_neg hbig]
  by_cases hs : (decide (x < 0) == decide (u2 - u1 < 0)) = true ∨ (R = 0 ∧ Q = 0)
  · rw [if_pos hs]
    simp only [if_true]
    refine add_both hu ?_
    rcases hsg.1 hs with h | ⟨h1, h2⟩
    · rw [h]
      simp only [Bool.false_eq_true, if_false]
      omega
    · subst h1 h2
      simp
  · rw [if_neg hs]
    have hb : ((decide (t - a1 < 0) != decide (u2 - u1 < 0)) != decide (a2 - a1 < 0)) = true := by
      cases h : ((decide (t - a1 < 0) != decide (u2 - u1 < 0)) != decide (a2 - a1 < 0)) with
      | true => rfl
      | false => exact absurd (hsg.2 (.inl h)) hs
    rw [hb]
    simp only [if_true]
    by_cases hr : R = 0
    · simp only [hr, if_true]
      refine add_both hu ?_
      omega
    · simp only [hr, if_false, if_true]
      refine add_both hu ?_
      omega
end Go.Proofs.Ytejkgnmjdaohdaa
/-
  Captures whose clock went wrong, walked. No statement of the seat stands here.
-/
namespace Go.Proofs.Ytejkgnmjdaohdaa
open Go Go.An
set_option maxRecDepth 4000
set_option linter.unusedSimpArgs false
set_option linter.unusedVariables false

theorem negI : ∀ x : Int, unV .neg (.int .i64 x) = some (.int .i64 (IntKind.i64.wrap (0 - x))) := fun x => rfl
set_option maxHeartbeats 1000000 in
theorem fn94 {a1 u1 a2 u2 t : Int} (h1 : 0 ≤ a1 ∧ a1 ≤ 1000000000000000) (h2 : 0 ≤ u1 ∧ u1 ≤ 1000000000000000) (h3 : 0 ≤ a2 ∧ a2 ≤ 1000000000000000) (h4 : 0 ≤ u2 ∧ u2 ≤ 1000000000000000) (h5 : 0 ≤ t ∧ t ≤ 1000000000000000) (hd : a1 ≠ a2) (H : Hp) :
    callL Try.prog pr 94 [.int .i64 t, .ipt [.int .i64 a1] 0, .ipt [.int .i64 a2] 0, .ipt [.int .i64 u2] 0, .ipt [.int .i64 u1] 0] H = some (.tup [.int .i64 (drP a1 u1 a2 u2 t).1, .bool (drP a1 u1 a2 u2 t).2], H) := by
  unfold drP
  have wd : IntKind.i64.wrap (a2 - a1) = a2 - a1 := IntWalk.i64_in _ (by omega)
  have wt : IntKind.i64.wrap (t - a1) = t - a1 := IntWalk.i64_in _ (by omega)
  have wu : IntKind.i64.wrap (u2 - u1) = u2 - u1 := IntWalk.i64_in _ (by omega)
  have h93 := fun b H => fn93 (b := b) h2.1 h2.2 H
  by_cases hn : a2 - a1 < 0
  · rw [if_pos hn]
    have w1 : IntKind.i64.wrap (0 - (t - a1)) = -(t - a1) := by rw [IntWalk.i64_in _ (by omega)]; omega
    have w2 : IntKind.i64.wrap (0 - (a2 - a1)) = ((a2 - a1).natAbs : Int) := by rw [IntWalk.i64_in _ (by omega)]; omega
    have hm := fun H => md_f (-(t - a1)) (u2 - u1) (a2 - a1).natAbs (by omega) (by omega) (by omega) (by omega) H
    obtain ⟨p, hp⟩ : ∃ p, mdF (-(t - a1)) (u2 - u1) (a2 - a1).natAbs = p := ⟨_, rfl⟩
    rw [hp] at hm ⊢
    obtain ⟨rr, h95⟩ : ∃ rr : Hp → Int, ∀ H, callL Try.prog pr 95 [.int .i64 (-(t - a1)), .int .i64 (u2 - u1), .int .i64 ((a2 - a1).natAbs : Int)] H = some (.tup [.int .i64 p.1, .int .i64 (rr H), .bool p.2], H) := ⟨fun H => (hm H).choose, fun H => (hm H).choose_spec⟩
    by_cases hk : p.2 = true
    · rw [if_pos hk]
      refine run94 (Nat.le_of_ble_eq_true rfl) ?_
      have hy := True.intro
      repeat' (first | simp (disch := first | rfl | omega | exact lt_new _ | assumption | decide | (simp [tk_here, tk_app, tk_0, tk_S, gr_here, gr_app, gr_0, gr_S] <;> omega) | fail) only [r94_0, r94_1, r94_2, r94_3, r94_4, r94_5, r94_6, r94_7, c94, rs94, gc94, wd, wt, wu, hn, negI, w1, w2, h95, hk, h93, go_sem, ↓reduceIte, Nat.reduceLT, Nat.reduceEqDiff, Nat.reduceAdd, Nat.reduceMul, Nat.reduceSub, Int.reduceAdd, Int.reduceSub, Nat.reduceLeDiff, Int.reduceLT, Int.reduceLE, Int.reduceEq, Int.reduceNeg, Int.reduceToNat, hy] | ((first | refine guardB_dec (fun hy => ?_) (fun hy => ?_) | refine guardB_bool (fun hy => ?_) (fun hy => ?_) | refine guardQ_ite (fun hy => ?_) (fun hy => ?_) | refine brQ_dec (fun hy => ?_) (fun hy => ?_) | refine brQ_bool (fun hy => ?_) (fun hy => ?_)) <;> (try simp only [Bool.not_eq_true', Bool.not_eq_false', Bool.and_eq_true, Bool.or_eq_false_iff, decide_eq_true_eq, decide_eq_false_iff_not] at hy)))
      all_goals (try ((first | refine finQ_same ?_ | refine finQ_app ?_ | (rw [List.append_assoc]; refine finQ_app ?_)) <;> simp (disch := first | rfl | omega | exact lt_new _ | assumption | decide | (simp [tk_here, tk_app, tk_0, tk_S, gr_here, gr_app, gr_0, gr_S] <;> omega) | fail) only [go_sem, ↓reduceIte, Nat.reduceLT, Nat.reduceEqDiff, Nat.reduceAdd, Nat.reduceMul, Nat.reduceSub, Int.reduceAdd, Int.reduceSub, Nat.reduceLeDiff, Int.reduceLT, Int.reduceLE, Int.reduceEq, Int.reduceNeg, Int.reduceToNat, List.append_assoc, List.cons_append, List.nil_append, *]))
      all_goals (try first | rfl | (simp [*]; done) | grind)
    · rw [if_neg hk]
      rw [Bool.not_eq_true] at hk
      refine run94 (Nat.le_of_ble_eq_true rfl) ?_
      have hy := True.intro
      repeat' (first | simp (disch := first | rfl | omega | exact lt_new _ | assumption | decide | (simp [tk_here, tk_app, tk_0, tk_S, gr_here, gr_app, gr_0, gr_S] <;> omega) | fail) only [r94_0, r94_1, r94_2, r94_3, r94_4, r94_5, r94_6, r94_7, c94, rs94, gc94, wd, wt, wu, hn, negI, w1, w2, h95, hk, h93, go_sem, ↓reduceIte, Nat.reduceLT, Nat.reduceEqDiff, Nat.reduceAdd, Nat.reduceMul, Nat.reduceSub, Int.reduceAdd, Int.reduceSub, Nat.reduceLeDiff, Int.reduceLT, Int.reduceLE, Int.reduceEq, Int.reduceNeg, Int.reduceToNat, hy] | ((first | refine guardB_dec (fun hy => ?_) (fun hy => ?_) | refine guardB_bool (fun hy => ?_) (fun hy => ?_) | refine guardQ_ite (fun hy => ?_) (fun hy => ?_) | refine brQ_dec (fun hy => ?_) (fun hy => ?_) | refine brQ_bool (fun hy => ?_) (fun hy => ?_)) <;> (try simp only [Bool.not_eq_true', Bool.not_eq_false', Bool.and_eq_true, Bool.or_eq_false_iff, decide_eq_true_eq, decide_eq_false_iff_not] at hy)))
      all_goals (try ((first | refine finQ_same ?_ | refine finQ_app ?_ | (rw [List.append_assoc]; refine finQ_app ?_)) <;> simp (disch := first | rfl | omega | exact lt_new _ | assumption | decide | (simp [tk_here, tk_app, tk_0, tk_S, gr_here, gr_app, gr_0, gr_S] <;> omega) | fail) only [go_sem, ↓reduceIte, Nat.reduceLT, Nat.reduceEqDiff, Nat.reduceAdd, Nat.reduceMul, Nat.reduceSub, Int.reduceAdd, Int.reduceSub, Nat.reduceLeDiff, Int.reduceLT, Int.reduceLE, Int.reduceEq, Int.reduceNeg, Int.reduceToNat, List.append_assoc, List.cons_append, List.nil_append, *]))
      all_goals (try first | rfl | (simp [*]; done) | grind)
  · rw [if_neg hn]
    have e2 : ((a2 - a1).natAbs : Int) = a2 - a1 := by omega
    have hm := fun H => md_f (t - a1) (u2 - u1) (a2 - a1).natAbs (by omega) (by omega) (by omega) (by omega) H
    obtain ⟨p, hp⟩ : ∃ p, mdF (t - a1) (u2 - u1) (a2 - a1).natAbs = p := ⟨_, rfl⟩
    rw [hp, e2] at hm
    rw [hp]
    obtain ⟨rr, h95⟩ : ∃ rr : Hp → Int, ∀ H, callL Try.prog pr 95 [.int .i64 (t - a1), .int .i64 (u2 - u1), .int .i64 (a2 - a1)] H = some (.tup [.int .i64 p.1, .int .i64 (rr H), .bool p.2], H) := ⟨fun H => (hm H).choose, fun H => (hm H).choose_spec⟩
    by_cases hk : p.2 = true
    · rw [if_pos hk]
      refine run94 (Nat.le_of_ble_eq_true rfl) ?_
      have hy := True.intro
      repeat' (first | simp (disch := first | rfl | omega | exact lt_new _ | assumption | decide | (simp [tk_here, tk_app, tk_0, tk_S, gr_here, gr_app, gr_0, gr_S] <;> omega) | fail) only [r94_0, r94_1, r94_2, r94_3, r94_4, r94_5, r94_6, r94_7, c94, rs94, gc94, wd, wt, wu, hn, h95, hk, h93, go_sem, ↓reduceIte, Nat.reduceLT, Nat.reduceEqDiff, Nat.reduceAdd, Nat.reduceMul, Nat.reduceSub, Int.reduceAdd, Int.reduceSub, Nat.reduceLeDiff, Int.reduceLT, Int.reduceLE, Int.reduceEq, Int.reduceNeg, Int.reduceToNat, hy] | ((first | refine guardB_dec (fun hy => ?_) (fun hy => ?_) | refine guardB_bool (fun hy => ?_) (fun hy => ?_) | refine guardQ_ite (fun hy => ?_) (fun hy => ?_) | refine brQ_dec (fun hy => ?_) (fun hy => ?_) | refine brQ_bool (fun hy => ?_) (fun hy => ?_)) <;> (try simp only [Bool.not_eq_true', Bool.not_eq_false', Bool.and_eq_true, Bool.or_eq_false_iff, decide_eq_true_eq, decide_eq_false_iff_not] at hy)))
      all_goals (try ((first | refine finQ_same ?_ | refine finQ_app ?_ | (rw [List.append_assoc]; refine finQ_app ?_)) <;> simp (disch := first | rfl | omega | exact lt_new _ | assumption | decide | (simp [tk_here, tk_app, tk_0, tk_S, gr_here, gr_app, gr_0, gr_S] <;> omega) | fail) only [go_sem, ↓reduceIte, Nat.reduceLT, Nat.reduceEqDiff, Nat.reduceAdd, Nat.reduceMul, Nat.reduceSub, Int.reduceAdd, Int.reduceSub, Nat.reduceLeDiff, Int.reduceLT, Int.reduceLE, Int.reduceEq, Int.reduceNeg, Int.reduceToNat, List.append_assoc, List.cons_append, List.nil_append, *]))
      all_goals (try first | rfl | (simp [*]; done) | grind)
    · rw [if_neg hk]
      rw [Bool.not_eq_true] at hk
      refine run94 (Nat.le_of_ble_eq_true rfl) ?_
      have hy := True.intro
      repeat' (first | simp (disch := first | rfl | omega | exact lt_new _ | assumption | decide | (simp [tk_here, tk_app, tk_0, tk_S, gr_here, gr_app, gr_0, gr_S] <;> omega) | fail) only [r94_0, r94_1, r94_2, r94_3, r94_4, r94_5, r94_6, r94_7, c94, rs94, gc94, wd, wt, wu, hn, h95, hk, h93, go_sem, ↓reduceIte, Nat.reduceLT, Nat.reduceEqDiff, Nat.reduceAdd, Nat.reduceMul, Nat.reduceSub, Int.reduceAdd, Int.reduceSub, Nat.reduceLeDiff, Int.reduceLT, Int.reduceLE, Int.reduceEq, Int.reduceNeg, Int.reduceToNat, hy] | ((first | refine guardB_dec (fun hy => ?_) (fun hy => ?_) | refine guardB_bool (fun hy => ?_) (fun hy => ?_) | refine guardQ_ite (fun hy => ?_) (fun hy => ?_) | refine brQ_dec (fun hy => ?_) (fun hy => ?_) | refine brQ_bool (fun hy => ?_) (fun hy => ?_)) <;> (try simp only [Bool.not_eq_true', Bool.not_eq_false', Bool.and_eq_true, Bool.or_eq_false_iff, decide_eq_true_eq, decide_eq_false_iff_not] at hy)))
      all_goals (try ((first | refine finQ_same ?_ | refine finQ_app ?_ | (rw [List.append_assoc]; refine finQ_app ?_)) <;> simp (disch := first | rfl | omega | exact lt_new _ | assumption | decide | (simp [tk_here, tk_app, tk_0, tk_S, gr_here, gr_app, gr_0, gr_S] <;> omega) | fail) only [go_sem, ↓reduceIte, Nat.reduceLT, Nat.reduceEqDiff, Nat.reduceAdd, Nat.reduceMul, Nat.reduceSub, Int.reduceAdd, Int.reduceSub, Nat.reduceLeDiff, Int.reduceLT, Int.reduceLE, Int.reduceEq, Int.reduceNeg, Int.reduceToNat, List.append_assoc, List.cons_append, List.nil_append, *]))
      all_goals (try first | rfl | (simp [*]; done) | grind)
def drOk (a1 u1 a2 u2 : Int) : Bool := !decide (a1 = a2) && okT a1 && okT u1 && okT a2 && okT u2
def dfF (c : Cp) (a1 u1 a2 u2 : Int) : Cp × Int := if valE c = 0 then (if drOk a1 u1 a2 u2 = true then tmF c (drP a1 u1 a2 u2) else (noCp, 1)) else (noCp, valE c)
set_option maxHeartbeats 1000000 in
theorem fn48 (c : Cp) (hc : CpOk c) (a1 u1 a2 u2 : Int) (H : Hp) : ∃ d, callL Try.prog pr 48 [.agg (cpE.f c), .int .i64 a1, .int .i64 u1, .int .i64 a2, .int .i64 u2] H = some (.tup [.agg (cpE.f d), .int .i64 (dfF c a1 u1 a2 u2).2], H) ∧ CpEq d (dfF c a1 u1 a2 u2).1 := by
  suffices h : ∃ r, callL Try.prog pr 48 [.agg (cpE.f c), .int .i64 a1, .int .i64 u1, .int .i64 a2, .int .i64 u2] H = some r ∧ ∃ d, r = (.tup [.agg (cpE.f d), .int .i64 (dfF c a1 u1 a2 u2).2], H) ∧ CpEq d (dfF c a1 u1 a2 u2).1 by
    obtain ⟨_, h1, d, rfl, h2⟩ := h; exact ⟨d, h1, h2⟩
  have h54 := ask1 c hc
  have h68 := fun n H => fn68 n H
  refine ex48 (Nat.le_of_ble_eq_true rfl) ?_
  unfold dfF
  by_cases hv : valE c = 0
  case neg =>
    rw [if_neg hv]
    have hy := True.intro
    repeat' (first | simp (disch := first | rfl | omega | exact lt_new _ | assumption | decide | (simp [tk_here, tk_app, tk_0, tk_S, gr_here, gr_app, gr_0, gr_S] <;> omega) | fail) only [r48_0, r48_1, r48_2, r48_3, r48_4, r48_5, r48_6, c48, rs48, gc48, loadV_ptr, storeV_ptr, List.append_assoc, List.length_append, List.length_cons, List.length_nil, List.set_cons_zero, List.set_cons_succ, tk_here, tk_app, gr_here, gr_app, st_here, st_app, h54, hv, go_sem, ↓reduceIte, Nat.reduceLT, Nat.reduceEqDiff, Nat.reduceAdd, Nat.reduceMul, Nat.reduceSub, Int.reduceAdd, Int.reduceSub, Nat.reduceLeDiff, Int.reduceLT, Int.reduceLE, Int.reduceEq, Int.reduceNeg, Int.reduceToNat, hy] | ((first | refine guardB_dec (fun hy => ?_) (fun hy => ?_) | refine guardB_bool (fun hy => ?_) (fun hy => ?_) | refine guardQ_ite (fun hy => ?_) (fun hy => ?_) | refine brQ_dec (fun hy => ?_) (fun hy => ?_) | refine brQ_bool (fun hy => ?_) (fun hy => ?_)) <;> (try simp only [Bool.not_eq_true', Bool.not_eq_false', Bool.and_eq_true, Bool.or_eq_false_iff, decide_eq_true_eq, decide_eq_false_iff_not] at hy)))
    exact ⟨noCp, finQ_app (by rw [noCp_f]; simp (disch := first | rfl | omega | exact lt_new _ | assumption | decide | (simp [tk_here, tk_app, tk_0, tk_S, gr_here, gr_app, gr_0, gr_S] <;> omega) | fail) only [go_sem, ↓reduceIte, Nat.reduceLT, Nat.reduceEqDiff, Nat.reduceAdd, Nat.reduceMul, Nat.reduceSub, Int.reduceAdd, Int.reduceSub, Nat.reduceLeDiff, Int.reduceLT, Int.reduceLE, Int.reduceEq, Int.reduceNeg, Int.reduceToNat]), CpEq.rfl' _⟩
  rw [if_pos hv]
  unfold drOk
  by_cases e0 : a1 = a2
  · simp only [decide_eq_true e0, Bool.not_true, Bool.false_and, Bool.false_eq_true, if_false]
    have hy := True.intro
    repeat' (first | simp (disch := first | rfl | omega | exact lt_new _ | assumption | decide | (simp [tk_here, tk_app, tk_0, tk_S, gr_here, gr_app, gr_0, gr_S] <;> omega) | fail) only [r48_0, r48_1, r48_2, r48_3, r48_4, r48_5, r48_6, c48, rs48, gc48, loadV_ptr, storeV_ptr, List.append_assoc, List.length_append, List.length_cons, List.length_nil, List.set_cons_zero, List.set_cons_succ, tk_here, tk_app, gr_here, gr_app, st_here, st_app, h54, hv, e0, h68, go_sem, ↓reduceIte, Nat.reduceLT, Nat.reduceEqDiff, Nat.reduceAdd, Nat.reduceMul, Nat.reduceSub, Int.reduceAdd, Int.reduceSub, Nat.reduceLeDiff, Int.reduceLT, Int.reduceLE, Int.reduceEq, Int.reduceNeg, Int.reduceToNat, hy] | ((first | refine guardB_dec (fun hy => ?_) (fun hy => ?_) | refine guardB_bool (fun hy => ?_) (fun hy => ?_) | refine guardQ_ite (fun hy => ?_) (fun hy => ?_) | refine brQ_dec (fun hy => ?_) (fun hy => ?_) | refine brQ_bool (fun hy => ?_) (fun hy => ?_)) <;> (try simp only [Bool.not_eq_true', Bool.not_eq_false', Bool.and_eq_true, Bool.or_eq_false_iff, decide_eq_true_eq, decide_eq_false_iff_not] at hy)))
    exact ⟨noCp, finQ_app (by rw [noCp_f]; simp (disch := first | rfl | omega | exact lt_new _ | assumption | decide | (simp [tk_here, tk_app, tk_0, tk_S, gr_here, gr_app, gr_0, gr_S] <;> omega) | fail) only [go_sem, ↓reduceIte, Nat.reduceLT, Nat.reduceEqDiff, Nat.reduceAdd, Nat.reduceMul, Nat.reduceSub, Int.reduceAdd, Int.reduceSub, Nat.reduceLeDiff, Int.reduceLT, Int.reduceLE, Int.reduceEq, Int.reduceNeg, Int.reduceToNat]), CpEq.rfl' _⟩
  cases k1 : okT a1 with
  | false =>
    simp only [Bool.and_false, Bool.false_and, Bool.false_eq_true, if_false]
    have hy := True.intro
    repeat' (first | simp (disch := first | rfl | omega | exact lt_new _ | assumption | decide | (simp [tk_here, tk_app, tk_0, tk_S, gr_here, gr_app, gr_0, gr_S] <;> omega) | fail) only [r48_0, r48_1, r48_2, r48_3, r48_4, r48_5, r48_6, c48, rs48, gc48, loadV_ptr, storeV_ptr, List.append_assoc, List.length_append, List.length_cons, List.length_nil, List.set_cons_zero, List.set_cons_succ, tk_here, tk_app, gr_here, gr_app, st_here, st_app, h54, hv, e0, h68, k1, go_sem, ↓reduceIte, Nat.reduceLT, Nat.reduceEqDiff, Nat.reduceAdd, Nat.reduceMul, Nat.reduceSub, Int.reduceAdd, Int.reduceSub, Nat.reduceLeDiff, Int.reduceLT, Int.reduceLE, Int.reduceEq, Int.reduceNeg, Int.reduceToNat, hy] | ((first | refine guardB_dec (fun hy => ?_) (fun hy => ?_) | refine guardB_bool (fun hy => ?_) (fun hy => ?_) | refine guardQ_ite (fun hy => ?_) (fun hy => ?_) | refine brQ_dec (fun hy => ?_) (fun hy => ?_) | refine brQ_bool (fun hy => ?_) (fun hy => ?_)) <;> (try simp only [Bool.not_eq_true', Bool.not_eq_false', Bool.and_eq_true, Bool.or_eq_false_iff, decide_eq_true_eq, decide_eq_false_iff_not] at hy)))
    exact ⟨noCp, finQ_app (by rw [noCp_f]; simp (disch := first | rfl | omega | exact lt_new _ | assumption | decide | (simp [tk_here, tk_app, tk_0, tk_S, gr_here, gr_app, gr_0, gr_S] <;> omega) | fail) only [go_sem, ↓reduceIte, Nat.reduceLT, Nat.reduceEqDiff, Nat.reduceAdd, Nat.reduceMul, Nat.reduceSub, Int.reduceAdd, Int.reduceSub, Nat.reduceLeDiff, Int.reduceLT, Int.reduceLE, Int.reduceEq, Int.reduceNeg, Int.reduceToNat]), CpEq.rfl' _⟩
  | true =>
  cases k2 : okT u1 with
  | false =>
    simp only [Bool.and_false, Bool.false_and, Bool.false_eq_true, if_false]
    have hy := True.intro
    repeat' (first | simp (disch := first | rfl | omega | exact lt_new _ | assumption | decide | (simp [tk_here, tk_app, tk_0, tk_S, gr_here, gr_app, gr_0, gr_S] <;> omega) | fail) only [r48_0, r48_1, r48_2, r48_3, r48_4, r48_5, r48_6, c48, rs48, gc48, loadV_ptr, storeV_ptr, List.append_assoc, List.length_append, List.length_cons, List.length_nil, List.set_cons_zero, List.set_cons_succ, tk_here, tk_app, gr_here, gr_app, st_here, st_app, h54, hv, e0, h68, k1, k2, go_sem, ↓reduceIte, Nat.reduceLT, Nat.reduceEqDiff, Nat.reduceAdd, Nat.reduceMul, Nat.reduceSub, Int.reduceAdd, Int.reduceSub, Nat.reduceLeDiff, Int.reduceLT, Int.reduceLE, Int.reduceEq, Int.reduceNeg, Int.reduceToNat, hy] | ((first | refine guardB_dec (fun hy => ?_) (fun hy => ?_) | refine guardB_bool (fun hy => ?_) (fun hy => ?_) | refine guardQ_ite (fun hy => ?_) (fun hy => ?_) | refine brQ_dec (fun hy => ?_) (fun hy => ?_) | refine brQ_bool (fun hy => ?_) (fun hy => ?_)) <;> (try simp only [Bool.not_eq_true', Bool.not_eq_false', Bool.and_eq_true, Bool.or_eq_false_iff, decide_eq_true_eq, decide_eq_false_iff_not] at hy)))
    exact ⟨noCp, finQ_app (by rw [noCp_f]; simp (disch := first | rfl | omega | exact lt_new _ | assumption | decide | (simp [tk_here, tk_app, tk_0, tk_S, gr_here, gr_app, gr_0, gr_S] <;> omega) | fail) only [go_sem, ↓reduceIte, Nat.reduceLT, Nat.reduceEqDiff, Nat.reduceAdd, Nat.reduceMul, Nat.reduceSub, Int.reduceAdd, Int.reduceSub, Nat.reduceLeDiff, Int.reduceLT, Int.reduceLE, Int.reduceEq, Int.reduceNeg, Int.reduceToNat]), CpEq.rfl' _⟩
  | true =>
  cases k3 : okT a2 with
  | false =>
    simp only [Bool.and_false, Bool.false_and, Bool.false_eq_true, if_false]
    have hy := True.intro
    repeat' (first | simp (disch := first | rfl | omega | exact lt_new _ | assumption | decide | (simp [tk_here, tk_app, tk_0, tk_S, gr_here, gr_app, gr_0, gr_S] <;> omega) | fail) only [r48_0, r48_1, r48_2, r48_3, r48_4, r48_5, r48_6, c48, rs48, gc48, loadV_ptr, storeV_ptr, List.append_assoc, List.length_append, List.length_cons, List.length_nil, List.set_cons_zero, List.set_cons_succ, tk_here, tk_app, gr_here, gr_app, st_here, st_app, h54, hv, e0, h68, k1, k2, k3, go_sem, ↓reduceIte, Nat.reduceLT, Nat.reduceEqDiff, Nat.reduceAdd, Nat.reduceMul, Nat.reduceSub, Int.reduceAdd, Int.reduceSub, Nat.reduceLeDiff, Int.reduceLT, Int.reduceLE, Int.reduceEq, Int.reduceNeg, Int.reduceToNat, hy] | ((first | refine guardB_dec (fun hy => ?_) (fun hy => ?_) | refine guardB_bool (fun hy => ?_) (fun hy => ?_) | refine guardQ_ite (fun hy => ?_) (fun hy => ?_) | refine brQ_dec (fun hy => ?_) (fun hy => ?_) | refine brQ_bool (fun hy => ?_) (fun hy => ?_)) <;> (try simp only [Bool.not_eq_true', Bool.not_eq_false', Bool.and_eq_true, Bool.or_eq_false_iff, decide_eq_true_eq, decide_eq_false_iff_not] at hy)))
    exact ⟨noCp, finQ_app (by rw [noCp_f]; simp (disch := first | rfl | omega | exact lt_new _ | assumption | decide | (simp [tk_here, tk_app, tk_0, tk_S, gr_here, gr_app, gr_0, gr_S] <;> omega) | fail) only [go_sem, ↓reduceIte, Nat.reduceLT, Nat.reduceEqDiff, Nat.reduceAdd, Nat.reduceMul, Nat.reduceSub, Int.reduceAdd, Int.reduceSub, Nat.reduceLeDiff, Int.reduceLT, Int.reduceLE, Int.reduceEq, Int.reduceNeg, Int.reduceToNat]), CpEq.rfl' _⟩
  | true =>
  cases k4 : okT u2 with
  | false =>
    simp only [Bool.and_false, Bool.false_and, Bool.false_eq_true, if_false]
    have hy := True.intro
    repeat' (first | simp (disch := first | rfl | omega | exact lt_new _ | assumption | decide | (simp [tk_here, tk_app, tk_0, tk_S, gr_here, gr_app, gr_0, gr_S] <;> omega) | fail) only [r48_0, r48_1, r48_2, r48_3, r48_4, r48_5, r48_6, c48, rs48, gc48, loadV_ptr, storeV_ptr, List.append_assoc, List.length_append, List.length_cons, List.length_nil, List.set_cons_zero, List.set_cons_succ, tk_here, tk_app, gr_here, gr_app, st_here, st_app, h54, hv, e0, h68, k1, k2, k3, k4, go_sem, ↓reduceIte, Nat.reduceLT, Nat.reduceEqDiff, Nat.reduceAdd, Nat.reduceMul, Nat.reduceSub, Int.reduceAdd, Int.reduceSub, Nat.reduceLeDiff, Int.reduceLT, Int.reduceLE, Int.reduceEq, Int.reduceNeg, Int.reduceToNat, hy] | ((first | refine guardB_dec (fun hy => ?_) (fun hy => ?_) | refine guardB_bool (fun hy => ?_) (fun hy => ?_) | refine guardQ_ite (fun hy => ?_) (fun hy => ?_) | refine brQ_dec (fun hy => ?_) (fun hy => ?_) | refine brQ_bool (fun hy => ?_) (fun hy => ?_)) <;> (try simp only [Bool.not_eq_true', Bool.not_eq_false', Bool.and_eq_true, Bool.or_eq_false_iff, decide_eq_true_eq, decide_eq_false_iff_not] at hy)))
    exact ⟨noCp, finQ_app (by rw [noCp_f]; simp (disch := first | rfl | omega | exact lt_new _ | assumption | decide | (simp [tk_here, tk_app, tk_0, tk_S, gr_here, gr_app, gr_0, gr_S] <;> omega) | fail) only [go_sem, ↓reduceIte, Nat.reduceLT, Nat.reduceEqDiff, Nat.reduceAdd, Nat.reduceMul, Nat.reduceSub, Int.reduceAdd, Int.reduceSub, Nat.reduceLeDiff, Int.reduceLT, Int.reduceLE, Int.reduceEq, Int.reduceNeg, Int.reduceToNat]), CpEq.rfl' _⟩
  | true =>
  simp only [decide_eq_false e0, Bool.not_false, Bool.and_true, if_true]
  obtain ⟨d, hd⟩ : ∃ d : Hp → Cp, ∀ H, callL Try.prog pr 91 [.agg (cpE.f c), .fn 94 [] [.ipt [.int .i64 a1] 0, .ipt [.int .i64 a2] 0, .ipt [.int .i64 u2] 0, .ipt [.int .i64 u1] 0]] H = some (.tup [.agg (cpE.f (d H)), .int .i64 (tmF c (drP a1 u1 a2 u2)).2], H) ∧ CpEq (d H) (tmF c (drP a1 u1 a2 u2)).1 := by
    have h := fun H => fn91 c hc (drP a1 u1 a2 u2) 94 [] [.ipt [.int .i64 a1] 0, .ipt [.int .i64 a2] 0, .ipt [.int .i64 u2] 0, .ipt [.int .i64 u1] 0] kp94 (fun hv p hp H => by
      have := (pf_pk ((val_pk hv).1 p hp)).1
      exact fn94 (okT_iff.1 k1) (okT_iff.1 k2) (okT_iff.1 k3) (okT_iff.1 k4) this e0 H) H
    exact ⟨fun H => (h H).choose, fun H => (h H).choose_spec⟩
  have h91 := fun H => (hd H).1
  have hy := True.intro
  repeat' (first | simp (disch := first | rfl | omega | exact lt_new _ | assumption | decide | (simp [tk_here, tk_app, tk_0, tk_S, gr_here, gr_app, gr_0, gr_S] <;> omega) | fail) only [r48_0, r48_1, r48_2, r48_3, r48_4, r48_5, r48_6, c48, rs48, gc48, loadV_ptr, storeV_ptr, List.append_assoc, List.length_append, List.length_cons, List.length_nil, List.set_cons_zero, List.set_cons_succ, tk_here, tk_app, gr_here, gr_app, st_here, st_app, h54, hv, e0, h68, k1, k2, k3, k4, h91, go_sem, ↓reduceIte, Nat.reduceLT, Nat.reduceEqDiff, Nat.reduceAdd, Nat.reduceMul, Nat.reduceSub, Int.reduceAdd, Int.reduceSub, Nat.reduceLeDiff, Int.reduceLT, Int.reduceLE, Int.reduceEq, Int.reduceNeg, Int.reduceToNat, hy] | ((first | refine guardB_dec (fun hy => ?_) (fun hy => ?_) | refine guardB_bool (fun hy => ?_) (fun hy => ?_) | refine guardQ_ite (fun hy => ?_) (fun hy => ?_) | refine brQ_dec (fun hy => ?_) (fun hy => ?_) | refine brQ_bool (fun hy => ?_) (fun hy => ?_)) <;> (try simp only [Bool.not_eq_true', Bool.not_eq_false', Bool.and_eq_true, Bool.or_eq_false_iff, decide_eq_true_eq, decide_eq_false_iff_not] at hy)))
  exact ⟨_, finQ_app (by simp (disch := first | rfl | omega | exact lt_new _ | assumption | decide | (simp [tk_here, tk_app, tk_0, tk_S, gr_here, gr_app, gr_0, gr_S] <;> omega) | fail) only [go_sem, ↓reduceIte, Nat.reduceLT, Nat.reduceEqDiff, Nat.reduceAdd, Nat.reduceMul, Nat.reduceSub, Int.reduceAdd, Int.reduceSub, Nat.reduceLeDiff, Int.reduceLT, Int.reduceLE, Int.reduceEq, Int.reduceNeg, Int.reduceToNat]; rfl), (hd _).2⟩
end Go.Proofs.Ytejkgnmjdaohdaa
/-
  The reference's captures whose clock went wrong, walked; the statement's function 'FileShifts'. No statement of the seat stands here.
-/
namespace Go.Proofs.Ytejkgnmjdaohdaa
open Go Go.An
set_option maxRecDepth 4000
set_option linter.unusedSimpArgs false
set_option linter.unusedVariables false

set_option maxHeartbeats 4000000 in
theorem fn49 (c : Cp) (hc : CpOk c) (a1 u1 a2 u2 : Int) (H : Hp) : ∃ d, callL Try.prog pr 49 [.agg (cpE.f c), .int .i64 a1, .int .i64 u1, .int .i64 a2, .int .i64 u2] H = some (.tup [.agg (cpE.f d), .int .i64 (dfF c a1 u1 a2 u2).2], H) ∧ CpEq d (dfF c a1 u1 a2 u2).1 := by
  suffices h : ∃ r, callL Try.prog pr 49 [.agg (cpE.f c), .int .i64 a1, .int .i64 u1, .int .i64 a2, .int .i64 u2] H = some r ∧ ∃ d, r = (.tup [.agg (cpE.f d), .int .i64 (dfF c a1 u1 a2 u2).2], H) ∧ CpEq d (dfF c a1 u1 a2 u2).1 by
    obtain ⟨_, h1, d, rfl, h2⟩ := h; exact ⟨d, h1, h2⟩
  have h63 := fn63 c hc
  have h72 := fun n H => fn72 n H
  refine ex49 (Nat.le_of_ble_eq_true rfl) ?_
  unfold dfF
  by_cases hv : valE c = 0
  case neg =>
    rw [if_neg hv]
    have hy := True.intro
    repeat' (first | simp (disch := first | rfl | omega | exact lt_new _ | assumption | decide | (simp [tk_here, tk_app, tk_0, tk_S, gr_here, gr_app, gr_0, gr_S] <;> omega) | fail) only [r49_0, r49_1, r49_2, r49_3, r49_4, r49_5, r49_6, r49_7, r49_8, r49_9, r49_10, r49_11, r49_12, r49_13, r49_14, r49_15, r49_16, r49_17, r49_18, r49_19, r49_20, r49_21, r49_23, c49, rs49, gc49, loadV_ptr, storeV_ptr, List.append_assoc, List.length_append, List.length_cons, List.length_nil, List.set_cons_zero, List.set_cons_succ, tk_here, tk_app, gr_here, gr_app, st_here, st_app, h63, hv, go_sem, ↓reduceIte, Nat.reduceLT, Nat.reduceEqDiff, Nat.reduceAdd, Nat.reduceMul, Nat.reduceSub, Int.reduceAdd, Int.reduceSub, Nat.reduceLeDiff, Int.reduceLT, Int.reduceLE, Int.reduceEq, Int.reduceNeg, Int.reduceToNat, hy] | ((first | refine guardB_dec (fun hy => ?_) (fun hy => ?_) | refine guardB_bool (fun hy => ?_) (fun hy => ?_) | refine guardQ_ite (fun hy => ?_) (fun hy => ?_) | refine brQ_dec (fun hy => ?_) (fun hy => ?_) | refine brQ_bool (fun hy => ?_) (fun hy => ?_)) <;> (try simp only [Bool.not_eq_true', Bool.not_eq_false', Bool.and_eq_true, Bool.or_eq_false_iff, decide_eq_true_eq, decide_eq_false_iff_not] at hy)))
    exact ⟨noCp, finQ_app (by rw [noCp_f]; simp (disch := first | rfl | omega | exact lt_new _ | assumption | decide | (simp [tk_here, tk_app, tk_0, tk_S, gr_here, gr_app, gr_0, gr_S] <;> omega) | fail) only [go_sem, ↓reduceIte, Nat.reduceLT, Nat.reduceEqDiff, Nat.reduceAdd, Nat.reduceMul, Nat.reduceSub, Int.reduceAdd, Int.reduceSub, Nat.reduceLeDiff, Int.reduceLT, Int.reduceLE, Int.reduceEq, Int.reduceNeg, Int.reduceToNat]), CpEq.rfl' _⟩
  rw [if_pos hv]
  unfold drOk
  by_cases e0 : a1 = a2
  · simp only [decide_eq_true e0, Bool.not_true, Bool.false_and, Bool.false_eq_true, if_false]
    have hy := True.intro
    repeat' (first | simp (disch := first | rfl | omega | exact lt_new _ | assumption | decide | (simp [tk_here, tk_app, tk_0, tk_S, gr_here, gr_app, gr_0, gr_S] <;> omega) | fail) only [r49_0, r49_1, r49_2, r49_3, r49_4, r49_5, r49_6, r49_7, r49_8, r49_9, r49_10, r49_11, r49_12, r49_13, r49_14, r49_15, r49_16, r49_17, r49_18, r49_19, r49_20, r49_21, r49_23, c49, rs49, gc49, loadV_ptr, storeV_ptr, List.append_assoc, List.length_append, List.length_cons, List.length_nil, List.set_cons_zero, List.set_cons_succ, tk_here, tk_app, gr_here, gr_app, st_here, st_app, h63, hv, e0, h72, go_sem, ↓reduceIte, Nat.reduceLT, Nat.reduceEqDiff, Nat.reduceAdd, Nat.reduceMul, Nat.reduceSub, Int.reduceAdd, Int.reduceSub, Nat.reduceLeDiff, Int.reduceLT, Int.reduceLE, Int.reduceEq, Int.reduceNeg, Int.reduceToNat, hy] | ((first | refine guardB_dec (fun hy => ?_) (fun hy => ?_) | refine guardB_bool (fun hy => ?_) (fun hy => ?_) | refine guardQ_ite (fun hy => ?_) (fun hy => ?_) | refine brQ_dec (fun hy => ?_) (fun hy => ?_) | refine brQ_bool (fun hy => ?_) (fun hy => ?_)) <;> (try simp only [Bool.not_eq_true', Bool.not_eq_false', Bool.and_eq_true, Bool.or_eq_false_iff, decide_eq_true_eq, decide_eq_false_iff_not] at hy)))
    exact ⟨noCp, finQ_app (by rw [noCp_f]; simp (disch := first | rfl | omega | exact lt_new _ | assumption | decide | (simp [tk_here, tk_app, tk_0, tk_S, gr_here, gr_app, gr_0, gr_S] <;> omega) | fail) only [go_sem, ↓reduceIte, Nat.reduceLT, Nat.reduceEqDiff, Nat.reduceAdd, Nat.reduceMul, Nat.reduceSub, Int.reduceAdd, Int.reduceSub, Nat.reduceLeDiff, Int.reduceLT, Int.reduceLE, Int.reduceEq, Int.reduceNeg, Int.reduceToNat]), CpEq.rfl' _⟩
  cases k1 : okT a1 with
  | false =>
    simp only [Bool.and_false, Bool.false_and, Bool.false_eq_true, if_false]
    have hy := True.intro
    repeat' (first | simp (disch := first | rfl | omega | exact lt_new _ | assumption | decide | (simp [tk_here, tk_app, tk_0, tk_S, gr_here, gr_app, gr_0, gr_S] <;> omega) | fail) only [r49_0, r49_1, r49_2, r49_3, r49_4, r49_5, r49_6, r49_7, r49_8, r49_9, r49_10, r49_11, r49_12, r49_13, r49_14, r49_15, r49_16, r49_17, r49_18, r49_19, r49_20, r49_21, r49_23, c49, rs49, gc49, loadV_ptr, storeV_ptr, List.append_assoc, List.length_append, List.length_cons, List.length_nil, List.set_cons_zero, List.set_cons_succ, tk_here, tk_app, gr_here, gr_app, st_here, st_app, h63, hv, e0, h72, k1, go_sem, ↓reduceIte, Nat.reduceLT, Nat.reduceEqDiff, Nat.reduceAdd, Nat.reduceMul, Nat.reduceSub, Int.reduceAdd, Int.reduceSub, Nat.reduceLeDiff, Int.reduceLT, Int.reduceLE, Int.reduceEq, Int.reduceNeg, Int.reduceToNat, hy] | ((first | refine guardB_dec (fun hy => ?_) (fun hy => ?_) | refine guardB_bool (fun hy => ?_) (fun hy => ?_) | refine guardQ_ite (fun hy => ?_) (fun hy => ?_) | refine brQ_dec (fun hy => ?_) (fun hy => ?_) | refine brQ_bool (fun hy => ?_) (fun hy => ?_)) <;> (try simp only [Bool.not_eq_true', Bool.not_eq_false', Bool.and_eq_true, Bool.or_eq_false_iff, decide_eq_true_eq, decide_eq_false_iff_not] at hy)))
    exact ⟨noCp, finQ_app (by rw [noCp_f]; simp (disch := first | rfl | omega | exact lt_new _ | assumption | decide | (simp [tk_here, tk_app, tk_0, tk_S, gr_here, gr_app, gr_0, gr_S] <;> omega) | fail) only [go_sem, ↓reduceIte, Nat.reduceLT, Nat.reduceEqDiff, Nat.reduceAdd, Nat.reduceMul, Nat.reduceSub, Int.reduceAdd, Int.reduceSub, Nat.reduceLeDiff, Int.reduceLT, Int.reduceLE, Int.reduceEq, Int.reduceNeg, Int.reduceToNat]), CpEq.rfl' _⟩
  | true =>
  cases k3 : okT a2 with
  | false =>
    simp only [Bool.and_false, Bool.false_and, Bool.false_eq_true, if_false]
    have hy := True.intro
    repeat' (first | simp (disch := first | rfl | omega | exact lt_new _ | assumption | decide | (simp [tk_here, tk_app, tk_0, tk_S, gr_here, gr_app, gr_0, gr_S] <;> omega) | fail) only [r49_0, r49_1, r49_2, r49_3, r49_4, r49_5, r49_6, r49_7, r49_8, r49_9, r49_10, r49_11, r49_12, r49_13, r49_14, r49_15, r49_16, r49_17, r49_18, r49_19, r49_20, r49_21, r49_23, c49, rs49, gc49, loadV_ptr, storeV_ptr, List.append_assoc, List.length_append, List.length_cons, List.length_nil, List.set_cons_zero, List.set_cons_succ, tk_here, tk_app, gr_here, gr_app, st_here, st_app, h63, hv, e0, h72, k1, k3, go_sem, ↓reduceIte, Nat.reduceLT, Nat.reduceEqDiff, Nat.reduceAdd, Nat.reduceMul, Nat.reduceSub, Int.reduceAdd, Int.reduceSub, Nat.reduceLeDiff, Int.reduceLT, Int.reduceLE, Int.reduceEq, Int.reduceNeg, Int.reduceToNat, hy] | ((first | refine guardB_dec (fun hy => ?_) (fun hy => ?_) | refine guardB_bool (fun hy => ?_) (fun hy => ?_) | refine guardQ_ite (fun hy => ?_) (fun hy => ?_) | refine brQ_dec (fun hy => ?_) (fun hy => ?_) | refine brQ_bool (fun hy => ?_) (fun hy => ?_)) <;> (try simp only [Bool.not_eq_true', Bool.not_eq_false', Bool.and_eq_true, Bool.or_eq_false_iff, decide_eq_true_eq, decide_eq_false_iff_not] at hy)))
    exact ⟨noCp, finQ_app (by rw [noCp_f]; simp (disch := first | rfl | omega | exact lt_new _ | assumption | decide | (simp [tk_here, tk_app, tk_0, tk_S, gr_here, gr_app, gr_0, gr_S] <;> omega) | fail) only [go_sem, ↓reduceIte, Nat.reduceLT, Nat.reduceEqDiff, Nat.reduceAdd, Nat.reduceMul, Nat.reduceSub, Int.reduceAdd, Int.reduceSub, Nat.reduceLeDiff, Int.reduceLT, Int.reduceLE, Int.reduceEq, Int.reduceNeg, Int.reduceToNat]), CpEq.rfl' _⟩
  | true =>
  cases k2 : okT u1 with
  | false =>
    simp only [Bool.and_false, Bool.false_and, Bool.false_eq_true, if_false]
    have hy := True.intro
    repeat' (first | simp (disch := first | rfl | omega | exact lt_new _ | assumption | decide | (simp [tk_here, tk_app, tk_0, tk_S, gr_here, gr_app, gr_0, gr_S] <;> omega) | fail) only [r49_0, r49_1, r49_2, r49_3, r49_4, r49_5, r49_6, r49_7, r49_8, r49_9, r49_10, r49_11, r49_12, r49_13, r49_14, r49_15, r49_16, r49_17, r49_18, r49_19, r49_20, r49_21, r49_23, c49, rs49, gc49, loadV_ptr, storeV_ptr, List.append_assoc, List.length_append, List.length_cons, List.length_nil, List.set_cons_zero, List.set_cons_succ, tk_here, tk_app, gr_here, gr_app, st_here, st_app, h63, hv, e0, h72, k1, k2, k3, go_sem, ↓reduceIte, Nat.reduceLT, Nat.reduceEqDiff, Nat.reduceAdd, Nat.reduceMul, Nat.reduceSub, Int.reduceAdd, Int.reduceSub, Nat.reduceLeDiff, Int.reduceLT, Int.reduceLE, Int.reduceEq, Int.reduceNeg, Int.reduceToNat, hy] | ((first | refine guardB_dec (fun hy => ?_) (fun hy => ?_) | refine guardB_bool (fun hy => ?_) (fun hy => ?_) | refine guardQ_ite (fun hy => ?_) (fun hy => ?_) | refine brQ_dec (fun hy => ?_) (fun hy => ?_) | refine brQ_bool (fun hy => ?_) (fun hy => ?_)) <;> (try simp only [Bool.not_eq_true', Bool.not_eq_false', Bool.and_eq_true, Bool.or_eq_false_iff, decide_eq_true_eq, decide_eq_false_iff_not] at hy)))
    exact ⟨noCp, finQ_app (by rw [noCp_f]; simp (disch := first | rfl | omega | exact lt_new _ | assumption | decide | (simp [tk_here, tk_app, tk_0, tk_S, gr_here, gr_app, gr_0, gr_S] <;> omega) | fail) only [go_sem, ↓reduceIte, Nat.reduceLT, Nat.reduceEqDiff, Nat.reduceAdd, Nat.reduceMul, Nat.reduceSub, Int.reduceAdd, Int.reduceSub, Nat.reduceLeDiff, Int.reduceLT, Int.reduceLE, Int.reduceEq, Int.reduceNeg, Int.reduceToNat]), CpEq.rfl' _⟩
  | true =>
  cases k4 : okT u2 with
  | false =>
    simp only [Bool.and_false, Bool.false_and, Bool.false_eq_true, if_false]
    have hy := True.intro
    repeat' (first | simp (disch := first | rfl | omega | exact lt_new _ | assumption | decide | (simp [tk_here, tk_app, tk_0, tk_S, gr_here, gr_app, gr_0, gr_S] <;> omega) | fail) only [r49_0, r49_1, r49_2, r49_3, r49_4, r49_5, r49_6, r49_7, r49_8, r49_9, r49_10, r49_11, r49_12, r49_13, r49_14, r49_15, r49_16, r49_17, r49_18, r49_19, r49_20, r49_21, r49_23, c49, rs49, gc49, loadV_ptr, storeV_ptr, List.append_assoc, List.length_append, List.length_cons, List.length_nil, List.set_cons_zero, List.set_cons_succ, tk_here, tk_app, gr_here, gr_app, st_here, st_app, h63, hv, e0, h72, k1, k2, k3, k4, go_sem, ↓reduceIte, Nat.reduceLT, Nat.reduceEqDiff, Nat.reduceAdd, Nat.reduceMul, Nat.reduceSub, Int.reduceAdd, Int.reduceSub, Nat.reduceLeDiff, Int.reduceLT, Int.reduceLE, Int.reduceEq, Int.reduceNeg, Int.reduceToNat, hy] | ((first | refine guardB_dec (fun hy => ?_) (fun hy => ?_) | refine guardB_bool (fun hy => ?_) (fun hy => ?_) | refine guardQ_ite (fun hy => ?_) (fun hy => ?_) | refine brQ_dec (fun hy => ?_) (fun hy => ?_) | refine brQ_bool (fun hy => ?_) (fun hy => ?_)) <;> (try simp only [Bool.not_eq_true', Bool.not_eq_false', Bool.and_eq_true, Bool.or_eq_false_iff, decide_eq_true_eq, decide_eq_false_iff_not] at hy)))
    exact ⟨noCp, finQ_app (by rw [noCp_f]; simp (disch := first | rfl | omega | exact lt_new _ | assumption | decide | (simp [tk_here, tk_app, tk_0, tk_S, gr_here, gr_app, gr_0, gr_S] <;> omega) | fail) only [go_sem, ↓reduceIte, Nat.reduceLT, Nat.reduceEqDiff, Nat.reduceAdd, Nat.reduceMul, Nat.reduceSub, Int.reduceAdd, Int.reduceSub, Nat.reduceLeDiff, Int.reduceLT, Int.reduceLE, Int.reduceEq, Int.reduceNeg, Int.reduceToNat]), CpEq.rfl' _⟩
  | true =>
  simp only [decide_eq_false e0, Bool.not_false, Bool.and_true, if_true]
  have b1 := okT_iff.1 k1
  have b2 := okT_iff.1 k2
  have b3 := okT_iff.1 k3
  have b4 := okT_iff.1 k4
  have hl := (val_pk hv).2.1.1
  unfold tmF
  rw [if_pos hv]
  have hy := True.intro
  repeat' (first | simp (disch := first | rfl | omega | exact lt_new _ | assumption | decide | (simp [tk_here, tk_app, tk_0, tk_S, gr_here, gr_app, gr_0, gr_S] <;> omega) | fail) only [r49_0, r49_1, r49_2, r49_3, r49_4, r49_5, r49_6, r49_7, r49_8, r49_9, r49_10, r49_11, r49_12, r49_13, r49_14, r49_15, r49_16, r49_17, r49_18, r49_19, r49_20, r49_21, r49_23, c49, rs49, gc49, loadV_ptr, storeV_ptr, List.append_assoc, List.length_append, List.length_cons, List.length_nil, List.set_cons_zero, List.set_cons_succ, tk_here, tk_app, gr_here, gr_app, st_here, st_app, h63, hv, e0, h72, k1, k2, k3, k4, go_sem, ↓reduceIte, Nat.reduceLT, Nat.reduceEqDiff, Nat.reduceAdd, Nat.reduceMul, Nat.reduceSub, Int.reduceAdd, Int.reduceSub, Nat.reduceLeDiff, Int.reduceLT, Int.reduceLE, Int.reduceEq, Int.reduceNeg, Int.reduceToNat, hy] | ((first | refine guardB_dec (fun hy => ?_) (fun hy => ?_) | refine guardB_bool (fun hy => ?_) (fun hy => ?_) | refine guardQ_ite (fun hy => ?_) (fun hy => ?_) | refine brQ_dec (fun hy => ?_) (fun hy => ?_) | refine brQ_bool (fun hy => ?_) (fun hy => ?_)) <;> (try simp only [Bool.not_eq_true', Bool.not_eq_false', Bool.and_eq_true, Bool.or_eq_false_iff, decide_eq_true_eq, decide_eq_false_iff_not] at hy)))
  refine Wp_loop (fun m T D H' => ∃ k G, m = c.packets.length - k ∧ k ≤ c.packets.length ∧ D = [] ∧ H' = H ++ AB.row 0 [.str [], .nilslice, .nilslice, .nilslice, .nilslice] true :: .tok (((c.packets.take k).map (setT (drP a1 u1 a2 u2))).length * 5) :: G ∧ get T 1 = .int .i64 a1 ∧ get T 2 = .int .i64 u1 ∧ get T 3 = .int .i64 a2 ∧ get T 4 = .int .i64 u2 ∧ get T 5 = .ipt (cpE.f c) 0 ∧ get T 10 = .ptr H.length 0 0 ∧ get T 13 = osV (H.length + 1) pkE ((c.packets.take k).map (setT (drP a1 u1 a2 u2))) ∧ get T 14 = .int .i64 k ∧ (c.packets.take k).all (okTo (drP a1 u1 a2 u2)) = true) ?_ c.packets.length _ _ _ ?_
  case refine_2 => exact ⟨0, [], by simp (disch := first | rfl | omega | exact lt_new _ | assumption | decide | (simp [tk_here, tk_app, tk_0, tk_S, gr_here, gr_app, gr_0, gr_S] <;> omega) | fail) only [go_sem, ↓reduceIte, Nat.reduceLT, Nat.reduceEqDiff, Nat.reduceAdd, Nat.reduceMul, Nat.reduceSub, Int.reduceAdd, Int.reduceSub, Nat.reduceLeDiff, Int.reduceLT, Int.reduceLE, Int.reduceEq, Int.reduceNeg, Int.reduceToNat]; simp [osV_nil]⟩
  rintro m T D H' ⟨k, G, rfl, hk, rfl, rfl, t1, t2, t3, t4, t5, t10, t13, t14, hall⟩
  have hml : ((c.packets.take k).map (setT (drP a1 u1 a2 u2))).length = k := by simp; omega
  by_cases hlt : k < c.packets.length
  · have hlt' : (k : Int) < c.packets.length := by omega
    have hkn := mapT (to := drP a1 u1 a2 u2) hlt
    have hpt := (pf_pk ((val_pk hv).1 _ (pkE.at_mem hlt))).1
    obtain ⟨t, htt⟩ : ∃ t, (pkE.at c.packets k).time = t := ⟨_, rfl⟩
    unfold PkT at hpt
    rw [htt] at hpt
    obtain ⟨e1, e2⟩ := dr_eq (t := t) (u2 := u2) b2 e0
    have hset : setT (drP a1 u1 a2 u2) (pkE.at c.packets k) = {(pkE.at c.packets k) with time := (drP a1 u1 a2 u2 t).1} := by unfold setT; rw [htt]
    have hok : okTo (drP a1 u1 a2 u2) (pkE.at c.packets k) = (drP a1 u1 a2 u2 t).2 := by unfold okTo; rw [htt]
    have wa : IntKind.i64.wrap (t - a1) = t - a1 := IntWalk.i64_in _ (by omega)
    have wb : IntKind.i64.wrap (u2 - u1) = u2 - u1 := IntWalk.i64_in _ (by omega)
    have wd : IntKind.i64.wrap (a2 - a1) = a2 - a1 := IntWalk.i64_in _ (by omega)
    have na : IntKind.i64.wrap (0 - (t - a1)) = -(t - a1) := by rw [IntWalk.i64_in _ (by omega)]; omega
    have nb : IntKind.i64.wrap (0 - (u2 - u1)) = -(u2 - u1) := by rw [IntWalk.i64_in _ (by omega)]; omega
    have nd : IntKind.i64.wrap (0 - (a2 - a1)) = -(a2 - a1) := by rw [IntWalk.i64_in _ (by omega)]; omega
    have hmx : ∀ x : Int, (if -x > x then -x else x) = (x.natAbs : Int) := fun x => by split <;> omega
    have h96 := fun H => fn96 (t - a1).natAbs (u2 - u1).natAbs (a2 - a1).natAbs (by omega) (by omega) (by omega) (by omega) H
    unfold drR at e1 e2
    obtain ⟨q, hq⟩ : ∃ q, min ((t - a1).natAbs * (u2 - u1).natAbs / (a2 - a1).natAbs) 4000000000000000 = q := ⟨_, rfl⟩
    have hq2 : q ≤ 4000000000000000 := by omega
    obtain ⟨R, hR⟩ : ∃ R, (t - a1).natAbs * (u2 - u1).natAbs % (a2 - a1).natAbs = R := ⟨_, rfl⟩
    rw [hq] at h96 e1 e2
    rw [hR] at h96 e1 e2
    clear hq hR
    obtain ⟨qi, hqi⟩ : ∃ qi : Int, (q : Int) = qi := ⟨_, rfl⟩
    have hqi2 : 0 ≤ qi ∧ qi ≤ 4000000000000000 := by omega
    rw [hqi] at h96 e1 e2
    clear hqi hq2
    obtain ⟨B, hB⟩ : ∃ B, drB a1 u1 a2 u2 t = B := ⟨_, rfl⟩
    rw [hB] at e1 e2
    have hB2 : (!(!decide (t - a1 < 0) == decide (u2 - u1 < 0)) == decide (a2 - a1 < 0)) = B := by rw [← hB]; unfold drB; cases decide (t - a1 < 0) <;> cases decide (u2 - u1 < 0) <;> cases decide (a2 - a1 < 0) <;> rfl
    cases B with
    | false =>
      simp only [Bool.false_eq_true, if_false] at e1 e2
      by_cases hk : okT (u1 + qi) = true
      · have hx : drP a1 u1 a2 u2 t = (u1 + qi, true) := Prod.ext (e2 (e1.trans hk)) (e1.trans hk)
        rw [hx] at hset hok
        have hy := True.intro
        repeat' (first | simp (disch := first | rfl | omega | exact lt_new _ | assumption | decide | (simp [tk_here, tk_app, tk_0, tk_S, gr_here, gr_app, gr_0, gr_S] <;> omega) | fail) only [r49_0, r49_1, r49_2, r49_3, r49_4, r49_5, r49_6, r49_7, r49_8, r49_9, r49_10, r49_11, r49_12, r49_13, r49_14, r49_15, r49_16, r49_17, r49_18, r49_19, r49_20, r49_21, l49_22, r49_23, c49, rs49, gc49, loadV_ptr, storeV_ptr, List.append_assoc, List.length_append, List.length_cons, List.length_nil, List.set_cons_zero, List.set_cons_succ, tk_here, tk_app, gr_here, gr_app, st_here, st_app, t1, t2, t3, t4, t5, t10, t13, t14, hlt', htt, wa, wb, wd, negI, na, nb, nd, hmx, h96, hB2, h72, setT_f, hk, go_sem, ↓reduceIte, Nat.reduceLT, Nat.reduceEqDiff, Nat.reduceAdd, Nat.reduceMul, Nat.reduceSub, Int.reduceAdd, Int.reduceSub, Nat.reduceLeDiff, Int.reduceLT, Int.reduceLE, Int.reduceEq, Int.reduceNeg, Int.reduceToNat, hy] | ((first | refine guardB_dec (fun hy => ?_) (fun hy => ?_) | refine guardB_bool (fun hy => ?_) (fun hy => ?_) | refine guardQ_ite (fun hy => ?_) (fun hy => ?_) | refine brQ_dec (fun hy => ?_) (fun hy => ?_) | refine brQ_bool (fun hy => ?_) (fun hy => ?_)) <;> (try simp only [Bool.not_eq_true', Bool.not_eq_false', Bool.and_eq_true, Bool.or_eq_false_iff, decide_eq_true_eq, decide_eq_false_iff_not] at hy)))
        exact ⟨_, by omega, k + 1, _, rfl, hlt, by rw [hkn, List.length_append]; rfl, by rw [hkn, hset], rfl, by rw [take_all hlt, hall, hok]; rfl⟩
      · have hk2 : okT (u1 + qi) = false := by simpa using hk
        have hno : c.packets.all (okTo (drP a1 u1 a2 u2)) = false := all_drop hlt (hok.trans (e1.trans hk2))
        have hy := True.intro
        repeat' (first | simp (disch := first | rfl | omega | exact lt_new _ | assumption | decide | (simp [tk_here, tk_app, tk_0, tk_S, gr_here, gr_app, gr_0, gr_S] <;> omega) | fail) only [r49_0, r49_1, r49_2, r49_3, r49_4, r49_5, r49_6, r49_7, r49_8, r49_9, r49_10, r49_11, r49_12, r49_13, r49_14, r49_15, r49_16, r49_17, r49_18, r49_19, r49_20, r49_21, l49_22, r49_23, c49, rs49, gc49, loadV_ptr, storeV_ptr, List.append_assoc, List.length_append, List.length_cons, List.length_nil, List.set_cons_zero, List.set_cons_succ, tk_here, tk_app, gr_here, gr_app, st_here, st_app, t1, t2, t3, t4, t5, t10, t13, t14, hlt', htt, wa, wb, wd, negI, na, nb, nd, hmx, h96, hB2, h72, setT_f, hk2, go_sem, ↓reduceIte, Nat.reduceLT, Nat.reduceEqDiff, Nat.reduceAdd, Nat.reduceMul, Nat.reduceSub, Int.reduceAdd, Int.reduceSub, Nat.reduceLeDiff, Int.reduceLT, Int.reduceLE, Int.reduceEq, Int.reduceNeg, Int.reduceToNat, hy] | ((first | refine guardB_dec (fun hy => ?_) (fun hy => ?_) | refine guardB_bool (fun hy => ?_) (fun hy => ?_) | refine guardQ_ite (fun hy => ?_) (fun hy => ?_) | refine brQ_dec (fun hy => ?_) (fun hy => ?_) | refine brQ_bool (fun hy => ?_) (fun hy => ?_)) <;> (try simp only [Bool.not_eq_true', Bool.not_eq_false', Bool.and_eq_true, Bool.or_eq_false_iff, decide_eq_true_eq, decide_eq_false_iff_not] at hy)))
        simp only [hno, Bool.false_eq_true, if_false]
        exact ⟨noCp, finQ_app (by rw [noCp_f]; simp (disch := first | rfl | omega | exact lt_new _ | assumption | decide | (simp [tk_here, tk_app, tk_0, tk_S, gr_here, gr_app, gr_0, gr_S] <;> omega) | fail) only [go_sem, ↓reduceIte, Nat.reduceLT, Nat.reduceEqDiff, Nat.reduceAdd, Nat.reduceMul, Nat.reduceSub, Int.reduceAdd, Int.reduceSub, Nat.reduceLeDiff, Int.reduceLT, Int.reduceLE, Int.reduceEq, Int.reduceNeg, Int.reduceToNat]), CpEq.rfl' _⟩
    | true =>
      simp only [if_true] at e1 e2
      have n1 : IntKind.i64.wrap (0 - qi) = -qi := by rw [IntWalk.i64_in _ (by omega)]; omega
      have n2 : IntKind.i64.wrap (0 - (qi + 1)) = -(qi + 1) := by rw [IntWalk.i64_in _ (by omega)]; omega
      have n3 : IntKind.i64.wrap (qi + 1) = qi + 1 := IntWalk.i64_in _ (by omega)
      by_cases hw : R = 0
      · rw [if_pos hw] at e1 e2
        simp only [decide_eq_true hw] at h96
        by_cases hk : okT (u1 + -qi) = true
        · have hx : drP a1 u1 a2 u2 t = (u1 + -qi, true) := Prod.ext (e2 (e1.trans hk)) (e1.trans hk)
          rw [hx] at hset hok
          have hy := True.intro
          repeat' (first | simp (disch := first | rfl | omega | exact lt_new _ | assumption | decide | (simp [tk_here, tk_app, tk_0, tk_S, gr_here, gr_app, gr_0, gr_S] <;> omega) | fail) only [r49_0, r49_1, r49_2, r49_3, r49_4, r49_5, r49_6, r49_7, r49_8, r49_9, r49_10, r49_11, r49_12, r49_13, r49_14, r49_15, r49_16, r49_17, r49_18, r49_19, r49_20, r49_21, l49_22, r49_23, c49, rs49, gc49, loadV_ptr, storeV_ptr, List.append_assoc, List.length_append, List.length_cons, List.length_nil, List.set_cons_zero, List.set_cons_succ, tk_here, tk_app, gr_here, gr_app, st_here, st_app, t1, t2, t3, t4, t5, t10, t13, t14, hlt', htt, wa, wb, wd, negI, na, nb, nd, hmx, h96, hB2, h72, setT_f, n1, n2, n3, hk, go_sem, ↓reduceIte, Nat.reduceLT, Nat.reduceEqDiff, Nat.reduceAdd, Nat.reduceMul, Nat.reduceSub, Int.reduceAdd, Int.reduceSub, Nat.reduceLeDiff, Int.reduceLT, Int.reduceLE, Int.reduceEq, Int.reduceNeg, Int.reduceToNat, hy] | ((first | refine guardB_dec (fun hy => ?_) (fun hy => ?_) | refine guardB_bool (fun hy => ?_) (fun hy => ?_) | refine guardQ_ite (fun hy => ?_) (fun hy => ?_) | refine brQ_dec (fun hy => ?_) (fun hy => ?_) | refine brQ_bool (fun hy => ?_) (fun hy => ?_)) <;> (try simp only [Bool.not_eq_true', Bool.not_eq_false', Bool.and_eq_true, Bool.or_eq_false_iff, decide_eq_true_eq, decide_eq_false_iff_not] at hy)))
          exact ⟨_, by omega, k + 1, _, rfl, hlt, by rw [hkn, List.length_append]; rfl, by rw [hkn, hset], rfl, by rw [take_all hlt, hall, hok]; rfl⟩
        · have hk2 : okT (u1 + -qi) = false := by simpa using hk
          have hno : c.packets.all (okTo (drP a1 u1 a2 u2)) = false := all_drop hlt (hok.trans (e1.trans hk2))
          have hy := True.intro
          repeat' (first | simp (disch := first | rfl | omega | exact lt_new _ | assumption | decide | (simp [tk_here, tk_app, tk_0, tk_S, gr_here, gr_app, gr_0, gr_S] <;> omega) | fail) only [r49_0, r49_1, r49_2, r49_3, r49_4, r49_5, r49_6, r49_7, r49_8, r49_9, r49_10, r49_11, r49_12, r49_13, r49_14, r49_15, r49_16, r49_17, r49_18, r49_19, r49_20, r49_21, l49_22, r49_23, c49, rs49, gc49, loadV_ptr, storeV_ptr, List.append_assoc, List.length_append, List.length_cons, List.length_nil, List.set_cons_zero, List.set_cons_succ, tk_here, tk_app, gr_here, gr_app, st_here, st_app, t1, t2, t3, t4, t5, t10, t13, t14, hlt', htt, wa, wb, wd, negI, na, nb, nd, hmx, h96, hB2, h72, setT_f, n1, n2, n3, hk2, go_sem, ↓reduceIte, Nat.reduceLT, Nat.reduceEqDiff, Nat.reduceAdd, Nat.reduceMul, Nat.reduceSub, Int.reduceAdd, Int.reduceSub, Nat.reduceLeDiff, Int.reduceLT, Int.reduceLE, Int.reduceEq, Int.reduceNeg, Int.reduceToNat, hy] | ((first | refine guardB_dec (fun hy => ?_) (fun hy => ?_) | refine guardB_bool (fun hy => ?_) (fun hy => ?_) | refine guardQ_ite (fun hy => ?_) (fun hy => ?_) | refine brQ_dec (fun hy => ?_) (fun hy => ?_) | refine brQ_bool (fun hy => ?_) (fun hy => ?_)) <;> (try simp only [Bool.not_eq_true', Bool.not_eq_false', Bool.and_eq_true, Bool.or_eq_false_iff, decide_eq_true_eq, decide_eq_false_iff_not] at hy)))
          simp only [hno, Bool.false_eq_true, if_false]
          exact ⟨noCp, finQ_app (by rw [noCp_f]; simp (disch := first | rfl | omega | exact lt_new _ | assumption | decide | (simp [tk_here, tk_app, tk_0, tk_S, gr_here, gr_app, gr_0, gr_S] <;> omega) | fail) only [go_sem, ↓reduceIte, Nat.reduceLT, Nat.reduceEqDiff, Nat.reduceAdd, Nat.reduceMul, Nat.reduceSub, Int.reduceAdd, Int.reduceSub, Nat.reduceLeDiff, Int.reduceLT, Int.reduceLE, Int.reduceEq, Int.reduceNeg, Int.reduceToNat]), CpEq.rfl' _⟩
      · rw [if_neg hw] at e1 e2
        simp only [decide_eq_false hw] at h96
        by_cases hk : okT (u1 + -(qi + 1)) = true
        · have hx : drP a1 u1 a2 u2 t = (u1 + -(qi + 1), true) := Prod.ext (e2 (e1.trans hk)) (e1.trans hk)
          rw [hx] at hset hok
          have hy := True.intro
          repeat' (first | simp (disch := first | rfl | omega | exact lt_new _ | assumption | decide | (simp [tk_here, tk_app, tk_0, tk_S, gr_here, gr_app, gr_0, gr_S] <;> omega) | fail) only [r49_0, r49_1, r49_2, r49_3, r49_4, r49_5, r49_6, r49_7, r49_8, r49_9, r49_10, r49_11, r49_12, r49_13, r49_14, r49_15, r49_16, r49_17, r49_18, r49_19, r49_20, r49_21, l49_22, r49_23, c49, rs49, gc49, loadV_ptr, storeV_ptr, List.append_assoc, List.length_append, List.length_cons, List.length_nil, List.set_cons_zero, List.set_cons_succ, tk_here, tk_app, gr_here, gr_app, st_here, st_app, t1, t2, t3, t4, t5, t10, t13, t14, hlt', htt, wa, wb, wd, negI, na, nb, nd, hmx, h96, hB2, h72, setT_f, n1, n2, n3, hk, go_sem, ↓reduceIte, Nat.reduceLT, Nat.reduceEqDiff, Nat.reduceAdd, Nat.reduceMul, Nat.reduceSub, Int.reduceAdd, Int.reduceSub, Nat.reduceLeDiff, Int.reduceLT, Int.reduceLE, Int.reduceEq, Int.reduceNeg, Int.reduceToNat, hy] | ((first | refine guardB_dec (fun hy => ?_) (fun hy => ?_) | refine guardB_bool (fun hy => ?_) (fun hy => ?_) | refine guardQ_ite (fun hy => ?_) (fun hy => ?_) | refine brQ_dec (fun hy => ?_) (fun hy => ?_) | refine brQ_bool (fun hy => ?_) (fun hy => ?_)) <;> (try simp only [Bool.not_eq_true', Bool.not_eq_false', Bool.and_eq_true, Bool.or_eq_false_iff, decide_eq_true_eq, decide_eq_false_iff_not] at hy)))
          exact ⟨_, by omega, k + 1, _, rfl, hlt, by rw [hkn, List.length_append]; rfl, by rw [hkn, hset], rfl, by rw [take_all hlt, hall, hok]; rfl⟩
        · have hk2 : okT (u1 + -(qi + 1)) = false := by simpa using hk
          have hno : c.packets.all (okTo (drP a1 u1 a2 u2)) = false := all_drop hlt (hok.trans (e1.trans hk2))
          have hy := True.intro
          repeat' (first | simp (disch := first | rfl | omega | exact lt_new _ | assumption | decide | (simp [tk_here, tk_app, tk_0, tk_S, gr_here, gr_app, gr_0, gr_S] <;> omega) | fail) only [r49_0, r49_1, r49_2, r49_3, r49_4, r49_5, r49_6, r49_7, r49_8, r49_9, r49_10, r49_11, r49_12, r49_13, r49_14, r49_15, r49_16, r49_17, r49_18, r49_19, r49_20, r49_21, l49_22, r49_23, c49, rs49, gc49, loadV_ptr, storeV_ptr, List.append_assoc, List.length_append, List.length_cons, List.length_nil, List.set_cons_zero, List.set_cons_succ, tk_here, tk_app, gr_here, gr_app, st_here, st_app, t1, t2, t3, t4, t5, t10, t13, t14, hlt', htt, wa, wb, wd, negI, na, nb, nd, hmx, h96, hB2, h72, setT_f, n1, n2, n3, hk2, go_sem, ↓reduceIte, Nat.reduceLT, Nat.reduceEqDiff, Nat.reduceAdd, Nat.reduceMul, Nat.reduceSub, Int.reduceAdd, Int.reduceSub, Nat.reduceLeDiff, Int.reduceLT, Int.reduceLE, Int.reduceEq, Int.reduceNeg, Int.reduceToNat, hy] | ((first | refine guardB_dec (fun hy => ?_) (fun hy => ?_) | refine guardB_bool (fun hy => ?_) (fun hy => ?_) | refine guardQ_ite (fun hy => ?_) (fun hy => ?_) | refine brQ_dec (fun hy => ?_) (fun hy => ?_) | refine brQ_bool (fun hy => ?_) (fun hy => ?_)) <;> (try simp only [Bool.not_eq_true', Bool.not_eq_false', Bool.and_eq_true, Bool.or_eq_false_iff, decide_eq_true_eq, decide_eq_false_iff_not] at hy)))
          simp only [hno, Bool.false_eq_true, if_false]
          exact ⟨noCp, finQ_app (by rw [noCp_f]; simp (disch := first | rfl | omega | exact lt_new _ | assumption | decide | (simp [tk_here, tk_app, tk_0, tk_S, gr_here, gr_app, gr_0, gr_S] <;> omega) | fail) only [go_sem, ↓reduceIte, Nat.reduceLT, Nat.reduceEqDiff, Nat.reduceAdd, Nat.reduceMul, Nat.reduceSub, Int.reduceAdd, Int.reduceSub, Nat.reduceLeDiff, Int.reduceLT, Int.reduceLE, Int.reduceEq, Int.reduceNeg, Int.reduceToNat]), CpEq.rfl' _⟩
  · obtain rfl : k = c.packets.length := by omega
    rw [List.take_length] at hall t13
    have h76 := fun H => fn76 c (b := true) (l := c.packets.map (setT (drP a1 u1 a2 u2))) H
    have hy := True.intro
    repeat' (first | simp (disch := first | rfl | omega | exact lt_new _ | assumption | decide | (simp [tk_here, tk_app, tk_0, tk_S, gr_here, gr_app, gr_0, gr_S] <;> omega) | fail) only [r49_0, r49_1, r49_2, r49_3, r49_4, r49_5, r49_6, r49_7, r49_8, r49_9, r49_10, r49_11, r49_12, r49_13, r49_14, r49_15, r49_16, r49_17, r49_18, r49_19, r49_20, r49_21, l49_22, r49_23, c49, rs49, gc49, loadV_ptr, storeV_ptr, List.append_assoc, List.length_append, List.length_cons, List.length_nil, List.set_cons_zero, List.set_cons_succ, tk_here, tk_app, gr_here, gr_app, st_here, st_app, t1, t2, t3, t4, t5, t10, t13, t14, Int.lt_irrefl, h76, go_sem, ↓reduceIte, Nat.reduceLT, Nat.reduceEqDiff, Nat.reduceAdd, Nat.reduceMul, Nat.reduceSub, Int.reduceAdd, Int.reduceSub, Nat.reduceLeDiff, Int.reduceLT, Int.reduceLE, Int.reduceEq, Int.reduceNeg, Int.reduceToNat, hy] | ((first | refine guardB_dec (fun hy => ?_) (fun hy => ?_) | refine guardB_bool (fun hy => ?_) (fun hy => ?_) | refine guardQ_ite (fun hy => ?_) (fun hy => ?_) | refine brQ_dec (fun hy => ?_) (fun hy => ?_) | refine brQ_bool (fun hy => ?_) (fun hy => ?_)) <;> (try simp only [Bool.not_eq_true', Bool.not_eq_false', Bool.and_eq_true, Bool.or_eq_false_iff, decide_eq_true_eq, decide_eq_false_iff_not] at hy)))
    simp only [hall, if_true]
    exact ⟨{c with packetsN := true, packets := c.packets.map (setT (drP a1 u1 a2 u2))}, finQ_app (by simp (disch := first | rfl | omega | exact lt_new _ | assumption | decide | (simp [tk_here, tk_app, tk_0, tk_S, gr_here, gr_app, gr_0, gr_S] <;> omega) | fail) only [go_sem, ↓reduceIte, Nat.reduceLT, Nat.reduceEqDiff, Nat.reduceAdd, Nat.reduceMul, Nat.reduceSub, Int.reduceAdd, Int.reduceSub, Nat.reduceLeDiff, Int.reduceLT, Int.reduceLE, Int.reduceEq, Int.reduceNeg, Int.reduceToNat]), rfl, rfl, rfl, rfl, rfl⟩
theorem CpEq.trans' {a b d : Cp} (h : CpEq a d) (h' : CpEq b d) : CpEq a b := by
  obtain ⟨h1, h2, h3, h4, h5⟩ := h
  obtain ⟨g1, g2, g3, g4, g5⟩ := h'
  exact ⟨h1.trans g1.symm, h2.trans g2.symm, h3.trans g3.symm, h4.trans g4.symm, h5.trans g5.symm⟩
theorem CpEq.fits {a d : Cp} (h : CpEq a d) (hd : Fits d) : Fits a := by
  obtain ⟨h1, h2, h3, h4, h5⟩ := h
  unfold Fits
  rw [h2, h3, h4, h5]
  exact hd
theorem noFits : Fits noCp := ⟨by decide, by decide, by decide, by decide⟩
theorem sameL_refl {α : Type} {S : α → α → Bool} (h : ∀ x, S x x = true) : ∀ l : List α, sameL S l l = true
  | [] => rfl
  | x :: xs => by unfold sameL; rw [h, sameL_refl h xs]; rfl
theorem sameB_of {a b : Cp} (h : CpEq a b) : sameB a b = true := by
  obtain ⟨h1, h2, h3, h4, h5⟩ := h
  unfold sameB
  rw [h1, h2, h3, h4, h5, sameL_refl (by simp [fcS]), sameL_refl (by simp [nmS]), sameL_refl (by simp [scS]), sameL_refl (by simp [pkS])]
  simp
theorem tmFits {c : Cp} (hc : CpOk c) (to : Int → Int × Bool) : Fits (tmF c to).1 := by
  obtain ⟨h1, h2, h3, h4⟩ := hc.fits
  unfold tmF
  split
  · split
    · exact ⟨h1, h2, h3, by simpa using h4⟩
    · exact noFits
  · exact noFits
theorem dfFits {c : Cp} (hc : CpOk c) (a1 u1 a2 u2 : Int) : Fits (dfF c a1 u1 a2 u2).1 := by
  unfold dfF
  split
  · split
    · exact tmFits hc _
    · exact noFits
  · exact noFits
set_option maxHeartbeats 1000000 in
theorem fn12 (c : Cp) (hc : CpOk c) (b a1 u1 a2 u2 : Int) (H : Hp) : callL Try.prog pr 12 [.agg (cpE.f c), .int .i64 b, .agg [.int .i64 a1, .int .i64 u1, .int .i64 a2, .int .i64 u2]] H = some (.bool true, H) := by
  obtain ⟨n, h21⟩ : ∃ n : Hp → Int, ∀ H, callL Try.prog pr 21 [.agg (cpE.f c)] H = some (.int .i64 (n H), H) := ⟨fun H => (fn21 c hc H).choose, fun H => (fn21 c hc H).choose_spec⟩
  obtain ⟨d1, h1⟩ : ∃ d : Hp → Cp, ∀ H, callL Try.prog pr 46 [.agg (cpE.f c), .int .i64 b] H = some (.tup [.agg (cpE.f (d H)), .int .i64 (tmF c (fun t => addF t b)).2], H) ∧ CpEq (d H) (tmF c (fun t => addF t b)).1 := ⟨fun H => (fn46 c hc b H).choose, fun H => (fn46 c hc b H).choose_spec⟩
  obtain ⟨d2, h2⟩ : ∃ d : Hp → Cp, ∀ H, callL Try.prog pr 47 [.agg (cpE.f c), .int .i64 b] H = some (.tup [.agg (cpE.f (d H)), .int .i64 (tmF c (fun t => addF t b)).2], H) ∧ CpEq (d H) (tmF c (fun t => addF t b)).1 := ⟨fun H => (fn47 c hc b H).choose, fun H => (fn47 c hc b H).choose_spec⟩
  obtain ⟨d3, h3⟩ : ∃ d : Hp → Cp, ∀ H, callL Try.prog pr 48 [.agg (cpE.f c), .int .i64 a1, .int .i64 u1, .int .i64 a2, .int .i64 u2] H = some (.tup [.agg (cpE.f (d H)), .int .i64 (dfF c a1 u1 a2 u2).2], H) ∧ CpEq (d H) (dfF c a1 u1 a2 u2).1 := ⟨fun H => (fn48 c hc a1 u1 a2 u2 H).choose, fun H => (fn48 c hc a1 u1 a2 u2 H).choose_spec⟩
  obtain ⟨d4, h4⟩ : ∃ d : Hp → Cp, ∀ H, callL Try.prog pr 49 [.agg (cpE.f c), .int .i64 a1, .int .i64 u1, .int .i64 a2, .int .i64 u2] H = some (.tup [.agg (cpE.f (d H)), .int .i64 (dfF c a1 u1 a2 u2).2], H) ∧ CpEq (d H) (dfF c a1 u1 a2 u2).1 := ⟨fun H => (fn49 c hc a1 u1 a2 u2 H).choose, fun H => (fn49 c hc a1 u1 a2 u2 H).choose_spec⟩
  have s12 : ∀ H1 H2 H, callL Try.prog pr 18 [.agg (cpE.f (d1 H1)), .agg (cpE.f (d2 H2))] H = some (.bool true, H) := fun H1 H2 H => by
    rw [fn18 _ _ ((h1 H1).2.fits (tmFits hc _)), sameB_of ((h1 H1).2.trans' (h2 H2).2)]
  have s34 : ∀ H1 H2 H, callL Try.prog pr 18 [.agg (cpE.f (d3 H1)), .agg (cpE.f (d4 H2))] H = some (.bool true, H) := fun H1 H2 H => by
    rw [fn18 _ _ ((h3 H1).2.fits (dfFits hc _ _ _ _)), sameB_of ((h3 H1).2.trans' (h4 H2).2)]
  have e1 := fun H => (h1 H).1
  have e2 := fun H => (h2 H).1
  have e3 := fun H => (h3 H).1
  have e4 := fun H => (h4 H).1
  refine run12 (Nat.le_of_ble_eq_true rfl) ?_
  have hy := True.intro
  repeat' (first | simp (disch := first | rfl | omega | exact lt_new _ | assumption | decide | (simp [tk_here, tk_app, tk_0, tk_S, gr_here, gr_app, gr_0, gr_S] <;> omega) | fail) only [r12_0, r12_1, r12_2, r12_3, r12_4, r12_5, r12_6, r12_7, c12, rs12, gc12, loadV_ptr, storeV_ptr, List.append_assoc, List.length_append, List.length_cons, List.length_nil, List.set_cons_zero, List.set_cons_succ, tk_here, tk_app, gr_here, gr_app, st_here, st_app, known_call, h21, e1, e2, e3, e4, s12, s34, go_sem, ↓reduceIte, Nat.reduceLT, Nat.reduceEqDiff, Nat.reduceAdd, Nat.reduceMul, Nat.reduceSub, Int.reduceAdd, Int.reduceSub, Nat.reduceLeDiff, Int.reduceLT, Int.reduceLE, Int.reduceEq, Int.reduceNeg, Int.reduceToNat, hy] | ((first | refine guardB_dec (fun hy => ?_) (fun hy => ?_) | refine guardB_bool (fun hy => ?_) (fun hy => ?_) | refine guardQ_ite (fun hy => ?_) (fun hy => ?_) | refine brQ_dec (fun hy => ?_) (fun hy => ?_) | refine brQ_bool (fun hy => ?_) (fun hy => ?_)) <;> (try simp only [Bool.not_eq_true', Bool.not_eq_false', Bool.and_eq_true, Bool.or_eq_false_iff, decide_eq_true_eq, decide_eq_false_iff_not] at hy)))
  all_goals (try ((first | refine finQ_same ?_ | refine finQ_app ?_ | (rw [List.append_assoc]; refine finQ_app ?_)) <;> simp (disch := first | rfl | omega | exact lt_new _ | assumption | decide | (simp [tk_here, tk_app, tk_0, tk_S, gr_here, gr_app, gr_0, gr_S] <;> omega) | fail) only [go_sem, ↓reduceIte, Nat.reduceLT, Nat.reduceEqDiff, Nat.reduceAdd, Nat.reduceMul, Nat.reduceSub, Int.reduceAdd, Int.reduceSub, Nat.reduceLeDiff, Int.reduceLT, Int.reduceLE, Int.reduceEq, Int.reduceNeg, Int.reduceToNat, List.append_assoc, List.cons_append, List.nil_append, *]))
  all_goals (try first | rfl | (simp [*]; done) | grind)
end Go.Proofs.Ytejkgnmjdaohdaa
