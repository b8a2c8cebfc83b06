/-
  What the times of pairs are, as the document reckons them: the walk; it is the same. No statement of the seat stands here.
-/
import Derived.Test.YtdpdlobaabcjjaaConvA
namespace Go.Proofs.Ytdpdlobaabcjjaa
open Go Go.Am
set_option maxRecDepth 4000
set_option linter.unusedSimpArgs false
set_option linter.unusedVariables false

theorem fn12 (H : Hp) (s : V) (l : List (Int × Int × Int)) (hs : Sl H s 3 (l.map pairC)) (hlen : l.length < 2 ^ 61) : callL Try.prog pr 12 [s] H = some (timesA l, H) := by
  have hl : (l.map pairC).length = l.length := List.length_map _
  have hlenS := fun H' => hs.len (P := Try.prog) (H' := H') s25
  rw [hl] at hlenS
  refine flat_of (run12 (Nat.le_of_ble_eq_true rfl) ?_) ?_ ?_
  · by_cases h1 : 200 < l.length
    · have h1' : (200 : Int) < l.length := by omega
      simp (disch := omega) only [c12, r12_0, r12_1, r12_2, rs12, ↓reduceIte, go_sem, Nat.reduceLT, Nat.reduceEqDiff, Nat.reduceAdd, Nat.reduceMul, Nat.reduceLeDiff, Int.reduceLT, Int.reduceLE, Int.reduceEq, Int.reduceNeg, hlenS, h1']
      exact ⟨by simp [timesA, five, h1], [], by simp⟩
    · have h1' : ¬ (200 : Int) < l.length := by omega
      simp (disch := omega) only [c12, r12_0, r12_1, r12_3, r12_4, rs12, ↓reduceIte, go_sem, Nat.reduceLT, Nat.reduceEqDiff, Nat.reduceAdd, Nat.reduceMul, Nat.reduceLeDiff, Int.reduceLT, Int.reduceLE, Int.reduceEq, Int.reduceNeg, hlenS, h1']
      refine Wp_loop (fun m T D H' => ∃ i, m = l.length - i ∧ i ≤ l.length ∧ D = [] ∧ H' = H ∧ get T 0 = s ∧ get T 10 = .int .i64 i ∧ (∀ t ∈ l.take i, okT t = true) ∧
              get T 7 = .int .i64 (if i = 0 then 0 else minL (l.take i) 1000000000000000) ∧ get T 8 = .int .i64 (maxL (l.take i) 0) ∧ get T 9 = .int .i64 (sumL (l.take i) 0)) ?_ l.length _ _ _ ?_
      · rintro m T D H' ⟨i, rfl, hi, rfl, rfl, t0, t10, hok, t7, t8, t9⟩
        by_cases hlt : i < l.length
        · have hlt' : (i : Int) < l.length := by omega
          obtain ⟨t, ht⟩ : ∃ t, l[i]? = some t := ⟨_, List.getElem?_eq_getElem hlt⟩
          have hx : (l.map pairC)[i]? = some (pairC t) := by rw [List.getElem?_map, ht]; rfl
          have hid := hs.lt (i := i) (by omega)
          have hi2 := fun k => hs.idx (P := Try.prog) (k := k) s25 (i := i) (by omega)
          have hcell := hs.cell (P := Try.prog) g3 hx (j := 2) (by omega)
          by_cases hb : okT t = true
          · have hb' := hb
            simp only [okT, decide_eq_true_eq] at hb'
            have hok' : ∀ x ∈ l.take (i + 1), okT x = true := by
              intro x hx
              rw [take_snoc ht, List.mem_append] at hx
              rcases hx with hx | hx
              · exact hok x hx
              · rw [List.mem_singleton.1 hx]; exact hb
            have hbd := sumL_bound (l.take i) 0 hok
            rw [List.length_take, Nat.min_eq_left hi] at hbd
            have fin : minL (l.take (i + 1)) 1000000000000000 = (if i = 0 ∨ t.2.2 < minL (l.take i) 1000000000000000 then t.2.2 else minL (l.take i) 1000000000000000) := by
              rw [take_snoc ht, minL_snoc]
              by_cases h0 : i = 0
              · subst h0
                simp only [List.take_zero, minL, true_or, if_true]
                split <;> omega
              · simp [h0]
            by_cases h0 : i = 0
            · have h0' : decide ((i : Int) = 0) = true := decide_eq_true (by omega)
              simp (disch := omega) only [l12_14, r12_5, r12_6, r12_7, r12_9, r12_10, r12_11, r12_12, r12_13, ↓reduceIte, go_sem, Nat.reduceLT, Nat.reduceEqDiff, Nat.reduceAdd, Nat.reduceMul, Nat.reduceLeDiff, Int.reduceLT, Int.reduceLE, Int.reduceEq, Int.reduceNeg, t0, t10, t7, t8, t9, hlt', hlenS, hi2, hcell, pairC, within34, hb', IntWalk.i64_in, h0']
              refine ⟨_, by omega, i + 1, rfl, by omega, rfl, hok', ?_, ?_, ?_⟩
              · rw [if_neg (by omega), fin, if_pos (.inl h0)]
              · rw [take_snoc ht, maxL_snoc]
              · rw [take_snoc ht, sumL_snoc]
            · have h0' : ¬ (i : Int) = 0 := by omega
              rw [if_neg h0] at t7
              by_cases h3 : t.2.2 < minL (l.take i) 1000000000000000
              · simp (disch := omega) only [l12_14, r12_5, r12_6, r12_7, r12_9, r12_10, r12_11, r12_12, r12_13, ↓reduceIte, go_sem, Nat.reduceLT, Nat.reduceEqDiff, Nat.reduceAdd, Nat.reduceMul, Nat.reduceLeDiff, Int.reduceLT, Int.reduceLE, Int.reduceEq, Int.reduceNeg, t0, t10, t7, t8, t9, hlt', hlenS, hi2, hcell, pairC, within34, hb', IntWalk.i64_in, h0', h3]
                refine ⟨_, by omega, i + 1, rfl, by omega, rfl, hok', ?_, ?_, ?_⟩
                · rw [if_neg (by omega), fin, if_pos (.inr h3)]
                · rw [take_snoc ht, maxL_snoc]
                · rw [take_snoc ht, sumL_snoc]
              · simp (disch := omega) only [l12_14, r12_5, r12_6, r12_7, r12_9, r12_10, r12_11, r12_12, r12_13, ↓reduceIte, go_sem, Nat.reduceLT, Nat.reduceEqDiff, Nat.reduceAdd, Nat.reduceMul, Nat.reduceLeDiff, Int.reduceLT, Int.reduceLE, Int.reduceEq, Int.reduceNeg, t0, t10, t7, t8, t9, hlt', hlenS, hi2, hcell, pairC, within34, hb', IntWalk.i64_in, h0', h3]
                refine ⟨_, by omega, i + 1, rfl, by omega, rfl, hok', ?_, ?_, ?_⟩
                · rw [if_neg (by omega), fin, if_neg (by omega)]
                · rw [take_snoc ht, maxL_snoc]
                · rw [take_snoc ht, sumL_snoc]
          · have hb' := hb
            simp only [okT, decide_eq_true_eq] at hb'
            simp (disch := omega) only [l12_14, r12_5, r12_6, r12_7, r12_8, ↓reduceIte, go_sem, Nat.reduceLT, Nat.reduceEqDiff, Nat.reduceAdd, Nat.reduceMul, Nat.reduceLeDiff, Int.reduceLT, Int.reduceLE, Int.reduceEq, Int.reduceNeg, t0, t10, t7, t8, t9, hlt', hlenS, hi2, hcell, pairC, within34, hb', IntWalk.i64_in]
            refine ⟨?_, [], by simp⟩
            have : l.any (fun t => !okT t) = true := List.any_eq_true.2 ⟨t, List.mem_of_getElem? ht, by simp [hb]⟩
            unfold timesA
            rw [if_neg h1, if_pos this]
            rfl
        · obtain rfl : i = l.length := by omega
          rw [List.take_length] at t7 t8 t9 hok
          have hb := sumL_bound l 0 hok
          have hany : l.any (fun t => !okT t) = false := List.any_eq_false.2 fun t ht => by simp [hok t ht]
          by_cases h0 : l.length = 0
          · have h0' : decide ((l.length : Int) = 0) = true := decide_eq_true (by omega)
            simp (disch := omega) only [l12_14, r12_5, r12_15, r12_16, ↓reduceIte, go_sem, Nat.reduceLT, Nat.reduceEqDiff, Nat.reduceAdd, Nat.reduceMul, Nat.reduceLeDiff, Int.reduceLT, Int.reduceLE, Int.reduceEq, Int.reduceNeg, t0, t10, t7, t8, t9, Int.lt_irrefl, hlenS, h0']
            refine ⟨?_, [], by simp⟩
            unfold timesA
            rw [if_neg h1, if_neg (by simp [hany]), if_pos h0]
            rfl
          · have h0' : ¬ (l.length : Int) = 0 := by omega
            have hq : ¬ 2 * (l.length : Int) = 0 := by omega
            rw [if_neg h0] at t7
            simp (disch := omega) only [l12_14, r12_5, r12_15, r12_17, ↓reduceIte, go_sem, Nat.reduceLT, Nat.reduceEqDiff, Nat.reduceAdd, Nat.reduceMul, Nat.reduceLeDiff, Int.reduceLT, Int.reduceLE, Int.reduceEq, Int.reduceNeg, t0, t10, t7, t8, t9, Int.lt_irrefl, hlenS, h0', IntWalk.i64_in, IntWalk.i64_quo, hq]
            refine ⟨?_, [], by simp⟩
            unfold timesA
            rw [if_neg h1, if_neg (by simp [hany]), if_neg h0]
            rfl
      · exact ⟨0, by simp [go_sem, minL, maxL, sumL]⟩
  · unfold timesA five
    split
    · rfl
    · split
      · rfl
      · split <;> rfl
  · unfold timesA five
    split
    · rfl
    · split
      · rfl
      · split <;> rfl
end Go.Proofs.Ytdpdlobaabcjjaa
