/-
  Conversations made of messages, by the document's function: the loop. No statement of the seat stands here.
-/
import Derived.Test.YtdpdlobaabcjjaaSumC
namespace Go.Proofs.Ytdpdlobaabcjjaa
open Go Go.Am
set_option maxRecDepth 4000
set_option linter.unusedSimpArgs false
set_option linter.unusedVariables false

theorem l15_eq : l15_18 = .seq (.seq (.reg r15_3) (.cond (.tmp 13) .skip (.exit 0))) (.seq (.block 1 (.seq (.reg r15_4) (.seq (.reg r15_5) (.seq (.reg r15_6) (.seq (.seq (.reg r15_7) (.cond (.tmp 29) (.seq (.reg r15_8) (.reg r15_9)) .skip)) tail15))))) (.reg r15_17)) := rfl
theorem fn15 (H : Hp) (s : V) (l : List Tk) (hs : Sl H s 7 (l.map tkC)) (hlen : l.length ≤ 200) : ∃ v H2, callL Try.prog pr 15 [s] H = some (v, H2) ∧ Own H2 v 11 ((convsOf l).map smC).flatten ∧ (∃ G, H2 = H ++ G) ∧ ∀ id, At v id → H.length ≤ id := by
  have hl : (l.map tkC).length = l.length := List.length_map _
  have hlenS := fun H' => hs.len (P := Try.prog) (H' := H') s34
  rw [hl] at hlenS
  refine own1_of (run15 (Nat.le_of_ble_eq_true rfl) ?_) (sm_leaf _)
  simp (disch := omega) only [c15, r15_0, r15_1, r15_2, rs15, ↓reduceIte, go_sem, Nat.reduceLT, Nat.reduceEqDiff, Nat.reduceAdd, Nat.reduceMul, Nat.reduceLeDiff, Int.reduceLT, Int.reduceLE, Int.reduceEq, Int.reduceNeg, Int.reduceToNat]
  refine Wp_loop (fun m T D H' => ∃ i out, m = l.length - i ∧ i ≤ l.length ∧ D = [] ∧ get T 0 = s ∧ get T 4 = .int .i64 i ∧ get T 3 = out ∧ H.length ≤ H'.length ∧ (∀ id, id < H.length → H'[id]? = H[id]?) ∧ Own H' out 11 ((convsOf (l.take i)).map smC).flatten ∧ ∀ id, At out id → H.length ≤ id) ?_ l.length _ _ _ ?_
  · rintro m T D H' ⟨i, out, rfl, hi, rfl, t0, t4, t3, hle, hfr, ho, hat⟩
    by_cases hlt : i < l.length
    · have hlt' : (i : Int) < l.length := by omega
      obtain ⟨t, ht⟩ : ∃ t, l[i]? = some t := ⟨_, List.getElem?_eq_getElem hlt⟩
      have hx' : (l.map tkC)[i]? = some (tkC t) := by rw [List.getElem?_map, ht]; rfl
      have hi2 := fun k => hs.idx (P := Try.prog) (k := k) s34 (i := i) (by omega)
      have hs1 : Sl H' s 7 (l.map tkC) := hs.move fun id h => hfr id (hs.at_lt h)
      have hag := hs1.agg (P := Try.prog) g58 z58 hx'
      have hcl := convsOf_len l i
      have hfl := sm_flat (convsOf (l.take i))
      generalize hxs : convsOf (l.take i) = xs at ho hcl hfl
      have hsx : ∀ L1 L2 : Hp, Sl (H' ++ L1 ++ L2) out 11 (xs.map smC) := fun L1 L2 => ((ho.sl (sm_all xs) (by omega)).app).app
      have h37 := fun L1 L2 => fn37 (H' ++ L1 ++ L2) out xs (tkKey t) (hsx L1 L2) (by omega)
      have hlenO := fun H2 => (ho.sl (sm_all xs) (by omega)).len (P := Try.prog) (H' := H2) s37
      rw [List.length_map] at hlenO
      have hstep : convsOf (l.take (i + 1)) = convStep xs t := by rw [convsOf_snoc ht, hxs]
      -- the heap's two new rows: the message and its key
      obtain ⟨Hx, hHx⟩ : ∃ Hx, Hx = H' ++ [AB.row 0 (tkC t) true] ++ [AB.row 0 (keyC (tkKey t)) true] := ⟨_, rfl⟩
      have hxl : Hx.length = H'.length + 2 := by rw [hHx]; simp
      have oX : Own Hx out 11 (xs.map smC).flatten := by rw [hHx]; exact ho.app.app
      have x0 : loadV Try.prog 3 Hx (.ptr H'.length 0 0) = some (.int .i64 t.time) := by
        rw [hHx]; simp (disch := exact lt_new _) only [↓reduceIte, go_sem, Nat.reduceLT, Nat.reduceEqDiff, Nat.reduceAdd, Nat.reduceMul, Nat.reduceLeDiff, Int.reduceLT, Int.reduceLE, Int.reduceEq, Int.reduceNeg, Int.reduceToNat]
      have x6 : loadV Try.prog 3 Hx (.ptr H'.length 0 6) = some (.int .i64 t.size) := by
        rw [hHx]; simp (disch := exact lt_new _) only [↓reduceIte, go_sem, Nat.reduceLT, Nat.reduceEqDiff, Nat.reduceAdd, Nat.reduceMul, Nat.reduceLeDiff, Int.reduceLT, Int.reduceLE, Int.reduceEq, Int.reduceNeg, Int.reduceToNat]
      have xfr : ∀ id, id < H'.length → Hx[id]? = H'[id]? := fun id hid => by
        rw [hHx, List.append_assoc, List.getElem?_append_left hid]
      rcases findS_cases xs (tkKey t) with hf | ⟨j, hj, hf⟩
      · have hn : xs ++ [newSm t] = xs ++ [newSm t] := rfl
        obtain ⟨o', H1, e1, o1, f1, le1, at1⟩ := oX.push (by_ := 88) (ys := smC (newSm t)) rfl rfl (by omega) (by omega) (by omega)
        have o1' : Own H1 o' 11 ((xs ++ [newSm t]).map smC).flatten := by
          rw [List.map_append, List.flatten_append]; simpa using o1
        have y0 : loadV Try.prog 3 H1 (.ptr H'.length 0 0) = some (.int .i64 t.time) := by
          rw [← x0]; exact load_frame (f1 _ (by omega) fun h => by have := ho.lt h; omega)
        have y6 : loadV Try.prog 3 H1 (.ptr H'.length 0 6) = some (.int .i64 t.size) := by
          rw [← x6]; exact load_frame (f1 _ (by omega) fun h => by have := ho.lt h; omega)
        rw [hHx] at e1
        simp only [newSm] at e1
        have hf' : findI (fun x => keyEq (keyOf x) (tkKey t)) xs 0 = -1 := hf
        rw [l15_eq]
        simp (config := { maxSteps := 1000000 }) (disch := first | exact lt_new _ | exact len_snoc _ _ _ | omega) only [r15_3, r15_4, r15_5, r15_6, r15_7, r15_8, r15_9, ↓reduceIte, go_sem, Nat.reduceLT, Nat.reduceEqDiff, Nat.reduceAdd, Nat.reduceMul, Nat.reduceLeDiff, Int.reduceLT, Int.reduceLE, Int.reduceEq, Int.reduceNeg, Int.reduceToNat, t0, t4, t3, hlt', hlenS, hi2, hag, fn36, h37, hf', hlenO, e1]
        refine tail15_ok (x := newSm t) (i := xs.length) (tb := H'.length) o1' (by simp) (by simp only [↓reduceIte, go_sem, Nat.reduceLT, Nat.reduceEqDiff, Nat.reduceAdd, Nat.reduceMul, Nat.reduceLeDiff, Int.reduceLT, Int.reduceLE, Int.reduceEq, Int.reduceNeg, Int.reduceToNat]) (by simp only [↓reduceIte, go_sem, Nat.reduceLT, Nat.reduceEqDiff, Nat.reduceAdd, Nat.reduceMul, Nat.reduceLeDiff, Int.reduceLT, Int.reduceLE, Int.reduceEq, Int.reduceNeg, Int.reduceToNat]) (by simp only [↓reduceIte, go_sem, Nat.reduceLT, Nat.reduceEqDiff, Nat.reduceAdd, Nat.reduceMul, Nat.reduceLeDiff, Int.reduceLT, Int.reduceLE, Int.reduceEq, Int.reduceNeg, Int.reduceToNat]) (by simp only [↓reduceIte, go_sem, Nat.reduceLT, Nat.reduceEqDiff, Nat.reduceAdd, Nat.reduceMul, Nat.reduceLeDiff, Int.reduceLT, Int.reduceLE, Int.reduceEq, Int.reduceNeg, Int.reduceToNat]) (fun h => ?_) y0 y6 fun T' H2 k0 k3 k4 ko kf kl => ?_
        · rcases at1 _ h with h | h
          · have := ho.lt h; omega
          · omega
        · simp (disch := omega) only [↓reduceIte, go_sem, Nat.reduceLT, Nat.reduceEqDiff, Nat.reduceAdd, Nat.reduceMul, Nat.reduceLeDiff, Int.reduceLT, Int.reduceLE, Int.reduceEq, Int.reduceNeg, Int.reduceToNat, t0, t4] at k0 k4
          simp (disch := omega) only [r15_17, ↓reduceIte, go_sem, Nat.reduceLT, Nat.reduceEqDiff, Nat.reduceAdd, Nat.reduceMul, Nat.reduceLeDiff, Int.reduceLT, Int.reduceLE, Int.reduceEq, Int.reduceNeg, Int.reduceToNat, k0, k3, k4, IntWalk.i64_in]
          refine ⟨_, by omega, i + 1, o', rfl, hlt, rfl, rfl, by omega, fun id hid => ?_, ?_, fun id h => ?_⟩
          · rw [kf id fun h => ?_, f1 id (by omega) fun h => by have := hat id h; omega, xfr id (by omega)]
            · exact hfr id hid
            · rcases at1 _ h with h | h
              · have := hat id h; omega
              · omega
          · rw [hstep]
            unfold convStep
            rw [if_pos (by omega)]
            exact ko
          · rcases at1 _ h with h | h
            · exact hat id h
            · omega
      · have hf' : findI (fun x => keyEq (keyOf x) (tkKey t)) xs 0 = (j : Int) := hf
        obtain ⟨x, hx⟩ : ∃ x, xs[j]? = some x := ⟨_, List.getElem?_eq_getElem hj⟩
        have hneg : ¬ ((j : Int) < 0) := by omega
        rw [l15_eq]
        simp (config := { maxSteps := 1000000 }) (disch := first | exact lt_new _ | exact len_snoc _ _ _ | omega) only [r15_3, r15_4, r15_5, r15_6, r15_7, r15_8, r15_9, ↓reduceIte, go_sem, Nat.reduceLT, Nat.reduceEqDiff, Nat.reduceAdd, Nat.reduceMul, Nat.reduceLeDiff, Int.reduceLT, Int.reduceLE, Int.reduceEq, Int.reduceNeg, Int.reduceToNat, t0, t4, t3, hlt', hlenS, hi2, hag, fn36, h37, hf', hlenO, hneg]
        rw [← hHx]
        refine tail15_ok (i := j) (tb := H'.length) oX hx (by simp only [↓reduceIte, go_sem, Nat.reduceLT, Nat.reduceEqDiff, Nat.reduceAdd, Nat.reduceMul, Nat.reduceLeDiff, Int.reduceLT, Int.reduceLE, Int.reduceEq, Int.reduceNeg, Int.reduceToNat, t3]) (by simp only [↓reduceIte, go_sem, Nat.reduceLT, Nat.reduceEqDiff, Nat.reduceAdd, Nat.reduceMul, Nat.reduceLeDiff, Int.reduceLT, Int.reduceLE, Int.reduceEq, Int.reduceNeg, Int.reduceToNat]) (by simp only [↓reduceIte, go_sem, Nat.reduceLT, Nat.reduceEqDiff, Nat.reduceAdd, Nat.reduceMul, Nat.reduceLeDiff, Int.reduceLT, Int.reduceLE, Int.reduceEq, Int.reduceNeg, Int.reduceToNat]) (by simp only [↓reduceIte, go_sem, Nat.reduceLT, Nat.reduceEqDiff, Nat.reduceAdd, Nat.reduceMul, Nat.reduceLeDiff, Int.reduceLT, Int.reduceLE, Int.reduceEq, Int.reduceNeg, Int.reduceToNat]) (fun h => ?_) x0 x6 fun T' H2 k0 k3 k4 ko kf kl => ?_
        · have := ho.lt h; omega
        · simp (disch := omega) only [↓reduceIte, go_sem, Nat.reduceLT, Nat.reduceEqDiff, Nat.reduceAdd, Nat.reduceMul, Nat.reduceLeDiff, Int.reduceLT, Int.reduceLE, Int.reduceEq, Int.reduceNeg, Int.reduceToNat, t0, t4] at k0 k4
          simp (disch := omega) only [r15_17, ↓reduceIte, go_sem, Nat.reduceLT, Nat.reduceEqDiff, Nat.reduceAdd, Nat.reduceMul, Nat.reduceLeDiff, Int.reduceLT, Int.reduceLE, Int.reduceEq, Int.reduceNeg, Int.reduceToNat, k0, k3, k4, IntWalk.i64_in]
          refine ⟨_, by omega, i + 1, out, rfl, hlt, rfl, rfl, by omega, fun id hid => ?_, ?_, hat⟩
          · rw [kf id fun h => by have := hat id h; omega, xfr id (by omega)]
            exact hfr id hid
          · rw [hstep]
            unfold convStep
            rw [if_neg (by omega), hf, Int.toNat_natCast, hx]
            exact ko
    · obtain rfl : i = l.length := by omega
      rw [List.take_length] at ho
      simp (disch := omega) only [l15_18, r15_3, r15_19, ↓reduceIte, go_sem, Nat.reduceLT, Nat.reduceEqDiff, Nat.reduceAdd, Nat.reduceMul, Nat.reduceLeDiff, Int.reduceLT, Int.reduceLE, Int.reduceEq, Int.reduceNeg, Int.reduceToNat, t0, t4, t3, hlenS, Int.lt_irrefl]
      exact ⟨ho, hfr, hat⟩
  · exact ⟨0, .nilslice, by simp [go_sem, own_nil, At, convsOf]⟩
end Go.Proofs.Ytdpdlobaabcjjaa
