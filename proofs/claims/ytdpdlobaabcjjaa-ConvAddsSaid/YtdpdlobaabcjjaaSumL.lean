/-
  Two lists of conversations put together, by the document's function: the loops. No statement of the seat stands here.
-/
import Derived.Test.YtdpdlobaabcjjaaSumK
namespace Go.Proofs.Ytdpdlobaabcjjaa
open Go Go.Am
set_option maxRecDepth 4000
set_option linter.unusedSimpArgs false
set_option linter.unusedVariables false

def fin18 : Cc := .seq (.seq (.reg r18_19) (.block 2 (.loop l18_25))) (.seq (.reg r18_26) .ret)
theorem c18_eq : c18 = .seq (.reg r18_0) (.seq (.seq (.reg r18_1) (.cond (.tmp 20) (.seq (.reg r18_2) .ret) .skip)) (.seq (.seq (.reg r18_3) (.cond (.tmp 28) (.seq (.reg r18_4) .ret) .skip)) (.seq (.reg r18_5) (.seq (.seq (.reg r18_6) (.block 0 (.loop l18_18))) fin18)))) := rfl
/-- The last look at all numbers. -/
theorem fin18_ok {H Hc : Hp} {T : Fr} {out : V} {xs : List Sm} (ho : Own Hc out 11 (xs.map smC).flatten) (hn : xs.length ≤ 2000) (t6 : get T 6 = out) (hle : H.length ≤ Hc.length) (hfr : ∀ id, id < H.length → Hc[id]? = H[id]?) (hat : ∀ id, At out id → H.length ≤ id) :
    Wp Try.prog (callL Try.prog pr) 149 fin18 T [] Hc (RetQ Try.prog rs18 (RetOwn H 11 (((if xs.all good4 = true then (xs, 0) else ([], 10) : List Sm × Int).1).map smC).flatten [.int .i64 (if xs.all good4 = true then (xs, 0) else ([], 10) : List Sm × Int).2])) := by
  have hfl := sm_flat xs
  have hs := ho.sl (sm_all xs) (by omega)
  have hl : (xs.map smC).length = xs.length := List.length_map _
  have hlenS := fun H' => hs.len (P := Try.prog) (H' := H') s37
  rw [hl] at hlenS
  simp (disch := omega) only [fin18, r18_19, ↓reduceIte, go_sem, Nat.reduceLT, Nat.reduceEqDiff, Nat.reduceAdd, Nat.reduceMul, Nat.reduceLeDiff, Int.reduceLT, Int.reduceLE, Int.reduceEq, Int.reduceNeg, Int.reduceToNat]
  refine Wp_loop (fun m T D H' => ∃ i, m = xs.length - i ∧ i ≤ xs.length ∧ D = [] ∧ (∃ G, H' = Hc ++ G) ∧ get T 6 = out ∧ get T 11 = .int .i64 i ∧ (xs.take i).all good4 = true) ?_ xs.length _ _ _ ?_
  · rintro m T D H' ⟨i, rfl, hi, rfl, ⟨G, rfl⟩, t6, t11, hp⟩
    by_cases hlt : i < xs.length
    · have hlt' : (i : Int) < xs.length := by omega
      obtain ⟨x, hx⟩ : ∃ x, xs[i]? = some x := ⟨_, List.getElem?_eq_getElem hlt⟩
      have hx' : (xs.map smC)[i]? = some (smC x) := by rw [List.getElem?_map, hx]; rfl
      have hi2 := fun k => hs.idx (P := Try.prog) (k := k) s37 (i := i) (by omega)
      have hag := (hs.app (L := G)).agg (P := Try.prog) g80 z80 hx'
      have hbad : good4 x = false → xs.all good4 = false := fun h => List.all_eq_false.2 ⟨x, List.mem_of_getElem? hx, by simp [h]⟩
      have hfin : xs.all good4 = false → RetOwn H 11 (((if xs.all good4 = true then (xs, 0) else ([], 10) : List Sm × Int).1).map smC).flatten [.int .i64 (if xs.all good4 = true then (xs, 0) else ([], 10) : List Sm × Int).2] (.tup [.nilslice, .int .i64 10]) (Hc ++ G ++ [.row 0 (smC x) true]) := fun h => by
        rw [h]
        refine ⟨.nilslice, rfl, own_nil _ _, fun id hid => ?_, by simp [At]⟩
        rw [List.append_assoc, List.getElem?_append_left (by omega)]
        exact hfr id hid
      by_cases b1 : inB x.go 4503599627370496 = true
      · by_cases b2 : inB x.gb 4503599627370496 = true
        · by_cases b3 : inB x.back 4503599627370496 = true
          · by_cases b4 : inB x.bb 4503599627370496 = true
            · simp (config := { maxSteps := 1000000 }) (disch := first | exact lt_new _ | exact len_snoc _ _ _ | omega | (simp only [List.length_append, List.length_singleton, List.length_set]; done) | (simp only [List.length_append, List.length_singleton, List.length_set]; omega)) only [l18_25, r18_20, r18_21, r18_22, r18_24, ↓reduceIte, go_sem, Nat.reduceLT, Nat.reduceEqDiff, Nat.reduceAdd, Nat.reduceMul, Nat.reduceLeDiff, Int.reduceLT, Int.reduceLE, Int.reduceEq, Int.reduceNeg, Int.reduceToNat, t6, t11, hlt', hlenS, hi2, hag, fn34, b1, b2, b3, b4, IntWalk.i64_in]
              refine ⟨_, by omega, i + 1, rfl, hlt, ⟨_, List.append_assoc ..⟩, rfl, ?_⟩
              rw [take_snoc hx, List.all_append, hp]
              simp [good4, b1, b2, b3, b4]
            · rw [Bool.not_eq_true] at b4
              simp (config := { maxSteps := 1000000 }) (disch := first | exact lt_new _ | exact len_snoc _ _ _ | omega | (simp only [List.length_append, List.length_singleton, List.length_set]; done) | (simp only [List.length_append, List.length_singleton, List.length_set]; omega)) only [l18_25, r18_20, r18_21, r18_22, r18_23, rs18, ↓reduceIte, go_sem, Nat.reduceLT, Nat.reduceEqDiff, Nat.reduceAdd, Nat.reduceMul, Nat.reduceLeDiff, Int.reduceLT, Int.reduceLE, Int.reduceEq, Int.reduceNeg, Int.reduceToNat, t6, t11, hlt', hlenS, hi2, hag, fn34, b1, b2, b3, b4, IntWalk.i64_in]
              exact hfin (hbad (by simp [good4, b4]))
          · rw [Bool.not_eq_true] at b3
            simp (config := { maxSteps := 1000000 }) (disch := first | exact lt_new _ | exact len_snoc _ _ _ | omega | (simp only [List.length_append, List.length_singleton, List.length_set]; done) | (simp only [List.length_append, List.length_singleton, List.length_set]; omega)) only [l18_25, r18_20, r18_21, r18_22, r18_23, rs18, ↓reduceIte, go_sem, Nat.reduceLT, Nat.reduceEqDiff, Nat.reduceAdd, Nat.reduceMul, Nat.reduceLeDiff, Int.reduceLT, Int.reduceLE, Int.reduceEq, Int.reduceNeg, Int.reduceToNat, t6, t11, hlt', hlenS, hi2, hag, fn34, b1, b2, b3, IntWalk.i64_in]
            exact hfin (hbad (by simp [good4, b3]))
        · rw [Bool.not_eq_true] at b2
          simp (config := { maxSteps := 1000000 }) (disch := first | exact lt_new _ | exact len_snoc _ _ _ | omega | (simp only [List.length_append, List.length_singleton, List.length_set]; done) | (simp only [List.length_append, List.length_singleton, List.length_set]; omega)) only [l18_25, r18_20, r18_21, r18_22, r18_23, rs18, ↓reduceIte, go_sem, Nat.reduceLT, Nat.reduceEqDiff, Nat.reduceAdd, Nat.reduceMul, Nat.reduceLeDiff, Int.reduceLT, Int.reduceLE, Int.reduceEq, Int.reduceNeg, Int.reduceToNat, t6, t11, hlt', hlenS, hi2, hag, fn34, b1, b2, IntWalk.i64_in]
          exact hfin (hbad (by simp [good4, b2]))
      · rw [Bool.not_eq_true] at b1
        simp (config := { maxSteps := 1000000 }) (disch := first | exact lt_new _ | exact len_snoc _ _ _ | omega | (simp only [List.length_append, List.length_singleton, List.length_set]; done) | (simp only [List.length_append, List.length_singleton, List.length_set]; omega)) only [l18_25, r18_20, r18_21, r18_22, r18_23, rs18, ↓reduceIte, go_sem, Nat.reduceLT, Nat.reduceEqDiff, Nat.reduceAdd, Nat.reduceMul, Nat.reduceLeDiff, Int.reduceLT, Int.reduceLE, Int.reduceEq, Int.reduceNeg, Int.reduceToNat, t6, t11, hlt', hlenS, hi2, hag, fn34, b1, IntWalk.i64_in]
        exact hfin (hbad (by simp [good4, b1]))
    · obtain rfl : i = xs.length := by omega
      rw [List.take_length] at hp
      obtain ⟨-, -, ht⟩ := sl_cells hs
      simp (disch := omega) only [l18_25, r18_20, r18_26, rs18, ↓reduceIte, go_sem, Nat.reduceLT, Nat.reduceEqDiff, Nat.reduceAdd, Nat.reduceMul, Nat.reduceLeDiff, Int.reduceLT, Int.reduceLE, Int.reduceEq, Int.reduceNeg, Int.reduceToNat, t6, t11, hlenS, Int.lt_irrefl, ht, Bool.not_false, hp]
      refine ⟨out, rfl, ho.app, fun id hid => ?_, hat⟩
      rw [List.getElem?_append_left (by omega)]
      exact hfr id hid
  · exact ⟨0, by simp [go_sem, t6]⟩
set_option maxHeartbeats 1000000 in
theorem fn18 (H : Hp) (s1 s2 : V) (a b : List Sm) (hs1 : Sl H s1 11 (a.map smC)) (hs2 : Sl H s2 11 (b.map smC)) : ∃ v H2, callL Try.prog pr 18 [s1, s2] H = some (.tup [v, .int .i64 (resR a b).2], H2) ∧ Own H2 v 11 ((resR a b).1.map smC).flatten ∧ (∃ G, H2 = H ++ G) ∧ ∀ id, At v id → H.length ≤ id := by
  have hla' : (a.map smC).length = a.length := List.length_map _
  have hlb' : (b.map smC).length = b.length := List.length_map _
  have hlenA := fun H' => hs1.len (P := Try.prog) (H' := H') s37
  have hlenB := fun H' => hs2.len (P := Try.prog) (H' := H') s37
  rw [hla'] at hlenA
  rw [hlb'] at hlenB
  have h45a := fun H' => fn45 (H ++ H') s1 a hs1.app
  refine own_of (run18 (Nat.le_of_ble_eq_true rfl) ?_) (sm_leaf _) rfl
  have bad : ∀ e : Int, resR a b = ([], e) → RetOwn H 11 ((resR a b).1.map smC).flatten [.int .i64 (resR a b).2] (.tup [.nilslice, .int .i64 e]) H := fun e h => by
    rw [h]
    exact ⟨.nilslice, rfl, own_nil _ _, fun id hid => rfl, by simp [At]⟩
  by_cases h1 : 200 < a.length
  · have h1' : (200 : Int) < a.length := by omega
    simp (disch := omega) only [c18, r18_0, r18_1, r18_2, rs18, ↓reduceIte, go_sem, Nat.reduceLT, Nat.reduceEqDiff, Nat.reduceAdd, Nat.reduceMul, Nat.reduceLeDiff, Int.reduceLT, Int.reduceLE, Int.reduceEq, Int.reduceNeg, Int.reduceToNat, hlenA, h1']
    exact bad 3 (by unfold resR; rw [if_pos (.inl h1)])
  by_cases h2 : 200 < b.length
  · have h1' : ¬ (200 : Int) < a.length := by omega
    have h2' : (200 : Int) < b.length := by omega
    simp (disch := omega) only [c18, r18_0, r18_1, r18_2, rs18, ↓reduceIte, go_sem, Nat.reduceLT, Nat.reduceEqDiff, Nat.reduceAdd, Nat.reduceMul, Nat.reduceLeDiff, Int.reduceLT, Int.reduceLE, Int.reduceEq, Int.reduceNeg, Int.reduceToNat, hlenA, hlenB, h1', h2']
    exact bad 3 (by unfold resR; rw [if_pos (.inr h2)])
  have h1' : ¬ (200 : Int) < a.length := by omega
  have h2' : ¬ (200 : Int) < b.length := by omega
  have hR : resR a b = if askS a = 0 ∧ askS b = 0 then (if (addR a b a).all good4 = true then (addR a b a, 0) else ([], 10)) else ([], 1) := by
    unfold resR; rw [if_neg (by omega)]
  have k1 := fn45 H s1 a hs1
  have k2 := fn45 H s2 b hs2
  by_cases e1 : askS a = 0
  · by_cases e2 : askS b = 0
    · rw [if_pos ⟨e1, e2⟩] at hR
      rw [e1] at k1
      rw [e2] at k2
      obtain ⟨o0, H0, ea, oo, f0, le0, at0⟩ := app_own hs1 (by omega)
      rw [c18_eq]
      simp (disch := omega) only [r18_0, r18_1, r18_3, r18_5, r18_6, rs18, ↓reduceIte, go_sem, Nat.reduceLT, Nat.reduceEqDiff, Nat.reduceAdd, Nat.reduceMul, Nat.reduceLeDiff, Int.reduceLT, Int.reduceLE, Int.reduceEq, Int.reduceNeg, Int.reduceToNat, hlenA, hlenB, h1', h2', k1, k2, ea]
      refine Wp_loop (fun m T D H' => ∃ i out, m = b.length - i ∧ i ≤ b.length ∧ D = [] ∧ get T 0 = s1 ∧ get T 1 = s2 ∧ get T 7 = .int .i64 i ∧ get T 6 = out ∧ H.length ≤ H'.length ∧ (∀ id, id < H.length → H'[id]? = H[id]?) ∧ Own H' out 11 ((addR a (b.take i) a).map smC).flatten ∧ (∀ id, At out id → H.length ≤ id) ∧ a.length ≤ (addR a (b.take i) a).length ∧ (addR a (b.take i) a).length ≤ a.length + i) ?_ b.length _ _ _ ?_
      · rintro m T D H' ⟨i, out, rfl, hi, rfl, t0, t1, t7, t6, hle, hfr, ho, hat, hx1, hx2⟩
        by_cases hlt : i < b.length
        · have hlt' : (i : Int) < b.length := by omega
          obtain ⟨y, hy⟩ : ∃ y, b[i]? = some y := ⟨_, List.getElem?_eq_getElem hlt⟩
          have hy' : (b.map smC)[i]? = some (smC y) := by rw [List.getElem?_map, hy]; rfl
          have hi2 := fun k => hs2.idx (P := Try.prog) (k := k) s37 (i := i) (by omega)
          have hs2' : Sl H' s2 11 (b.map smC) := hs2.move fun id h => hfr id (hs2.at_lt h)
          have hs1' : Sl H' s1 11 (a.map smC) := hs1.move fun id h => hfr id (hs1.at_lt h)
          have hag := hs2'.agg (P := Try.prog) g80 z80 hy'
          have h37 := fn37 H' s1 a (keyOf y) hs1' (by omega)
          have hstep := addR_snoc (a := a) (out := a) hy
          generalize hxs : addR a (b.take i) a = xs at *
          have hfl := sm_flat xs
          rcases findS_cases a (keyOf y) with hf | ⟨j, hj, hf⟩
          · have hf' : findI (fun x => keyEq (keyOf x) (keyOf y)) a 0 = -1 := hf
            have hst : addStep a xs y = xs ++ [y] := by unfold addStep; rw [if_pos (by omega)]
            obtain ⟨o', H1, ep, o1, f1, le1, at1⟩ := ho.push (by_ := 88) (ys := smC y) rfl rfl (by omega) (by omega) (by omega)
            rw [l18_eq]
            simp (config := { maxSteps := 1000000 }) (disch := first | exact lt_new _ | exact len_snoc _ _ _ | omega | (simp only [List.length_append, List.length_singleton, List.length_set]; done) | (simp only [List.length_append, List.length_singleton, List.length_set]; omega)) only [r18_7, r18_8, r18_9, r18_10, r18_17, ↓reduceIte, go_sem, Nat.reduceLT, Nat.reduceEqDiff, Nat.reduceAdd, Nat.reduceMul, Nat.reduceLeDiff, Int.reduceLT, Int.reduceLE, Int.reduceEq, Int.reduceNeg, Int.reduceToNat, t0, t1, t7, t6, hlt', hlenB, hi2, hag, fn46, h37, hf', ep, IntWalk.i64_in]
            rw [hst] at hstep
            refine ⟨_, by omega, i + 1, o', rfl, hlt, rfl, rfl, by omega, fun id hid => ?_, ?_, fun id h => ?_, by rw [hstep]; simp; omega, by rw [hstep]; simp; omega⟩
            · rw [f1 id (by omega) fun h => by have := hat id h; omega]
              exact hfr id hid
            · rw [hstep, List.map_append, List.flatten_append]; simpa using o1
            · rcases at1 _ h with h | h
              · exact hat id h
              · omega
          · have hf' : findI (fun x => keyEq (keyOf x) (keyOf y)) a 0 = (j : Int) := hf
            obtain ⟨x, hx⟩ : ∃ x, xs[j]? = some x := ⟨_, List.getElem?_eq_getElem (by omega)⟩
            have hneg : ¬ ((j : Int) < 0) := by omega
            have hst : addStep a xs y = xs.set j (addS x y) := by unfold addStep; rw [hf, if_neg hneg, Int.toNat_natCast, hx]
            have so := ho.sl (sm_all xs) (by omega)
            have hj2 := fun k => so.idx (P := Try.prog) (k := k) s37 (i := j) (by rw [List.length_map]; omega)
            rw [hst] at hstep
            rw [l18_eq]
            simp (config := { maxSteps := 1000000 }) (disch := first | exact lt_new _ | exact len_snoc _ _ _ | omega | (simp only [List.length_append, List.length_singleton, List.length_set]; done) | (simp only [List.length_append, List.length_singleton, List.length_set]; omega)) only [r18_7, r18_8, r18_9, r18_11, r18_17, ↓reduceIte, go_sem, Nat.reduceLT, Nat.reduceEqDiff, Nat.reduceAdd, Nat.reduceMul, Nat.reduceLeDiff, Int.reduceLT, Int.reduceLE, Int.reduceEq, Int.reduceNeg, Int.reduceToNat, t0, t1, t7, t6, hlt', hlenB, hi2, hj2, hag, fn46, h37, hf', hneg, IntWalk.i64_in]
            refine tail18_ok (i := j) (tb := H'.length) (y := y) (out := out) ho.app hx (by simp only [↓reduceIte, go_sem, Nat.reduceLT, Nat.reduceEqDiff, Nat.reduceAdd, Nat.reduceMul, Nat.reduceLeDiff, Int.reduceLT, Int.reduceLE, Int.reduceEq, Int.reduceNeg, Int.reduceToNat]) (by simp only [↓reduceIte, go_sem, Nat.reduceLT, Nat.reduceEqDiff, Nat.reduceAdd, Nat.reduceMul, Nat.reduceLeDiff, Int.reduceLT, Int.reduceLE, Int.reduceEq, Int.reduceNeg, Int.reduceToNat]) (fun h => ?_) (by simp) fun T' H2 q0 q1 q6 q7 ko kf kl => ?_
            · have := ho.lt h; omega
            · simp (disch := omega) only [↓reduceIte, go_sem, Nat.reduceLT, Nat.reduceEqDiff, Nat.reduceAdd, Nat.reduceMul, Nat.reduceLeDiff, Int.reduceLT, Int.reduceLE, Int.reduceEq, Int.reduceNeg, Int.reduceToNat, t0, t1, t6, t7] at q0 q1 q6 q7
              simp (disch := omega) only [r18_17, ↓reduceIte, go_sem, Nat.reduceLT, Nat.reduceEqDiff, Nat.reduceAdd, Nat.reduceMul, Nat.reduceLeDiff, Int.reduceLT, Int.reduceLE, Int.reduceEq, Int.reduceNeg, Int.reduceToNat, q0, q1, q6, q7, IntWalk.i64_in]
              rw [List.length_append] at kl
              refine ⟨_, by omega, i + 1, out, rfl, hlt, rfl, rfl, by omega, fun id hid => ?_, by rw [hstep]; exact ko, hat, by rw [hstep]; simp; omega, by rw [hstep]; simp; omega⟩
              rw [kf id fun h => by have := hat id h; omega, List.getElem?_append_left (by omega)]
              exact hfr id hid
        · obtain rfl : i = b.length := by omega
          rw [List.take_length] at ho hx1 hx2
          simp (disch := omega) only [l18_18, r18_7, rs18, ↓reduceIte, go_sem, Nat.reduceLT, Nat.reduceEqDiff, Nat.reduceAdd, Nat.reduceMul, Nat.reduceLeDiff, Int.reduceLT, Int.reduceLE, Int.reduceEq, Int.reduceNeg, Int.reduceToNat, t0, t1, t7, t6, hlenB, Int.lt_irrefl]
          rw [hR]
          exact fin18_ok ho (by omega) (by simp only [↓reduceIte, go_sem, Nat.reduceLT, Nat.reduceEqDiff, Nat.reduceAdd, Nat.reduceMul, Nat.reduceLeDiff, Int.reduceLT, Int.reduceLE, Int.reduceEq, Int.reduceNeg, Int.reduceToNat, t6]) hle hfr hat
      · refine ⟨0, o0, rfl, by omega, rfl, ?_⟩
        simp only [↓reduceIte, go_sem, Nat.reduceLT, Nat.reduceEqDiff, Nat.reduceAdd, Nat.reduceMul, Nat.reduceLeDiff, Int.reduceLT, Int.reduceLE, Int.reduceEq, Int.reduceNeg, Int.reduceToNat]
        exact ⟨le0, f0, oo, at0, Nat.le_refl _, by simp [addR]⟩
    · rw [if_neg (by omega)] at hR
      rw [e1] at k1
      simp (disch := omega) only [c18, r18_0, r18_1, r18_3, r18_4, rs18, ↓reduceIte, go_sem, Nat.reduceLT, Nat.reduceEqDiff, Nat.reduceAdd, Nat.reduceMul, Nat.reduceLeDiff, Int.reduceLT, Int.reduceLE, Int.reduceEq, Int.reduceNeg, Int.reduceToNat, hlenA, hlenB, h1', h2', k1, k2, e2]
      exact bad 1 hR
  · rw [if_neg (by omega)] at hR
    simp (disch := omega) only [c18, r18_0, r18_1, r18_3, r18_4, rs18, ↓reduceIte, go_sem, Nat.reduceLT, Nat.reduceEqDiff, Nat.reduceAdd, Nat.reduceMul, Nat.reduceLeDiff, Int.reduceLT, Int.reduceLE, Int.reduceEq, Int.reduceNeg, Int.reduceToNat, hlenA, hlenB, h1', h2', k1, e1]
    exact bad 1 hR
end Go.Proofs.Ytdpdlobaabcjjaa
