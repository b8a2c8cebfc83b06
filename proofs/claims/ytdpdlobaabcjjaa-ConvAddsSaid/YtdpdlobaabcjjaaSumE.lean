/-
  Conversations, one number of which may be another one: walked. No statement of the seat stands here.
-/
import Derived.Test.YtdpdlobaabcjjaaSumD
namespace Go.Proofs.Ytdpdlobaabcjjaa
open Go Go.Am
set_option maxRecDepth 4000
set_option linter.unusedSimpArgs false
set_option linter.unusedVariables false

set_option maxHeartbeats 2000000 in
theorem fn14 (H : Hp) (s : V) (l : List Sm) (a b c : Int) (hs : Sl H s 11 (l.map smC)) (hlen : l.length ≤ 1000) : ∃ ks : List Sm, ks.length = l.length ∧ ∃ v H2, callL Try.prog pr 14 [s, .agg [.int .i64 a, .int .i64 b, .int .i64 c]] H = some (v, H2) ∧ Own H2 v 11 (ks.map smC).flatten ∧ (∃ G, H2 = H ++ G) ∧ ∀ id, At v id → H.length ≤ id := by
  have hl : (l.map smC).length = l.length := List.length_map _
  suffices h : ∃ ks : List Sm, ks.length = l.length ∧ Wp Try.prog (callL Try.prog pr) 119 c14 [s, .agg [.int .i64 a, .int .i64 b, .int .i64 c]] [] H (RetQ Try.prog rs14 (RetOwn1 H 11 (ks.map smC).flatten)) by
    obtain ⟨ks, h1, h2⟩ := h
    exact ⟨ks, h1, own1_of (run14 (Nat.le_of_ble_eq_true rfl) h2) (sm_leaf ks)⟩
  have hsb : Sl (H ++ [.row 0 [.int .i64 a, .int .i64 b, .int .i64 c] true]) s 11 (l.map smC) := hs.app
  by_cases hn : l = []
  · subst hn
    have e1 : appOf 11 88 (H ++ [.row 0 [.int .i64 a, .int .i64 b, .int .i64 c] true]) .nilslice s = some (.nilslice, H ++ [.row 0 [.int .i64 a, .int .i64 b, .int .i64 c] true]) := by
      unfold appOf
      rw [hsb.src]
      simp
    refine ⟨[], rfl, ?_⟩
    have ho : RetOwn1 H 11 (([] : List Sm).map smC).flatten .nilslice (H ++ [.row 0 [.int .i64 a, .int .i64 b, .int .i64 c] true]) := ⟨own_nil _ _, fun id h => List.getElem?_append_left h, by simp [At]⟩
    by_cases ha : a < 0
    · simp (disch := first | exact lt_new _ | omega) only [c14, r14_0, r14_1, r14_2, r14_3, rs14, ↓reduceIte, go_sem, Nat.reduceLT, Nat.reduceEqDiff, Nat.reduceAdd, Nat.reduceMul, Nat.reduceLeDiff, Int.reduceLT, Int.reduceLE, Int.reduceEq, Int.reduceNeg, Int.reduceToNat, e1, ha]
      exact ho
    · have ha' : 0 ≤ a := by omega
      simp (disch := first | exact lt_new _ | omega) only [c14, r14_0, r14_1, r14_2, r14_3, rs14, ↓reduceIte, go_sem, Nat.reduceLT, Nat.reduceEqDiff, Nat.reduceAdd, Nat.reduceMul, Nat.reduceLeDiff, Int.reduceLT, Int.reduceLE, Int.reduceEq, Int.reduceNeg, Int.reduceToNat, e1, ha, ha']
      exact ho
  · have hn' : l.map smC ≠ [] := by simpa using hn
    have hn0 : l.length ≠ 0 := fun e => hn (List.length_eq_zero_iff.1 e)
    have e1 := app_nil' (by_ := 88) hsb (sm_cell l) hn' (by omega) (by omega)
    rw [hl] at e1
    obtain ⟨H1, hH1⟩ : ∃ H1, H1 = H ++ [AB.row 0 [.int .i64 a, .int .i64 b, .int .i64 c] true] ++ [.row 0 (l.map smC).flatten true] := ⟨_, rfl⟩
    obtain ⟨o, hoe⟩ : ∃ o, o = V.slice (H ++ [AB.row 0 [.int .i64 a, .int .i64 b, .int .i64 c] true]).length 0 0 l.length 11 .full := ⟨_, rfl⟩
    rw [← hH1, ← hoe] at e1
    have o1 : Own H1 o 11 (l.map smC).flatten := by
      rw [hH1, hoe]
      exact .inr ⟨_, 0, _, rfl, by rw [sm_flat], by omega, by simp⟩
    have f1 : ∀ id, id < H.length → H1[id]? = H[id]? := fun id h => by rw [hH1, List.append_assoc, List.getElem?_append_left h]
    have a1 : ∀ id, At o id → H.length < id := by
      rintro id ⟨_, _, _, _, _, e⟩
      rw [hoe] at e
      injection e with e1
      rw [← e1]; simp
    have hlenO := fun H2 => (o1.sl (sm_all l) (by omega)).len (P := Try.prog) (H' := H2) s37
    rw [hl] at hlenO
    have b0 : loadV Try.prog 3 H1 (.ptr H.length 0 0) = some (.int .i64 a) := by rw [hH1]; simp (disch := exact lt_new _) only [↓reduceIte, go_sem, Nat.reduceLT, Nat.reduceEqDiff, Nat.reduceAdd, Nat.reduceMul, Nat.reduceLeDiff, Int.reduceLT, Int.reduceLE, Int.reduceEq, Int.reduceNeg, Int.reduceToNat]
    have b1 : loadV Try.prog 3 H1 (.ptr H.length 0 1) = some (.int .i64 b) := by rw [hH1]; simp (disch := exact lt_new _) only [↓reduceIte, go_sem, Nat.reduceLT, Nat.reduceEqDiff, Nat.reduceAdd, Nat.reduceMul, Nat.reduceLeDiff, Int.reduceLT, Int.reduceLE, Int.reduceEq, Int.reduceNeg, Int.reduceToNat]
    have b2 : loadV Try.prog 3 H1 (.ptr H.length 0 2) = some (.int .i64 c) := by rw [hH1]; simp (disch := exact lt_new _) only [↓reduceIte, go_sem, Nat.reduceLT, Nat.reduceEqDiff, Nat.reduceAdd, Nat.reduceMul, Nat.reduceLeDiff, Int.reduceLT, Int.reduceLE, Int.reduceEq, Int.reduceNeg, Int.reduceToNat]
    have keep : RetOwn1 H 11 (l.map smC).flatten o H1 := ⟨o1, f1, fun id h => by have := a1 id h; omega⟩
    by_cases ha : a < 0
    · refine ⟨l, rfl, ?_⟩
      simp (disch := first | exact lt_new _ | omega) only [c14, r14_0, r14_1, r14_2, r14_3, rs14, ↓reduceIte, go_sem, Nat.reduceLT, Nat.reduceEqDiff, Nat.reduceAdd, Nat.reduceMul, Nat.reduceLeDiff, Int.reduceLT, Int.reduceLE, Int.reduceEq, Int.reduceNeg, Int.reduceToNat, e1, ha, b0]
      exact keep
    · by_cases ha2 : (l.length : Int) ≤ a
      · refine ⟨l, rfl, ?_⟩
        simp (disch := first | exact lt_new _ | omega) only [c14, r14_0, r14_1, r14_2, r14_3, rs14, ↓reduceIte, go_sem, Nat.reduceLT, Nat.reduceEqDiff, Nat.reduceAdd, Nat.reduceMul, Nat.reduceLeDiff, Int.reduceLT, Int.reduceLE, Int.reduceEq, Int.reduceNeg, Int.reduceToNat, e1, ha, ha2, b0, hlenO]
        exact keep
      · obtain ⟨i, rfl⟩ : ∃ i : Nat, a = i := ⟨a.toNat, by omega⟩
        have hi : i < l.length := by omega
        obtain ⟨x, hx⟩ : ∃ x, l[i]? = some x := ⟨_, List.getElem?_eq_getElem hi⟩
        obtain ⟨id, g, pre, post, ho2, hid, hpre, hH, hset⟩ := o1.focus smC_len (by omega) hx
        have hne : id ≠ H.length := fun e => by
          have := a1 id (by rw [ho2]; exact ⟨_, _, _, _, _, rfl⟩)
          omega
        have hia := i37 (id := id) (g := g) (off := 0) (n := l.length) (cp := .full) (k := .i64) (j := (i : Int)) ⟨by omega, by omega⟩
        rw [Int.toNat_natCast, hpre, ← ho2] at hia
        have done : ∀ x', RetOwn1 H 11 ((l.set i x').map smC).flatten o (H1.set id (.row g (pre ++ smC x' ++ post) true)) := fun x' =>
          ⟨hset x', fun j hj => by
            rw [List.getElem?_set_ne (by
              have := a1 id (by rw [ho2]; exact ⟨_, _, _, _, _, rfl⟩)
              omega)]
            exact f1 j hj, fun j h => by have := a1 j h; omega⟩
        have hi0 : ¬ ((i : Int) < 0) := by omega
        rw [hH] at e1 b0 b1 b2
        rw [foc_other hne] at b0 b1 b2
        by_cases k0 : b = 0
        · subst k0
          refine ⟨l.set i ⟨c, x.ap, x.b, x.bp, x.proto, x.go, x.gb, x.back, x.bb, x.first, x.last⟩, by simp, ?_⟩
          simp (config := { maxSteps := 1000000 }) (disch := first | exact lt_new _ | exact hid | exact hne | exact Nat.le_of_ble_eq_true rfl | omega) only [c14, r14_0, r14_1, r14_2, r14_4, r14_5, r14_6, r14_7, r14_31, rs14, ↓reduceIte, go_sem, Nat.reduceLT, Nat.reduceEqDiff, Nat.reduceAdd, Nat.reduceMul, Nat.reduceLeDiff, Int.reduceLT, Int.reduceLE, Int.reduceEq, Int.reduceNeg, Int.reduceToNat, e1, hi0, ha2, b0, b1, b2, hlenO, hia, foc_other, foc_stI z3]
          exact done ⟨c, x.ap, x.b, x.bp, x.proto, x.go, x.gb, x.back, x.bb, x.first, x.last⟩
        by_cases k1 : b = 1
        · subst k1
          refine ⟨l.set i ⟨x.a, c, x.b, x.bp, x.proto, x.go, x.gb, x.back, x.bb, x.first, x.last⟩, by simp, ?_⟩
          simp (config := { maxSteps := 1000000 }) (disch := first | exact lt_new _ | exact hid | exact hne | exact Nat.le_of_ble_eq_true rfl | omega) only [c14, r14_0, r14_1, r14_2, r14_4, r14_5, r14_6, r14_8, r14_9, r14_31, rs14, ↓reduceIte, go_sem, Nat.reduceLT, Nat.reduceEqDiff, Nat.reduceAdd, Nat.reduceMul, Nat.reduceLeDiff, Int.reduceLT, Int.reduceLE, Int.reduceEq, Int.reduceNeg, Int.reduceToNat, e1, hi0, ha2, b0, b1, b2, hlenO, hia, foc_other, foc_stI z3]
          exact done ⟨x.a, c, x.b, x.bp, x.proto, x.go, x.gb, x.back, x.bb, x.first, x.last⟩
        by_cases k2 : b = 2
        · subst k2
          refine ⟨l.set i ⟨x.a, x.ap, c, x.bp, x.proto, x.go, x.gb, x.back, x.bb, x.first, x.last⟩, by simp, ?_⟩
          simp (config := { maxSteps := 1000000 }) (disch := first | exact lt_new _ | exact hid | exact hne | exact Nat.le_of_ble_eq_true rfl | omega) only [c14, r14_0, r14_1, r14_2, r14_4, r14_5, r14_6, r14_8, r14_10, r14_11, r14_31, rs14, ↓reduceIte, go_sem, Nat.reduceLT, Nat.reduceEqDiff, Nat.reduceAdd, Nat.reduceMul, Nat.reduceLeDiff, Int.reduceLT, Int.reduceLE, Int.reduceEq, Int.reduceNeg, Int.reduceToNat, e1, hi0, ha2, b0, b1, b2, hlenO, hia, foc_other, foc_stI z3]
          exact done ⟨x.a, x.ap, c, x.bp, x.proto, x.go, x.gb, x.back, x.bb, x.first, x.last⟩
        by_cases k3 : b = 3
        · subst k3
          refine ⟨l.set i ⟨x.a, x.ap, x.b, c, x.proto, x.go, x.gb, x.back, x.bb, x.first, x.last⟩, by simp, ?_⟩
          simp (config := { maxSteps := 1000000 }) (disch := first | exact lt_new _ | exact hid | exact hne | exact Nat.le_of_ble_eq_true rfl | omega) only [c14, r14_0, r14_1, r14_2, r14_4, r14_5, r14_6, r14_8, r14_10, r14_12, r14_13, r14_31, rs14, ↓reduceIte, go_sem, Nat.reduceLT, Nat.reduceEqDiff, Nat.reduceAdd, Nat.reduceMul, Nat.reduceLeDiff, Int.reduceLT, Int.reduceLE, Int.reduceEq, Int.reduceNeg, Int.reduceToNat, e1, hi0, ha2, b0, b1, b2, hlenO, hia, foc_other, foc_stI z3]
          exact done ⟨x.a, x.ap, x.b, c, x.proto, x.go, x.gb, x.back, x.bb, x.first, x.last⟩
        by_cases k4 : b = 4
        · subst k4
          refine ⟨l.set i ⟨x.a, x.ap, x.b, x.bp, c, x.go, x.gb, x.back, x.bb, x.first, x.last⟩, by simp, ?_⟩
          simp (config := { maxSteps := 1000000 }) (disch := first | exact lt_new _ | exact hid | exact hne | exact Nat.le_of_ble_eq_true rfl | omega) only [c14, r14_0, r14_1, r14_2, r14_4, r14_5, r14_6, r14_8, r14_10, r14_12, r14_14, r14_15, r14_31, rs14, ↓reduceIte, go_sem, Nat.reduceLT, Nat.reduceEqDiff, Nat.reduceAdd, Nat.reduceMul, Nat.reduceLeDiff, Int.reduceLT, Int.reduceLE, Int.reduceEq, Int.reduceNeg, Int.reduceToNat, e1, hi0, ha2, b0, b1, b2, hlenO, hia, foc_other, foc_stI z3]
          exact done ⟨x.a, x.ap, x.b, x.bp, c, x.go, x.gb, x.back, x.bb, x.first, x.last⟩
        by_cases k5 : b = 5
        · subst k5
          refine ⟨l.set i ⟨x.a, x.ap, x.b, x.bp, x.proto, c, x.gb, x.back, x.bb, x.first, x.last⟩, by simp, ?_⟩
          simp (config := { maxSteps := 1000000 }) (disch := first | exact lt_new _ | exact hid | exact hne | exact Nat.le_of_ble_eq_true rfl | omega) only [c14, r14_0, r14_1, r14_2, r14_4, r14_5, r14_6, r14_8, r14_10, r14_12, r14_14, r14_16, r14_17, r14_31, rs14, ↓reduceIte, go_sem, Nat.reduceLT, Nat.reduceEqDiff, Nat.reduceAdd, Nat.reduceMul, Nat.reduceLeDiff, Int.reduceLT, Int.reduceLE, Int.reduceEq, Int.reduceNeg, Int.reduceToNat, e1, hi0, ha2, b0, b1, b2, hlenO, hia, foc_other, foc_stI z3]
          exact done ⟨x.a, x.ap, x.b, x.bp, x.proto, c, x.gb, x.back, x.bb, x.first, x.last⟩
        by_cases k6 : b = 6
        · subst k6
          refine ⟨l.set i ⟨x.a, x.ap, x.b, x.bp, x.proto, x.go, c, x.back, x.bb, x.first, x.last⟩, by simp, ?_⟩
          simp (config := { maxSteps := 1000000 }) (disch := first | exact lt_new _ | exact hid | exact hne | exact Nat.le_of_ble_eq_true rfl | omega) only [c14, r14_0, r14_1, r14_2, r14_4, r14_5, r14_6, r14_8, r14_10, r14_12, r14_14, r14_16, r14_18, r14_19, r14_31, rs14, ↓reduceIte, go_sem, Nat.reduceLT, Nat.reduceEqDiff, Nat.reduceAdd, Nat.reduceMul, Nat.reduceLeDiff, Int.reduceLT, Int.reduceLE, Int.reduceEq, Int.reduceNeg, Int.reduceToNat, e1, hi0, ha2, b0, b1, b2, hlenO, hia, foc_other, foc_stI z3]
          exact done ⟨x.a, x.ap, x.b, x.bp, x.proto, x.go, c, x.back, x.bb, x.first, x.last⟩
        by_cases k7 : b = 7
        · subst k7
          refine ⟨l.set i ⟨x.a, x.ap, x.b, x.bp, x.proto, x.go, x.gb, c, x.bb, x.first, x.last⟩, by simp, ?_⟩
          simp (config := { maxSteps := 1000000 }) (disch := first | exact lt_new _ | exact hid | exact hne | exact Nat.le_of_ble_eq_true rfl | omega) only [c14, r14_0, r14_1, r14_2, r14_4, r14_5, r14_6, r14_8, r14_10, r14_12, r14_14, r14_16, r14_18, r14_20, r14_21, r14_31, rs14, ↓reduceIte, go_sem, Nat.reduceLT, Nat.reduceEqDiff, Nat.reduceAdd, Nat.reduceMul, Nat.reduceLeDiff, Int.reduceLT, Int.reduceLE, Int.reduceEq, Int.reduceNeg, Int.reduceToNat, e1, hi0, ha2, b0, b1, b2, hlenO, hia, foc_other, foc_stI z3]
          exact done ⟨x.a, x.ap, x.b, x.bp, x.proto, x.go, x.gb, c, x.bb, x.first, x.last⟩
        by_cases k8 : b = 8
        · subst k8
          refine ⟨l.set i ⟨x.a, x.ap, x.b, x.bp, x.proto, x.go, x.gb, x.back, c, x.first, x.last⟩, by simp, ?_⟩
          simp (config := { maxSteps := 1000000 }) (disch := first | exact lt_new _ | exact hid | exact hne | exact Nat.le_of_ble_eq_true rfl | omega) only [c14, r14_0, r14_1, r14_2, r14_4, r14_5, r14_6, r14_8, r14_10, r14_12, r14_14, r14_16, r14_18, r14_20, r14_22, r14_23, r14_31, rs14, ↓reduceIte, go_sem, Nat.reduceLT, Nat.reduceEqDiff, Nat.reduceAdd, Nat.reduceMul, Nat.reduceLeDiff, Int.reduceLT, Int.reduceLE, Int.reduceEq, Int.reduceNeg, Int.reduceToNat, e1, hi0, ha2, b0, b1, b2, hlenO, hia, foc_other, foc_stI z3]
          exact done ⟨x.a, x.ap, x.b, x.bp, x.proto, x.go, x.gb, x.back, c, x.first, x.last⟩
        by_cases k9 : b = 9
        · subst k9
          refine ⟨l.set i ⟨x.a, x.ap, x.b, x.bp, x.proto, x.go, x.gb, x.back, x.bb, c, x.last⟩, by simp, ?_⟩
          simp (config := { maxSteps := 1000000 }) (disch := first | exact lt_new _ | exact hid | exact hne | exact Nat.le_of_ble_eq_true rfl | omega) only [c14, r14_0, r14_1, r14_2, r14_4, r14_5, r14_6, r14_8, r14_10, r14_12, r14_14, r14_16, r14_18, r14_20, r14_22, r14_24, r14_25, r14_31, rs14, ↓reduceIte, go_sem, Nat.reduceLT, Nat.reduceEqDiff, Nat.reduceAdd, Nat.reduceMul, Nat.reduceLeDiff, Int.reduceLT, Int.reduceLE, Int.reduceEq, Int.reduceNeg, Int.reduceToNat, e1, hi0, ha2, b0, b1, b2, hlenO, hia, foc_other, foc_stI z3]
          exact done ⟨x.a, x.ap, x.b, x.bp, x.proto, x.go, x.gb, x.back, x.bb, c, x.last⟩
        by_cases k10 : b = 10
        · subst k10
          refine ⟨l.set i ⟨x.a, x.ap, x.b, x.bp, x.proto, x.go, x.gb, x.back, x.bb, x.first, c⟩, by simp, ?_⟩
          simp (config := { maxSteps := 1000000 }) (disch := first | exact lt_new _ | exact hid | exact hne | exact Nat.le_of_ble_eq_true rfl | omega) only [c14, r14_0, r14_1, r14_2, r14_4, r14_5, r14_6, r14_8, r14_10, r14_12, r14_14, r14_16, r14_18, r14_20, r14_22, r14_24, r14_26, r14_27, r14_31, rs14, ↓reduceIte, go_sem, Nat.reduceLT, Nat.reduceEqDiff, Nat.reduceAdd, Nat.reduceMul, Nat.reduceLeDiff, Int.reduceLT, Int.reduceLE, Int.reduceEq, Int.reduceNeg, Int.reduceToNat, e1, hi0, ha2, b0, b1, b2, hlenO, hia, foc_other, foc_stI z3]
          exact done ⟨x.a, x.ap, x.b, x.bp, x.proto, x.go, x.gb, x.back, x.bb, x.first, c⟩
        by_cases k11 : b = 11
        · subst k11
          by_cases h1 : 1 < l.length
          · have h1' : (1 : Int) < l.length := by omega
            obtain ⟨m, hm⟩ : ∃ m, m = (i + 1) % l.length := ⟨_, rfl⟩
            have hml : m < l.length := by rw [hm]; exact Nat.mod_lt _ (by omega)
            have hmod : ((i : Int) + 1).tmod (l.length : Int) = (m : Int) := by
              rw [Int.tmod_eq_emod_of_nonneg (by omega), hm]
              show ((i + 1 : Nat) : Int) % (l.length : Int) = _
              rw [← Int.natCast_emod]
            obtain ⟨y, hy⟩ : ∃ y, l[m]? = some y := ⟨_, List.getElem?_eq_getElem hml⟩
            have hy' : (l.map smC)[m]? = some (smC y) := by rw [List.getElem?_map, hy]; rfl
            have sl1 := o1.sl (sm_all l) (by omega)
            have hj := fun k => sl1.idx (P := Try.prog) (k := k) s37 (i := m) (by rw [hl]; exact hml)
            have hld := sl1.agg (P := Try.prog) g80 z80 hy'
            have hld' : loadV Try.prog 80 (H1.set id (.row g (pre ++ smC x ++ post) true)) (.ptr (vid o) (vgen o) (voff o + m * 11)) = some (.agg (smC y)) := by rw [← hH]; exact hld
            have hst : storeV Try.prog 80 (H1.set id (.row g (pre ++ smC x ++ post) true)) (.ptr id g pre.length) (.agg (smC y)) = some (H1.set id (.row g (pre ++ smC y ++ post) true)) := foc_stA z80 hid rfl rfl rfl
            have hl0 : ¬ (l.length : Int) = 0 := by omega
            refine ⟨l.set i y, by simp, ?_⟩
            simp (config := { maxSteps := 1000000 }) (disch := first | exact lt_new _ | exact hid | exact hne | exact Nat.le_of_ble_eq_true rfl | omega) only [c14, r14_0, r14_1, r14_2, r14_4, r14_5, r14_6, r14_8, r14_10, r14_12, r14_14, r14_16, r14_18, r14_20, r14_22, r14_24, r14_26, r14_28, r14_29, r14_30, r14_31, rs14, ↓reduceIte, go_sem, Nat.reduceLT, Nat.reduceEqDiff, Nat.reduceAdd, Nat.reduceMul, Nat.reduceLeDiff, Int.reduceLT, Int.reduceLE, Int.reduceEq, Int.reduceNeg, Int.reduceToNat, e1, hi0, ha2, b0, b1, b2, hlenO, hia, h1', hmod, hj, hld', hst, hl0, foc_other, IntWalk.i64_in]
            exact done y
          · have h1' : ¬ (1 : Int) < l.length := by omega
            refine ⟨l, rfl, ?_⟩
            simp (config := { maxSteps := 1000000 }) (disch := first | exact lt_new _ | exact hid | exact hne | exact Nat.le_of_ble_eq_true rfl | omega) only [c14, r14_0, r14_1, r14_2, r14_4, r14_5, r14_6, r14_8, r14_10, r14_12, r14_14, r14_16, r14_18, r14_20, r14_22, r14_24, r14_26, r14_28, r14_29, r14_31, rs14, ↓reduceIte, go_sem, Nat.reduceLT, Nat.reduceEqDiff, Nat.reduceAdd, Nat.reduceMul, Nat.reduceLeDiff, Int.reduceLT, Int.reduceLE, Int.reduceEq, Int.reduceNeg, Int.reduceToNat, e1, hi0, ha2, b0, b1, b2, hlenO, hia, h1', foc_other]
            rw [← hH]
            exact keep
        · refine ⟨l, rfl, ?_⟩
          simp (config := { maxSteps := 1000000 }) (disch := first | exact lt_new _ | exact hid | exact hne | exact Nat.le_of_ble_eq_true rfl | omega) only [c14, r14_0, r14_1, r14_2, r14_4, r14_5, r14_6, r14_8, r14_10, r14_12, r14_14, r14_16, r14_18, r14_20, r14_22, r14_24, r14_26, r14_28, r14_31, rs14, ↓reduceIte, go_sem, Nat.reduceLT, Nat.reduceEqDiff, Nat.reduceAdd, Nat.reduceMul, Nat.reduceLeDiff, Int.reduceLT, Int.reduceLE, Int.reduceEq, Int.reduceNeg, Int.reduceToNat, e1, hi0, ha2, b0, b1, b2, hlenO, hia, k0, k1, k2, k3, k4, k5, k6, k7, k8, k9, k10, k11, foc_other]
          rw [← hH]
          exact keep
end Go.Proofs.Ytdpdlobaabcjjaa
