/-
  Two lists of conversations put together, by the program: walked. No statement of the seat stands here.
-/
import Derived.Test.YtdpdlobaabcjjaaSumI
namespace Go.Proofs.Ytdpdlobaabcjjaa
open Go Go.Am
set_option maxRecDepth 4000
set_option linter.unusedSimpArgs false
set_option linter.unusedVariables false

def addP (a : List Sm) : List Sm → List Sm → Option (List Sm)
  | [], out => some out
  | y :: ys, out => if findS a (keyOf y) < 0 then addP a ys (out ++ [y]) else match out[(findS a (keyOf y)).toNat]? with
    | some x => if isSumB (addS x y) = true then addP a ys (out.set (findS a (keyOf y)).toNat (addS x y)) else none
    | none => none
def resP (a b : List Sm) : List Sm × Int := if sumsE [a, b] = 0 then (match addP a b a with
  | some o => (o, 0)
  | none => ([], 10)) else ([], sumsE [a, b])
theorem sl_cells {H : Hp} {v : V} {sz : Nat} {xs : List (List V)} (h : Sl H v sz xs) : v.isCell = true ∧ v.cells = [v] ∧ v.isTup = false := by
  obtain ⟨_, ⟨rfl, rfl⟩ | ⟨id, g, off, cp, cs, own, rfl, _⟩⟩ := h
  · exact ⟨rfl, rfl, rfl⟩
  · exact ⟨rfl, rfl, rfl⟩
def tail16 : Cc := .seq (.reg r16_11) (.seq (.reg r16_12) (.cond (.tmp 49) (.seq (.reg r16_13) .ret) .skip))
theorem l16_eq : l16_15 = .seq (.reg r16_6) (.seq (.cond (.tmp 23) .skip (.exit 0)) (.seq (.block 1 (.seq (.reg r16_7) (.seq (.reg r16_8) (.seq (.seq (.reg r16_9) (.cond (.tmp 30) (.seq (.reg r16_10) (.exit 1)) .skip)) tail16)))) (.reg r16_14))) := rfl
theorem tail16_ok {T : Fr} {Hc : Hp} {R : Ex → Fr → Dfr → Hp → Prop} {out : V} {xs : List Sm} {x y : Sm} {i tb : Nat} (ho : Own Hc out 11 (xs.map smC).flatten) (hx : xs[i]? = some x) (t7 : get T 7 = out) (t10 : get T 10 = .int .i64 i) (t9 : get T 9 = .ptr tb 0 0) (hne : ¬ At out tb)
    (hb : loadV Try.prog 50 Hc (.ptr tb 0 0) = some (.agg (smC y)))
    (hbad : isSumB (addS x y) = false → ∀ T', get T' 4 = .nilslice → get T' 5 = .int .i64 10 → ∀ H', (∀ j, ¬ At out j → H'[j]? = Hc[j]?) → H'.length = Hc.length → R .ret T' [] H')
    (hR : isSumB (addS x y) = true → ∀ T' H', get T' 0 = get T 0 → get T' 7 = out → get T' 20 = get T 20 → get T' 21 = get T 21 → get T' 22 = get T 22 → Own H' out 11 ((xs.set i (addS x y)).map smC).flatten → (∀ j, ¬ At out j → H'[j]? = Hc[j]?) → H'.length = Hc.length → R .nor T' [] H') :
    Wp Try.prog (callL Try.prog pr) 52 tail16 T [] Hc R := by
  have hi : i < xs.length := (List.getElem?_eq_some_iff.1 hx).1
  obtain ⟨id, g, pre, post, rfl, hid, hpre, hH, hset⟩ := ho.focus smC_len (by omega) hx
  have hne' : id ≠ tb := fun e => hne ⟨g, 0, xs.length, 11, .full, by rw [e]⟩
  have ha := i40 (id := id) (g := g) (off := 0) (n := xs.length) (cp := .full) (k := .i64) (j := (i : Int)) ⟨by omega, by omega⟩
  rw [Int.toNat_natCast, hpre] at ha
  have fr : ∀ j, ¬ At (.slice id g 0 xs.length 11 .full) j → (Hc.set id (.row g (pre ++ smC (addS x y) ++ post) true))[j]? = Hc[j]? := fun j hj => by
    rw [List.getElem?_set_ne fun e => hj ⟨g, 0, xs.length, 11, .full, by rw [e]⟩]
  have hst : storeV Try.prog 50 (Hc.set id (.row g (pre ++ smC x ++ post) true)) (.ptr id g pre.length) (.agg (smC (addS x y))) = some (Hc.set id (.row g (pre ++ smC (addS x y) ++ post) true)) := foc_stA z50 hid rfl rfl rfl
  have hld := fun z : Sm => foc_agg (P := Try.prog) (g := g) (pre := pre) (mid := smC z) (post := post) (o := true) g50 z50 hid rfl
  rw [hH]
  by_cases hs : isSumB (addS x y) = true
  · simp (disch := first | exact lt_new _ | exact len_snoc _ _ _ | omega | (simp only [List.length_append, List.length_singleton, List.length_set]; done) | (simp only [List.length_append, List.length_singleton, List.length_set]; omega)) only [tail16, r16_11, r16_12, r16_13, rs16, ↓reduceIte, go_sem, Nat.reduceLT, Nat.reduceEqDiff, Nat.reduceAdd, Nat.reduceMul, Nat.reduceLeDiff, Int.reduceLT, Int.reduceLE, Int.reduceEq, Int.reduceNeg, Int.reduceToNat, t7, t10, t9, ha, hld, foc_other hne', hb, fn43, hst, fn44, hs]
    exact hR hs _ _ (by simp only [↓reduceIte, go_sem, Nat.reduceLT, Nat.reduceEqDiff, Nat.reduceAdd, Nat.reduceMul, Nat.reduceLeDiff, Int.reduceLT, Int.reduceLE, Int.reduceEq, Int.reduceNeg, Int.reduceToNat]) (by simp only [↓reduceIte, go_sem, Nat.reduceLT, Nat.reduceEqDiff, Nat.reduceAdd, Nat.reduceMul, Nat.reduceLeDiff, Int.reduceLT, Int.reduceLE, Int.reduceEq, Int.reduceNeg, Int.reduceToNat, t7]) (by simp only [↓reduceIte, go_sem, Nat.reduceLT, Nat.reduceEqDiff, Nat.reduceAdd, Nat.reduceMul, Nat.reduceLeDiff, Int.reduceLT, Int.reduceLE, Int.reduceEq, Int.reduceNeg, Int.reduceToNat]) (by simp only [↓reduceIte, go_sem, Nat.reduceLT, Nat.reduceEqDiff, Nat.reduceAdd, Nat.reduceMul, Nat.reduceLeDiff, Int.reduceLT, Int.reduceLE, Int.reduceEq, Int.reduceNeg, Int.reduceToNat]) (by simp only [↓reduceIte, go_sem, Nat.reduceLT, Nat.reduceEqDiff, Nat.reduceAdd, Nat.reduceMul, Nat.reduceLeDiff, Int.reduceLT, Int.reduceLE, Int.reduceEq, Int.reduceNeg, Int.reduceToNat]) (hset _) fr (by simp)
  · rw [Bool.not_eq_true] at hs
    simp (disch := first | exact lt_new _ | exact len_snoc _ _ _ | omega | (simp only [List.length_append, List.length_singleton, List.length_set]; done) | (simp only [List.length_append, List.length_singleton, List.length_set]; omega)) only [tail16, r16_11, r16_12, r16_13, rs16, ↓reduceIte, go_sem, Nat.reduceLT, Nat.reduceEqDiff, Nat.reduceAdd, Nat.reduceMul, Nat.reduceLeDiff, Int.reduceLT, Int.reduceLE, Int.reduceEq, Int.reduceNeg, Int.reduceToNat, t7, t10, t9, ha, hld, foc_other hne', hb, fn43, hst, fn44, hs]
    exact hbad hs _ (by simp only [↓reduceIte, go_sem, Nat.reduceLT, Nat.reduceEqDiff, Nat.reduceAdd, Nat.reduceMul, Nat.reduceLeDiff, Int.reduceLT, Int.reduceLE, Int.reduceEq, Int.reduceNeg, Int.reduceToNat]) (by simp only [↓reduceIte, go_sem, Nat.reduceLT, Nat.reduceEqDiff, Nat.reduceAdd, Nat.reduceMul, Nat.reduceLeDiff, Int.reduceLT, Int.reduceLE, Int.reduceEq, Int.reduceNeg, Int.reduceToNat]) _ fr (by simp)
theorem addP_drop {a b out : List Sm} {i : Nat} {y : Sm} (h : b[i]? = some y) : addP a (b.drop i) out = if findS a (keyOf y) < 0 then addP a (b.drop (i + 1)) (out ++ [y]) else match out[(findS a (keyOf y)).toNat]? with
    | some x => if isSumB (addS x y) = true then addP a (b.drop (i + 1)) (out.set (findS a (keyOf y)).toNat (addS x y)) else none
    | none => none := by
  obtain ⟨h1, rfl⟩ := List.getElem?_eq_some_iff.1 h
  rw [List.drop_eq_getElem_cons h1]
  rfl
set_option maxHeartbeats 1000000 in
theorem fn16 (H : Hp) (s1 s2 : V) (a b : List Sm) (ho1 : Own H s1 11 (a.map smC).flatten) (hs2 : Sl H s2 11 (b.map smC)) (hla : a.length ≤ 1000) (hlb : b.length ≤ 1000) : ∃ v H2, callL Try.prog pr 16 [s1, s2] H = some (.tup [v, .int .i64 (resP a b).2], H2) ∧ Own H2 v 11 ((resP a b).1.map smC).flatten ∧ (∃ G, H2 = H ++ G) ∧ ∀ id, At v id → H.length ≤ id := by
  have hs1 := ho1.sl (sm_all a) (by omega)
  obtain ⟨c1, d1, -⟩ := sl_cells hs1
  obtain ⟨c2, d2, -⟩ := sl_cells hs2
  have hlb' : (b.map smC).length = b.length := List.length_map _
  have hlenB := fun H' => hs2.len (P := Try.prog) (H' := H') s40
  rw [hlb'] at hlenB
  refine own_of (run16 (Nat.le_of_ble_eq_true rfl) ?_) (sm_leaf _) rfl
  have h38 := fn38 (H ++ [.row 0 [s1, s2] true]) (.slice H.length 0 0 2 1 .full) [(s1, a), (s2, b)] (Own.sl (xs := [[s1], [s2]]) (own_new (n := 2) rfl (by omega)) (by simp) (by omega)) (by
    intro p hp
    simp only [List.mem_cons, List.not_mem_nil, or_false] at hp
    rcases hp with rfl | rfl
    · exact hs1.app
    · exact hs2.app) (by simp)
  simp only [List.map_cons, List.map_nil] at h38
  by_cases he : sumsE [a, b] = 0
  · obtain ⟨o39, H39, e39, ow39, ⟨G39, rfl⟩, f39⟩ := fn39 (H ++ [.row 0 [s1, s2] true]) s1 a ho1.app hla
    rw [he] at h38
    simp (disch := first | exact lt_new _ | exact len_snoc _ _ _ | omega | (simp only [List.length_append, List.length_singleton, List.length_set]; done) | (simp only [List.length_append, List.length_singleton, List.length_set]; omega)) only [c16, r16_0, r16_1, r16_2, r16_4, r16_5, rs16, ↓reduceIte, go_sem, Nat.reduceLT, Nat.reduceEqDiff, Nat.reduceAdd, Nat.reduceMul, Nat.reduceLeDiff, Int.reduceLT, Int.reduceLE, Int.reduceEq, Int.reduceNeg, Int.reduceToNat, c1, c2, d1, d2, h38, e39, hlenB]
    have hres : resP a b = match addP a b a with
      | some o => (o, 0)
      | none => ([], 10) := by unfold resP; rw [if_pos he]
    rw [hres]
    refine Wp_loop (fun m T D H' => ∃ i out xs, m = b.length - i ∧ i ≤ b.length ∧ D = [] ∧ get T 0 = s1 ∧ get T 20 = s2 ∧ get T 21 = .int .i64 b.length ∧ get T 22 = .int .i64 i ∧ get T 7 = out ∧ H.length ≤ H'.length ∧ (∀ id, id < H.length → H'[id]? = H[id]?) ∧ Own H' out 11 (xs.map smC).flatten ∧ (∀ id, At out id → H.length ≤ id) ∧ a.length ≤ xs.length ∧ xs.length ≤ a.length + i ∧ addP a b a = addP a (b.drop i) xs) ?_ b.length _ _ _ ?_
    · rintro m T D H' ⟨i, out, xs, rfl, hi, rfl, t0, t20, t21, t22, t7, hle, hfr, ho, hat, hx1, hx2, hp⟩
      by_cases hlt : i < b.length
      · have hlt' : (i : Int) < b.length := by omega
        obtain ⟨y, hy⟩ : ∃ y, b[i]? = some y := ⟨_, List.getElem?_eq_getElem hlt⟩
        have hy' : (b.map smC)[i]? = some (smC y) := by rw [List.getElem?_map, hy]; rfl
        have hi2 := fun k => hs2.idx (P := Try.prog) (k := k) s40 (i := i) (by omega)
        have hs2' : Sl H' s2 11 (b.map smC) := hs2.move fun id h => hfr id (hs2.at_lt h)
        have hs1' : Sl H' s1 11 (a.map smC) := hs1.move fun id h => hfr id (hs1.at_lt h)
        have hag := hs2'.agg (P := Try.prog) g50 z50 hy'
        rw [addP_drop hy] at hp
        obtain ⟨Hx, hHx⟩ : ∃ Hx, Hx = H' ++ [AB.row 0 (smC y) true] := ⟨_, rfl⟩
        have hxl : Hx.length = H'.length + 1 := by rw [hHx]; simp
        have oX : Own Hx out 11 (xs.map smC).flatten := by rw [hHx]; exact ho.app
        have xb : loadV Try.prog 50 Hx (.ptr H'.length 0 0) = some (.agg (smC y)) := by
          rw [hHx]; simp (disch := exact lt_new _) only [↓reduceIte, go_sem, Nat.reduceLT, Nat.reduceEqDiff, Nat.reduceAdd, Nat.reduceMul, Nat.reduceLeDiff, Int.reduceLT, Int.reduceLE, Int.reduceEq, Int.reduceNeg, Int.reduceToNat]
        have xfr : ∀ id, id < H'.length → Hx[id]? = H'[id]? := fun id hid => by
          rw [hHx, List.getElem?_append_left hid]
        have h40 := fn40 smC (H' ++ [AB.row 0 (smC y) true]) s1 a hs1'.app (by omega) (fun x => keyEq (keyOf x) (keyOf y)) 41 [] [.ptr H'.length 0 0] fun x _ => fn41 x y H'.length _ (lt_new _) (by rw [← hHx]; exact xb)
        have hfl := sm_flat xs
        rcases findS_cases a (keyOf y) with hf | ⟨j, hj, hf⟩
        · have hf' : findI (fun x => keyEq (keyOf x) (keyOf y)) a 0 = -1 := hf
          rw [if_pos (by omega)] at hp
          obtain ⟨o', H1, e1, o1, f1, le1, at1⟩ := oX.push (by_ := 88) (ys := smC y) rfl rfl (by omega) (by omega) (by omega)
          rw [hHx] at e1
          rw [l16_eq]
          simp (config := { maxSteps := 1000000 }) (disch := first | exact lt_new _ | exact len_snoc _ _ _ | omega | (simp only [List.length_append, List.length_singleton, List.length_set]; done) | (simp only [List.length_append, List.length_singleton, List.length_set]; omega)) only [r16_6, r16_7, r16_8, r16_9, r16_10, r16_14, ↓reduceIte, go_sem, Nat.reduceLT, Nat.reduceEqDiff, Nat.reduceAdd, Nat.reduceMul, Nat.reduceLeDiff, Int.reduceLT, Int.reduceLE, Int.reduceEq, Int.reduceNeg, Int.reduceToNat, t0, t20, t21, t22, t7, hlt', hi2, hag, h40, hf', e1, IntWalk.i64_in]
          refine ⟨_, by omega, i + 1, o', xs ++ [y], rfl, hlt, rfl, rfl, by omega, fun id hid => ?_, ?_, fun id h => ?_, by simp; omega, by simp; omega, hp⟩
          · rw [f1 id (by omega) fun h => by have := hat id h; omega, xfr id (by omega)]
            exact hfr id hid
          · rw [List.map_append, List.flatten_append]; simpa using o1
          · rcases at1 _ h with h | h
            · exact hat id h
            · omega
        · have hf' : findI (fun x => keyEq (keyOf x) (keyOf y)) a 0 = (j : Int) := hf
          obtain ⟨x, hx⟩ : ∃ x, xs[j]? = some x := ⟨_, List.getElem?_eq_getElem (by omega)⟩
          have hneg : ¬ ((j : Int) < 0) := by omega
          rw [hf, if_neg hneg, Int.toNat_natCast, hx] at hp
          simp only at hp
          rw [l16_eq]
          simp (config := { maxSteps := 1000000 }) (disch := first | exact lt_new _ | exact len_snoc _ _ _ | omega | (simp only [List.length_append, List.length_singleton, List.length_set]; done) | (simp only [List.length_append, List.length_singleton, List.length_set]; omega)) only [r16_6, r16_7, r16_8, r16_9, r16_10, r16_14, ↓reduceIte, go_sem, Nat.reduceLT, Nat.reduceEqDiff, Nat.reduceAdd, Nat.reduceMul, Nat.reduceLeDiff, Int.reduceLT, Int.reduceLE, Int.reduceEq, Int.reduceNeg, Int.reduceToNat, t0, t20, t21, t22, t7, hlt', hi2, hag, h40, hf', hneg, IntWalk.i64_in]
          rw [← hHx]
          refine tail16_ok (i := j) (tb := H'.length) (y := y) oX hx (by simp only [↓reduceIte, go_sem, Nat.reduceLT, Nat.reduceEqDiff, Nat.reduceAdd, Nat.reduceMul, Nat.reduceLeDiff, Int.reduceLT, Int.reduceLE, Int.reduceEq, Int.reduceNeg, Int.reduceToNat, t7]) (by simp only [↓reduceIte, go_sem, Nat.reduceLT, Nat.reduceEqDiff, Nat.reduceAdd, Nat.reduceMul, Nat.reduceLeDiff, Int.reduceLT, Int.reduceLE, Int.reduceEq, Int.reduceNeg, Int.reduceToNat]) (by simp only [↓reduceIte, go_sem, Nat.reduceLT, Nat.reduceEqDiff, Nat.reduceAdd, Nat.reduceMul, Nat.reduceLeDiff, Int.reduceLT, Int.reduceLE, Int.reduceEq, Int.reduceNeg, Int.reduceToNat]) (fun h => ?_) xb (fun hs T' k4 k5 H2 kf kl => ?_) fun hs T' H2 k0 k7 k20 k21 k22 ko kf kl => ?_
          · have := ho.lt h; omega
          · rw [hs] at hp
            simp only [Bool.false_eq_true, if_false] at hp
            rw [hp]
            simp only [↓reduceIte, go_sem, Nat.reduceLT, Nat.reduceEqDiff, Nat.reduceAdd, Nat.reduceMul, Nat.reduceLeDiff, Int.reduceLT, Int.reduceLE, Int.reduceEq, Int.reduceNeg, Int.reduceToNat, k4, k5]
            refine ⟨.nilslice, rfl, own_nil _ _, fun id hid => ?_, by simp [At]⟩
            rw [kf id fun h => by have := hat id h; omega, xfr id (by omega)]
            exact hfr id hid
          · rw [if_pos hs] at hp
            simp (disch := omega) only [↓reduceIte, go_sem, Nat.reduceLT, Nat.reduceEqDiff, Nat.reduceAdd, Nat.reduceMul, Nat.reduceLeDiff, Int.reduceLT, Int.reduceLE, Int.reduceEq, Int.reduceNeg, Int.reduceToNat, t0, t20, t21, t22] at k0 k20 k21 k22
            simp (disch := omega) only [r16_14, ↓reduceIte, go_sem, Nat.reduceLT, Nat.reduceEqDiff, Nat.reduceAdd, Nat.reduceMul, Nat.reduceLeDiff, Int.reduceLT, Int.reduceLE, Int.reduceEq, Int.reduceNeg, Int.reduceToNat, k0, k7, k20, k21, k22, IntWalk.i64_in]
            refine ⟨_, by omega, i + 1, out, xs.set j (addS x y), rfl, hlt, rfl, rfl, by omega, fun id hid => ?_, ko, hat, by simp; omega, by simp; omega, hp⟩
            rw [kf id fun h => by have := hat id h; omega, xfr id (by omega)]
            exact hfr id hid
      · obtain rfl : i = b.length := by omega
        rw [List.drop_length] at hp
        rw [hp]
        have hfl := sm_flat xs
        obtain ⟨-, -, ht⟩ := sl_cells (ho.sl (sm_all xs) (by omega))
        simp (disch := omega) only [l16_15, r16_6, r16_16, rs16, ↓reduceIte, go_sem, Nat.reduceLT, Nat.reduceEqDiff, Nat.reduceAdd, Nat.reduceMul, Nat.reduceLeDiff, Int.reduceLT, Int.reduceLE, Int.reduceEq, Int.reduceNeg, Int.reduceToNat, t0, t20, t21, t22, t7, Int.lt_irrefl, ht, Bool.not_false]
        exact ⟨out, rfl, ho, hfr, hat⟩
    · refine ⟨0, o39, a, rfl, by omega, rfl, ?_⟩
      simp only [↓reduceIte, go_sem, Nat.reduceLT, Nat.reduceEqDiff, Nat.reduceAdd, Nat.reduceMul, Nat.reduceLeDiff, Int.reduceLT, Int.reduceLE, Int.reduceEq, Int.reduceNeg, Int.reduceToNat]
      refine ⟨by simp, fun id hid => ?_, ow39, fun id h => ?_, Nat.le_refl _, by omega, rfl⟩
      · rw [List.append_assoc, List.getElem?_append_left hid]
      · have := f39 id h
        simp at this; omega
  · simp (disch := first | exact lt_new _ | exact len_snoc _ _ _ | omega | (simp only [List.length_append, List.length_singleton, List.length_set]; done) | (simp only [List.length_append, List.length_singleton, List.length_set]; omega)) only [c16, r16_0, r16_1, r16_2, r16_3, rs16, ↓reduceIte, go_sem, Nat.reduceLT, Nat.reduceEqDiff, Nat.reduceAdd, Nat.reduceMul, Nat.reduceLeDiff, Int.reduceLT, Int.reduceLE, Int.reduceEq, Int.reduceNeg, Int.reduceToNat, c1, c2, d1, d2, h38, he]
    have hres : resP a b = ([], sumsE [a, b]) := by unfold resP; rw [if_neg he]
    rw [hres]
    refine ⟨.nilslice, rfl, own_nil _ _, fun id hid => ?_, by simp [At]⟩
    rw [List.getElem?_append_left hid]
end Go.Proofs.Ytdpdlobaabcjjaa
