/-
  Lists of conversations asked, by the program: walked. No statement of the seat stands here.
-/
import Derived.Test.YtdpdlobaabcjjaaSumH
import Derived.Test.YtdpdlobaabcjjaaAmZH
namespace Go.Proofs.Ytdpdlobaabcjjaa
open Go Go.Am
set_option maxRecDepth 4000
set_option linter.unusedSimpArgs false
set_option linter.unusedVariables false

instance keyDec : DecidableEq Key := fun a b => decidable_of_iff (keyEq a b = true) (keyEq_iff a b)
def ekK (k : Key) : V := .agg (keyC k)
def evB (b : Bool) : V := .bool b
theorem mt127 : mapKV Try.prog 127 = some (88, 4) := by kernel_rfl
theorem keyEqK : KeyEq ekK := by
  intro a b
  cases a; cases b
  simp [ekK, V.cells, eqCells, eqCell, Bool.decide_and]
  rfl
theorem keyOkK (k : Key) : keyOk Try.prog 88 (ekK k) = true := keyOk_agg (ks := [.int .i64, .int .i64, .int .i64, .int .i64, .int .i64]) (by kernel_rfl) g88 z88 rfl
theorem ext_of {H H' : Hp} (hl : H.length ≤ H'.length) (hf : ∀ id, id < H.length → H'[id]? = H[id]?) : ∃ G, H' = H ++ G := by
  refine ⟨H'.drop H.length, ?_⟩
  have : H'.take H.length = H := by
    apply List.ext_getElem?
    intro i
    by_cases hi : i < H.length
    · rw [List.getElem?_take_of_lt hi, hf i hi]
    · rw [List.getElem?_eq_none (by rw [List.length_take]; omega), List.getElem?_eq_none (by omega)]
  conv => lhs; rw [← List.take_append_drop H.length H', this]
def okAt2 (l : List Sm) (i : Nat) : Bool := match l[i]? with
  | some s => isSumB s && !((l.take i).any fun x => decide (keyOf x = keyOf s))
  | none => true
def okTo (l : List Sm) (n : Nat) : Bool := (List.range n).all (okAt2 l)
def sumsE (ls : List (List Sm)) : Int := if (ls.any fun l => decide (200 < l.length)) = true then 3 else if (ls.all fun l => okTo l l.length) = true then 0 else 1
theorem okTo_next (l : List Sm) (i : Nat) : okTo l (i + 1) = (okTo l i && okAt2 l i) := by
  unfold okTo
  rw [List.range_succ, List.all_append]
  simp
theorem okTo_bad {l : List Sm} {i : Nat} (h : i < l.length) (hb : okAt2 l i = false) : okTo l l.length = false := by
  unfold okTo
  exact List.all_eq_false.2 ⟨i, by simpa using h, by simp [hb]⟩
def seenOf (l : List Sm) (i : Nat) : List (Key × Bool) := (l.take i).map fun s => (keyOf s, true)
theorem seen_next {l : List Sm} {i : Nat} {x : Sm} (h : l[i]? = some x) : seenOf l (i + 1) = seenOf l i ++ [(keyOf x, true)] := by
  unfold seenOf
  rw [take_snoc h, List.map_append]; rfl
theorem lookB {l : List (Key × Bool)} (h : ∀ p ∈ l, p.2 = true) (k : Key) : ((lookA l k).map evB).getD (.bool false) = .bool (lookA l k).isSome := by
  induction l with
  | nil => rfl
  | cons p l ih =>
    unfold lookA
    split
    · simp [evB, h p (by simp)]
    · exact ih fun q hq => h q (by simp [hq])
set_option maxHeartbeats 1000000 in
theorem fn38 (H : Hp) (s : V) (ls : List (V × List Sm)) (hs : Sl H s 1 (ls.map fun p => [p.1])) (hl : ∀ p ∈ ls, Sl H p.1 11 (p.2.map smC)) (hn : ls.length < 100) : callL Try.prog pr 38 [s] H = some (.int .i64 (sumsE (ls.map (·.2))), H) := by
  have hlen : (ls.map fun p => [p.1]).length = ls.length := List.length_map _
  have hlenS := fun H' => hs.len (P := Try.prog) (H' := H') s126
  rw [hlen] at hlenS
  refine flat_of (run38 (Nat.le_of_ble_eq_true rfl) ?_) rfl rfl
  simp (disch := omega) only [c38, r38_0, r38_1, ↓reduceIte, go_sem, Nat.reduceLT, Nat.reduceEqDiff, Nat.reduceAdd, Nat.reduceMul, Nat.reduceLeDiff, Int.reduceLT, Int.reduceLE, Int.reduceEq, Int.reduceNeg, Int.reduceToNat, hlenS]
  refine Wp_loop (fun m T D H' => ∃ i, m = ls.length - i ∧ i ≤ ls.length ∧ D = [] ∧ H' = H ∧ get T 0 = s ∧ get T 10 = s ∧ get T 11 = .int .i64 ls.length ∧ get T 12 = .int .i64 i ∧ ((ls.take i).all fun p => decide (p.2.length ≤ 200)) = true) ?_ ls.length _ _ _ ?_
  · rintro m T D H' ⟨i, rfl, hi, rfl, rfl, t0, t10, t11, t12, hp⟩
    by_cases hlt : i < ls.length
    · have hlt' : (i : Int) < ls.length := by omega
      obtain ⟨x, hx⟩ : ∃ x, ls[i]? = some x := ⟨_, List.getElem?_eq_getElem hlt⟩
      have hx' : (ls.map fun p => [p.1])[i]? = some [x.1] := by rw [List.getElem?_map, hx]; rfl
      have hi2 := fun k => hs.idx (P := Try.prog) (k := k) s126 (i := i) (by omega)
      have hc := hs.cell0 (P := Try.prog) g40 hx' (by omega)
      have hxs := hl x (List.mem_of_getElem? hx)
      have hlx : (x.2.map smC).length = x.2.length := List.length_map _
      have hlenX := fun H' => hxs.len (P := Try.prog) (H' := H') s40
      rw [hlx] at hlenX
      by_cases hb : 200 < x.2.length
      · have hb' : (200 : Int) < x.2.length := by omega
        simp (disch := omega) only [l38_7, r38_2, r38_3, r38_4, r38_5, rs38, ↓reduceIte, go_sem, Nat.reduceLT, Nat.reduceEqDiff, Nat.reduceAdd, Nat.reduceMul, Nat.reduceLeDiff, Int.reduceLT, Int.reduceLE, Int.reduceEq, Int.reduceNeg, Int.reduceToNat, t0, t10, t11, t12, hlt', hi2, hc, hlenX, hb', IntWalk.i64_in]
        refine ⟨?_, [], by simp⟩
        unfold sumsE
        rw [if_pos]
        simp only [List.any_map, List.any_eq_true]
        exact ⟨x, List.mem_of_getElem? hx, by simpa using hb⟩
      · have hb' : ¬ (200 : Int) < x.2.length := by omega
        simp (disch := omega) only [l38_7, r38_2, r38_3, r38_4, r38_6, rs38, ↓reduceIte, go_sem, Nat.reduceLT, Nat.reduceEqDiff, Nat.reduceAdd, Nat.reduceMul, Nat.reduceLeDiff, Int.reduceLT, Int.reduceLE, Int.reduceEq, Int.reduceNeg, Int.reduceToNat, t0, t10, t11, t12, hlt', hi2, hc, hlenX, hb', IntWalk.i64_in]
        refine ⟨_, by omega, i + 1, rfl, hlt, rfl, ?_⟩
        rw [take_snoc hx, List.all_append, hp]
        simp; omega
    · obtain rfl : i = ls.length := by omega
      rw [List.take_length] at hp
      simp (disch := omega) only [l38_7, r38_2, r38_8, ↓reduceIte, go_sem, Nat.reduceLT, Nat.reduceEqDiff, Nat.reduceAdd, Nat.reduceMul, Nat.reduceLeDiff, Int.reduceLT, Int.reduceLE, Int.reduceEq, Int.reduceNeg, Int.reduceToNat, t0, t10, t11, t12, hlenS, Int.lt_irrefl]
      have h200 : ∀ p ∈ ls, p.2.length ≤ 200 := by simpa using hp
      have hno : ¬ ((ls.map (·.2)).any fun l => decide (200 < l.length)) = true := by
        simp only [List.any_map, List.any_eq_true, Function.comp, decide_eq_true_eq, not_exists, not_and]
        intro p hp1
        have := h200 p hp1
        omega
      have hE : sumsE (ls.map (·.2)) = if ((ls.map (·.2)).all fun l => okTo l l.length) = true then 0 else 1 := by
        unfold sumsE
        rw [if_neg hno]
      rw [hE]
      refine Wp_loop (fun m T D H1 => ∃ j, m = ls.length - j ∧ j ≤ ls.length ∧ D = [] ∧ H'.length ≤ H1.length ∧ (∀ id, id < H'.length → H1[id]? = H'[id]?) ∧ get T 20 = s ∧ get T 21 = .int .i64 ls.length ∧ get T 22 = .int .i64 j ∧ ((ls.take j).all fun p => okTo p.2 p.2.length) = true) ?_ ls.length _ _ _ ?_
      · rintro m T D H1 ⟨j, rfl, hj, rfl, hle, hfr, t20, t21, t22, hq⟩
        by_cases hlj : j < ls.length
        · have hlj' : (j : Int) < ls.length := by omega
          obtain ⟨x, hx⟩ : ∃ x, ls[j]? = some x := ⟨_, List.getElem?_eq_getElem hlj⟩
          have hx' : (ls.map fun p => [p.1])[j]? = some [x.1] := by rw [List.getElem?_map, hx]; rfl
          have hs1 : Sl H1 s 1 (ls.map fun p => [p.1]) := hs.move fun id h => hfr id (hs.at_lt h)
          have hi2 := fun k => hs1.idx (P := Try.prog) (k := k) s126 (i := j) (by omega)
          have hc := hs1.cell0 (P := Try.prog) g40 hx' (by omega)
          have hxs := hl x (List.mem_of_getElem? hx)
          have hlx : (x.2.map smC).length = x.2.length := List.length_map _
          have hlenX := fun H' => hxs.len (P := Try.prog) (H' := H') s40
          rw [hlx] at hlenX
          have h2 := h200 x (List.mem_of_getElem? hx)
          simp (disch := omega) only [l38_21, r38_9, r38_10, r38_11, r38_12, rs38, ↓reduceIte, go_sem, Nat.reduceLT, Nat.reduceEqDiff, Nat.reduceAdd, Nat.reduceMul, Nat.reduceLeDiff, Int.reduceLT, Int.reduceLE, Int.reduceEq, Int.reduceNeg, Int.reduceToNat, mt127, t20, t21, t22, hlj', hi2, hc, hlenX, IntWalk.i64_in]
          refine Wp_loop (fun m T D H2 => ∃ i, m = x.2.length - i ∧ i ≤ x.2.length ∧ D = [] ∧ H'.length ≤ H2.length ∧ (∀ id, id < H'.length → H2[id]? = H'[id]?) ∧ get T 20 = s ∧ get T 21 = .int .i64 ls.length ∧ get T 22 = .int .i64 j ∧ get T 27 = x.1 ∧ get T 28 = .int .i64 x.2.length ∧ get T 29 = .int .i64 i ∧ get T 7 = .map H1.length ∧ MapOf H2 H1.length 88 ekK evB (seenOf x.2 i) ∧ okTo x.2 i = true) ?_ x.2.length _ _ _ ?_
          · rintro m T D H2 ⟨i, rfl, hi, rfl, hle2, hfr2, t20, t21, t22, t27, t28, t29, t7, hmap, hr⟩
            by_cases hli : i < x.2.length
            · have hli' : (i : Int) < x.2.length := by omega
              obtain ⟨y, hy⟩ : ∃ y, x.2[i]? = some y := ⟨_, List.getElem?_eq_getElem hli⟩
              have hy' : (x.2.map smC)[i]? = some (smC y) := by rw [List.getElem?_map, hy]; rfl
              have hx1 : Sl H2 x.1 11 (x.2.map smC) := hxs.move fun id h => hfr2 id (hxs.at_lt h)
              have hi3 := fun k => hx1.idx (P := Try.prog) (k := k) s40 (i := i) (by omega)
              have hag := hx1.agg (P := Try.prog) g50 z50 hy'
              have hbad : okAt2 x.2 i = false → ((ls.map (·.2)).all fun l => okTo l l.length) = false := fun h => by
                rw [List.all_eq_false]
                exact ⟨x.2, List.mem_map.2 ⟨x, List.mem_of_getElem? hx, rfl⟩, by simp [okTo_bad hli h]⟩
              have hext : ∀ b, ∃ G, H2 ++ [b] = H' ++ G := fun b => ext_of (by simp; omega) fun id hid => by
                rw [List.getElem?_append_left (by omega)]; exact hfr2 id hid
              by_cases hsum : isSumB y = true
              · have hlook := map_look (P := Try.prog) (ok := false) keyEqK mt127 (hmap.app (L := [.row 0 (smC y) true])) (keyOkK (keyOf y)) (z := .bool false) o4
                rw [lookB (by
                  intro p hp
                  obtain ⟨q, _, rfl⟩ := List.mem_map.1 hp
                  rfl)] at hlook
                have hsm : (lookA (seenOf x.2 i) (keyOf y)).isSome = (x.2.take i).any fun z => decide (keyOf z = keyOf y) := lookA_map ..
                rw [hsm] at hlook
                simp only [ekK, if_false, Bool.false_eq_true] at hlook
                by_cases hdup : ((x.2.take i).any fun z => decide (keyOf z = keyOf y)) = true
                · rw [hdup] at hlook
                  simp (disch := first | exact lt_new _ | exact len_snoc _ _ _ | omega | (simp only [List.length_append, List.length_singleton, List.length_set]; done) | (simp only [List.length_append, List.length_singleton, List.length_set]; omega)) only [l38_19, r38_13, r38_14, r38_15, r38_16, rs38, ↓reduceIte, go_sem, Nat.reduceLT, Nat.reduceEqDiff, Nat.reduceAdd, Nat.reduceMul, Nat.reduceLeDiff, Int.reduceLT, Int.reduceLE, Int.reduceEq, Int.reduceNeg, Int.reduceToNat, t20, t21, t22, t27, t28, t29, t7, hli', hi3, hag, fn44, fn42, hsum, hlook, IntWalk.i64_in]
                  refine ⟨?_, hext _⟩
                  rw [hbad (by simp [okAt2, hy, hdup])]; rfl
                · rw [Bool.not_eq_true] at hdup
                  rw [hdup] at hlook
                  have hput := map_put (P := Try.prog) (v := true) keyEqK mt127 (hmap.app (L := [.row 0 (smC y) true])) (keyOkK (keyOf y)) rfl
                  rw [putA_new (by rw [← Option.not_isSome_iff_eq_none, hsm, hdup]; simp), ← seen_next hy] at hput
                  simp only [ekK, evB] at hput
                  simp (disch := first | exact lt_new _ | exact len_snoc _ _ _ | omega | (simp only [List.length_append, List.length_singleton, List.length_set]; done) | (simp only [List.length_append, List.length_singleton, List.length_set]; omega)) only [l38_19, r38_13, r38_14, r38_15, r38_17, r38_18, rs38, ↓reduceIte, go_sem, Nat.reduceLT, Nat.reduceEqDiff, Nat.reduceAdd, Nat.reduceMul, Nat.reduceLeDiff, Int.reduceLT, Int.reduceLE, Int.reduceEq, Int.reduceNeg, Int.reduceToNat, t20, t21, t22, t27, t28, t29, t7, hli', hi3, hag, fn44, fn42, hsum, hlook, hput, IntWalk.i64_in]
                  refine ⟨_, by omega, i + 1, rfl, hli, by simp; omega, fun id hid => ?_, rfl, map_set_of (by simp; have := hmap.lt; omega), ?_⟩
                  · rw [List.getElem?_set_ne (by omega), List.getElem?_append_left (by omega)]; exact hfr2 id hid
                  · rw [okTo_next, hr]; simp [okAt2, hy, hsum, hdup]
              · rw [Bool.not_eq_true] at hsum
                simp (disch := first | exact lt_new _ | exact len_snoc _ _ _ | omega | (simp only [List.length_append, List.length_singleton, List.length_set]; done) | (simp only [List.length_append, List.length_singleton, List.length_set]; omega)) only [l38_19, r38_13, r38_14, r38_15, r38_16, rs38, ↓reduceIte, go_sem, Nat.reduceLT, Nat.reduceEqDiff, Nat.reduceAdd, Nat.reduceMul, Nat.reduceLeDiff, Int.reduceLT, Int.reduceLE, Int.reduceEq, Int.reduceNeg, Int.reduceToNat, t20, t21, t22, t27, t28, t29, t7, hli', hi3, hag, fn44, hsum, IntWalk.i64_in]
                refine ⟨?_, hext _⟩
                rw [hbad (by simp [okAt2, hy, hsum])]; rfl
            · obtain rfl : i = x.2.length := by omega
              simp (disch := omega) only [l38_19, r38_13, r38_20, ↓reduceIte, go_sem, Nat.reduceLT, Nat.reduceEqDiff, Nat.reduceAdd, Nat.reduceMul, Nat.reduceLeDiff, Int.reduceLT, Int.reduceLE, Int.reduceEq, Int.reduceNeg, Int.reduceToNat, t20, t21, t22, t27, t28, t29, Int.lt_irrefl, IntWalk.i64_in]
              refine ⟨_, by omega, j + 1, rfl, hlj, hle2, hfr2, rfl, ?_⟩
              rw [take_snoc hx, List.all_append, hq]
              simp [hr]
          · refine ⟨0, rfl, by omega, rfl, by simp; omega, fun id hid => ?_, ?_⟩
            · rw [List.getElem?_append_left (by omega)]; exact hfr id hid
            · simp only [↓reduceIte, go_sem, Nat.reduceLT, Nat.reduceEqDiff, Nat.reduceAdd, Nat.reduceMul, Nat.reduceLeDiff, Int.reduceLT, Int.reduceLE, Int.reduceEq, Int.reduceNeg, Int.reduceToNat, t20, t21, t22]
              exact ⟨map_new, rfl⟩
        · obtain rfl : j = ls.length := by omega
          rw [List.take_length] at hq
          simp (disch := omega) only [l38_21, r38_9, r38_22, rs38, ↓reduceIte, go_sem, Nat.reduceLT, Nat.reduceEqDiff, Nat.reduceAdd, Nat.reduceMul, Nat.reduceLeDiff, Int.reduceLT, Int.reduceLE, Int.reduceEq, Int.reduceNeg, Int.reduceToNat, t20, t21, t22, Int.lt_irrefl]
          refine ⟨?_, ext_of hle hfr⟩
          have : ((ls.map (·.2)).all fun l => okTo l l.length) = true := by rw [List.all_map]; exact hq
          rw [this]; rfl
      · exact ⟨0, by simp [go_sem]⟩
  · exact ⟨0, by simp [go_sem]⟩
end Go.Proofs.Ytdpdlobaabcjjaa
