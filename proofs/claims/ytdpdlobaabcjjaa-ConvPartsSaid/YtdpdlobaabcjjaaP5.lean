/-
  Texts of this seat, laid together. No statement of the seat stands here.
-/
import Derived.Test.YtdpdlobaabcjjaaP4
/-
  Two lists of conversations put together, by the program: walked. No statement of the seat stands here.
-/
namespace Go.Proofs.Ytdpdlobaabcjjaa
open Go Go.Am
set_option maxRecDepth 4000
set_option linter.unusedSimpArgs false
set_option linter.unusedVariables false

def addP (a : List Sm) : List Sm → List Sm → Option (List Sm)
  | [], out => some out
  | y :: ys, out => if findS a (keyOf y) < 0 then addP a ys (out ++ [y]) else match out[(findS a (keyOf y)).toNat]? with
    | some x => if isSumB (addS x y) = true then addP a ys (out.set (findS a (keyOf y)).toNat (addS x y)) else none
    | none => none
def resP (a b : List Sm) : List Sm × Int := if sumsE [a, b] = 0 then (match addP a b a with
  | some o => (o, 0)
  | none => ([], 10)) else ([], sumsE [a, b])
theorem sl_cells {H : Hp} {v : V} {sz : Nat} {xs : List (List V)} (h : Sl H v sz xs) : v.isCell = true ∧ v.cells = [v] ∧ v.isTup = false := by
  obtain ⟨_, ⟨rfl, rfl⟩ | ⟨id, g, off, cp, cs, own, rfl, _⟩⟩ := h
  · exact ⟨rfl, rfl, rfl⟩
  · exact ⟨rfl, rfl, rfl⟩
def tail16 : Cc := .seq (.reg r16_11) (.seq (.reg r16_12) (.cond (.tmp 49) (.seq (.reg r16_13) .ret) .skip))
theorem l16_eq : l16_15 = .seq (.reg r16_6) (.seq (.cond (.tmp 23) .skip (.exit 0)) (.seq (.block 1 (.seq (.reg r16_7) (.seq (.reg r16_8) (.seq (.seq (.reg r16_9) (.cond (.tmp 30) (.seq (.reg r16_10) (.exit 1)) .skip)) tail16)))) (.reg r16_14))) := rfl
theorem tail16_ok {T : Fr} {Hc : Hp} {R : Ex → Fr → Dfr → Hp → Prop} {out : V} {xs : List Sm} {x y : Sm} {i tb : Nat} (ho : Own Hc out 11 (xs.map smC).flatten) (hx : xs[i]? = some x) (t7 : get T 7 = out) (t10 : get T 10 = .int .i64 i) (t9 : get T 9 = .ptr tb 0 0) (hne : ¬ At out tb)
    (hb : loadV Try.prog 50 Hc (.ptr tb 0 0) = some (.agg (smC y)))
    (hbad : isSumB (addS x y) = false → ∀ T', get T' 4 = .nilslice → get T' 5 = .int .i64 10 → ∀ H', (∀ j, ¬ At out j → H'[j]? = Hc[j]?) → H'.length = Hc.length → R .ret T' [] H')
    (hR : isSumB (addS x y) = true → ∀ T' H', get T' 0 = get T 0 → get T' 7 = out → get T' 20 = get T 20 → get T' 21 = get T 21 → get T' 22 = get T 22 → Own H' out 11 ((xs.set i (addS x y)).map smC).flatten → (∀ j, ¬ At out j → H'[j]? = Hc[j]?) → H'.length = Hc.length → R .nor T' [] H') :
    Wp Try.prog (callL Try.prog pr) 52 tail16 T [] Hc R := by
  have hi : i < xs.length := (List.getElem?_eq_some_iff.1 hx).1
  obtain ⟨id, g, pre, post, rfl, hid, hpre, hH, hset⟩ := ho.focus smC_len (by omega) hx
  have hne' : id ≠ tb := fun e => hne ⟨g, 0, xs.length, 11, .full, by rw [e]⟩
  have ha := i40 (id := id) (g := g) (off := 0) (n := xs.length) (cp := .full) (k := .i64) (j := (i : Int)) ⟨by omega, by omega⟩
  rw [Int.toNat_natCast, hpre] at ha
  have fr : ∀ j, ¬ At (.slice id g 0 xs.length 11 .full) j → (Hc.set id (.row g (pre ++ smC (addS x y) ++ post) true))[j]? = Hc[j]? := fun j hj => by
    rw [List.getElem?_set_ne fun e => hj ⟨g, 0, xs.length, 11, .full, by rw [e]⟩]
  have hst : storeV Try.prog 50 (Hc.set id (.row g (pre ++ smC x ++ post) true)) (.ptr id g pre.length) (.agg (smC (addS x y))) = some (Hc.set id (.row g (pre ++ smC (addS x y) ++ post) true)) := foc_stA z50 hid rfl rfl rfl
  have hld := fun z : Sm => foc_agg (P := Try.prog) (g := g) (pre := pre) (mid := smC z) (post := post) (o := true) g50 z50 hid rfl
  rw [hH]
  by_cases hs : isSumB (addS x y) = true
  · simp (disch := first | exact lt_new _ | exact len_snoc _ _ _ | omega | (simp only [List.length_append, List.length_singleton, List.length_set]; done) | (simp only [List.length_append, List.length_singleton, List.length_set]; omega)) only [tail16, r16_11, r16_12, r16_13, rs16, ↓reduceIte, go_sem, Nat.reduceLT, Nat.reduceEqDiff, Nat.reduceAdd, Nat.reduceMul, Nat.reduceLeDiff, Int.reduceLT, Int.reduceLE, Int.reduceEq, Int.reduceNeg, Int.reduceToNat, t7, t10, t9, ha, hld, foc_other hne', hb, fn43, hst, fn44, hs]
    exact hR hs _ _ (by simp only [↓reduceIte, go_sem, Nat.reduceLT, Nat.reduceEqDiff, Nat.reduceAdd, Nat.reduceMul, Nat.reduceLeDiff, Int.reduceLT, Int.reduceLE, Int.reduceEq, Int.reduceNeg, Int.reduceToNat]) (by simp only [↓reduceIte, go_sem, Nat.reduceLT, Nat.reduceEqDiff, Nat.reduceAdd, Nat.reduceMul, Nat.reduceLeDiff, Int.reduceLT, Int.reduceLE, Int.reduceEq, Int.reduceNeg, Int.reduceToNat, t7]) (by simp only [↓reduceIte, go_sem, Nat.reduceLT, Nat.reduceEqDiff, Nat.reduceAdd, Nat.reduceMul, Nat.reduceLeDiff, Int.reduceLT, Int.reduceLE, Int.reduceEq, Int.reduceNeg, Int.reduceToNat]) (by simp only [↓reduceIte, go_sem, Nat.reduceLT, Nat.reduceEqDiff, Nat.reduceAdd, Nat.reduceMul, Nat.reduceLeDiff, Int.reduceLT, Int.reduceLE, Int.reduceEq, Int.reduceNeg, Int.reduceToNat]) (by simp only [↓reduceIte, go_sem, Nat.reduceLT, Nat.reduceEqDiff, Nat.reduceAdd, Nat.reduceMul, Nat.reduceLeDiff, Int.reduceLT, Int.reduceLE, Int.reduceEq, Int.reduceNeg, Int.reduceToNat]) (hset _) fr (by simp)
  · rw [Bool.not_eq_true] at hs
    simp (disch := first | exact lt_new _ | exact len_snoc _ _ _ | omega | (simp only [List.length_append, List.length_singleton, List.length_set]; done) | (simp only [List.length_append, List.length_singleton, List.length_set]; omega)) only [tail16, r16_11, r16_12, r16_13, rs16, ↓reduceIte, go_sem, Nat.reduceLT, Nat.reduceEqDiff, Nat.reduceAdd, Nat.reduceMul, Nat.reduceLeDiff, Int.reduceLT, Int.reduceLE, Int.reduceEq, Int.reduceNeg, Int.reduceToNat, t7, t10, t9, ha, hld, foc_other hne', hb, fn43, hst, fn44, hs]
    exact hbad hs _ (by simp only [↓reduceIte, go_sem, Nat.reduceLT, Nat.reduceEqDiff, Nat.reduceAdd, Nat.reduceMul, Nat.reduceLeDiff, Int.reduceLT, Int.reduceLE, Int.reduceEq, Int.reduceNeg, Int.reduceToNat]) (by simp only [↓reduceIte, go_sem, Nat.reduceLT, Nat.reduceEqDiff, Nat.reduceAdd, Nat.reduceMul, Nat.reduceLeDiff, Int.reduceLT, Int.reduceLE, Int.reduceEq, Int.reduceNeg, Int.reduceToNat]) _ fr (by simp)
theorem addP_drop {a b out : List Sm} {i : Nat} {y : Sm} (h : b[i]? = some y) : addP a (b.drop i) out = if findS a (keyOf y) < 0 then addP a (b.drop (i + 1)) (out ++ [y]) else match out[(findS a (keyOf y)).toNat]? with
    | some x => if isSumB (addS x y) = true then addP a (b.drop (i + 1)) (out.set (findS a (keyOf y)).toNat (addS x y)) else none
    | none => none := by
  obtain ⟨h1, rfl⟩ := List.getElem?_eq_some_iff.1 h
  rw [List.drop_eq_getElem_cons h1]
  rfl
set_option maxHeartbeats 1000000 in
theorem fn16 (H : Hp) (s1 s2 : V) (a b : List Sm) (ho1 : Own H s1 11 (a.map smC).flatten) (hs2 : Sl H s2 11 (b.map smC)) (hla : a.length ≤ 1000) (hlb : b.length ≤ 1000) : ∃ v H2, callL Try.prog pr 16 [s1, s2] H = some (.tup [v, .int .i64 (resP a b).2], H2) ∧ Own H2 v 11 ((resP a b).1.map smC).flatten ∧ (∃ G, H2 = H ++ G) ∧ ∀ id, At v id → H.length ≤ id := by
  have hs1 := ho1.sl (sm_all a) (by omega)
  obtain ⟨c1, d1, -⟩ := sl_cells hs1
  obtain ⟨c2, d2, -⟩ := sl_cells hs2
  have hlb' : (b.map smC).length = b.length := List.length_map _
  have hlenB := fun H' => hs2.len (P := Try.prog) (H' := H') s40
  rw [hlb'] at hlenB
  refine own_of (run16 (Nat.le_of_ble_eq_true rfl) ?_) (sm_leaf _) rfl
  have h38 := fn38 (H ++ [.row 0 [s1, s2] true]) (.slice H.length 0 0 2 1 .full) [(s1, a), (s2, b)] (Own.sl (xs := [[s1], [s2]]) (own_new (n := 2) rfl (by omega)) (by simp) (by omega)) (by
    intro p hp
    simp only [List.mem_cons, List.not_mem_nil, or_false] at hp
    rcases hp with rfl | rfl
    · exact hs1.app
    · exact hs2.app) (by simp)
  simp only [List.map_cons, List.map_nil] at h38
  by_cases he : sumsE [a, b] = 0
  · obtain ⟨o39, H39, e39, ow39, ⟨G39, rfl⟩, f39⟩ := fn39 (H ++ [.row 0 [s1, s2] true]) s1 a ho1.app hla
    rw [he] at h38
    simp (disch := first | exact lt_new _ | exact len_snoc _ _ _ | omega | (simp only [List.length_append, List.length_singleton, List.length_set]; done) | (simp only [List.length_append, List.length_singleton, List.length_set]; omega)) only [c16, r16_0, r16_1, r16_2, r16_4, r16_5, rs16, ↓reduceIte, go_sem, Nat.reduceLT, Nat.reduceEqDiff, Nat.reduceAdd, Nat.reduceMul, Nat.reduceLeDiff, Int.reduceLT, Int.reduceLE, Int.reduceEq, Int.reduceNeg, Int.reduceToNat, c1, c2, d1, d2, h38, e39, hlenB]
    have hres : resP a b = match addP a b a with
      | some o => (o, 0)
      | none => ([], 10) := by unfold resP; rw [if_pos he]
    rw [hres]
    refine Wp_loop (fun m T D H' => ∃ i out xs, m = b.length - i ∧ i ≤ b.length ∧ D = [] ∧ get T 0 = s1 ∧ get T 20 = s2 ∧ get T 21 = .int .i64 b.length ∧ get T 22 = .int .i64 i ∧ get T 7 = out ∧ H.length ≤ H'.length ∧ (∀ id, id < H.length → H'[id]? = H[id]?) ∧ Own H' out 11 (xs.map smC).flatten ∧ (∀ id, At out id → H.length ≤ id) ∧ a.length ≤ xs.length ∧ xs.length ≤ a.length + i ∧ addP a b a = addP a (b.drop i) xs) ?_ b.length _ _ _ ?_
    · rintro m T D H' ⟨i, out, xs, rfl, hi, rfl, t0, t20, t21, t22, t7, hle, hfr, ho, hat, hx1, hx2, hp⟩
      by_cases hlt : i < b.length
      · have hlt' : (i : Int) < b.length := by omega
        obtain ⟨y, hy⟩ : ∃ y, b[i]? = some y := ⟨_, List.getElem?_eq_getElem hlt⟩
        have hy' : (b.map smC)[i]? = some (smC y) := by rw [List.getElem?_map, hy]; rfl
        have hi2 := fun k => hs2.idx (P := Try.prog) (k := k) s40 (i := i) (by omega)
        have hs2' : Sl H' s2 11 (b.map smC) := hs2.move fun id h => hfr id (hs2.at_lt h)
        have hs1' : Sl H' s1 11 (a.map smC) := hs1.move fun id h => hfr id (hs1.at_lt h)
        have hag := hs2'.agg (P := Try.prog) g50 z50 hy'
        rw [addP_drop hy] at hp
        obtain ⟨Hx, hHx⟩ : ∃ Hx, Hx = H' ++ [AB.row 0 (smC y) true] := ⟨_, rfl⟩
        have hxl : Hx.length = H'.length + 1 := by rw [hHx]; simp
        have oX : Own Hx out 11 (xs.map smC).flatten := by rw [hHx]; exact ho.app
        have xb : loadV Try.prog 50 Hx (.ptr H'.length 0 0) = some (.agg (smC y)) := by
          rw [hHx]; simp (disch := exact lt_new _) only [↓reduceIte, go_sem, Nat.reduceLT, Nat.reduceEqDiff, Nat.reduceAdd, Nat.reduceMul, Nat.reduceLeDiff, Int.reduceLT, Int.reduceLE, Int.reduceEq, Int.reduceNeg, Int.reduceToNat]
        have xfr : ∀ id, id < H'.length → Hx[id]? = H'[id]? := fun id hid => by
          rw [hHx, List.getElem?_append_left hid]
        have h40 := fn40 smC (H' ++ [AB.row 0 (smC y) true]) s1 a hs1'.app (by omega) (fun x => keyEq (keyOf x) (keyOf y)) 41 [] [.ptr H'.length 0 0] fun x _ => fn41 x y H'.length _ (lt_new _) (by rw [← hHx]; exact xb)
        have hfl := sm_flat xs
        rcases findS_cases a (keyOf y) with hf | ⟨j, hj, hf⟩
        · have hf' : findI (fun x => keyEq (keyOf x) (keyOf y)) a 0 = -1 := hf
          rw [if_pos (by omega)] at hp
          obtain ⟨o', H1, e1, o1, f1, le1, at1⟩ := oX.push (by_ := 88) (ys := smC y) rfl rfl (by omega) (by omega) (by omega)
          rw [hHx] at e1
          rw [l16_eq]
          simp (config := { maxSteps := 1000000 }) (disch := first | exact lt_new _ | exact len_snoc _ _ _ | omega | (simp only [List.length_append, List.length_singleton, List.length_set]; done) | (simp only [List.length_append, List.length_singleton, List.length_set]; omega)) only [r16_6, r16_7, r16_8, r16_9, r16_10, r16_14, ↓reduceIte, go_sem, Nat.reduceLT, Nat.reduceEqDiff, Nat.reduceAdd, Nat.reduceMul, Nat.reduceLeDiff, Int.reduceLT, Int.reduceLE, Int.reduceEq, Int.reduceNeg, Int.reduceToNat, t0, t20, t21, t22, t7, hlt', hi2, hag, h40, hf', e1, IntWalk.i64_in]
          refine ⟨_, by omega, i + 1, o', xs ++ [y], rfl, hlt, rfl, rfl, by omega, fun id hid => ?_, ?_, fun id h => ?_, by simp; omega, by simp; omega, hp⟩
          · rw [f1 id (by omega) fun h => by have := hat id h; omega, xfr id (by omega)]
            exact hfr id hid
          · rw [List.map_append, List.flatten_append]; simpa using o1
          · rcases at1 _ h with h | h
            · exact hat id h
            · omega
        · have hf' : findI (fun x => keyEq (keyOf x) (keyOf y)) a 0 = (j : Int) := hf
          obtain ⟨x, hx⟩ : ∃ x, xs[j]? = some x := ⟨_, List.getElem?_eq_getElem (by omega)⟩
          have hneg : ¬ ((j : Int) < 0) := by omega
          rw [hf, if_neg hneg, Int.toNat_natCast, hx] at hp
          simp only at hp
          rw [l16_eq]
          simp (config := { maxSteps := 1000000 }) (disch := first | exact lt_new _ | exact len_snoc _ _ _ | omega | (simp only [List.length_append, List.length_singleton, List.length_set]; done) | (simp only [List.length_append, List.length_singleton, List.length_set]; omega)) only [r16_6, r16_7, r16_8, r16_9, r16_10, r16_14, ↓reduceIte, go_sem, Nat.reduceLT, Nat.reduceEqDiff, Nat.reduceAdd, Nat.reduceMul, Nat.reduceLeDiff, Int.reduceLT, Int.reduceLE, Int.reduceEq, Int.reduceNeg, Int.reduceToNat, t0, t20, t21, t22, t7, hlt', hi2, hag, h40, hf', hneg, IntWalk.i64_in]
          rw [← hHx]
          refine tail16_ok (i := j) (tb := H'.length) (y := y) oX hx (by simp only [↓reduceIte, go_sem, Nat.reduceLT, Nat.reduceEqDiff, Nat.reduceAdd, Nat.reduceMul, Nat.reduceLeDiff, Int.reduceLT, Int.reduceLE, Int.reduceEq, Int.reduceNeg, Int.reduceToNat, t7]) (by simp only [↓reduceIte, go_sem, Nat.reduceLT, Nat.reduceEqDiff, Nat.reduceAdd, Nat.reduceMul, Nat.reduceLeDiff, Int.reduceLT, Int.reduceLE, Int.reduceEq, Int.reduceNeg, Int.reduceToNat]) (by simp only [↓reduceIte, go_sem, Nat.reduceLT, Nat.reduceEqDiff, Nat.reduceAdd, Nat.reduceMul, Nat.reduceLeDiff, Int.reduceLT, Int.reduceLE, Int.reduceEq, Int.reduceNeg, Int.reduceToNat]) (fun h => ?_) xb (fun hs T' k4 k5 H2 kf kl => ?_) fun hs T' H2 k0 k7 k20 k21 k22 ko kf kl => ?_
          · have := ho.lt h; omega
          · rw [hs] at hp
            simp only [Bool.false_eq_true, if_false] at hp
            rw [hp]
            simp only [↓reduceIte, go_sem, Nat.reduceLT, Nat.reduceEqDiff, Nat.reduceAdd, Nat.reduceMul, Nat.reduceLeDiff, Int.reduceLT, Int.reduceLE, Int.reduceEq, Int.reduceNeg, Int.reduceToNat, k4, k5]
            refine ⟨.nilslice, rfl, own_nil _ _, fun id hid => ?_, by simp [At]⟩
            rw [kf id fun h => by have := hat id h; omega, xfr id (by omega)]
            exact hfr id hid
          · rw [if_pos hs] at hp
            simp (disch := omega) only [↓reduceIte, go_sem, Nat.reduceLT, Nat.reduceEqDiff, Nat.reduceAdd, Nat.reduceMul, Nat.reduceLeDiff, Int.reduceLT, Int.reduceLE, Int.reduceEq, Int.reduceNeg, Int.reduceToNat, t0, t20, t21, t22] at k0 k20 k21 k22
            simp (disch := omega) only [r16_14, ↓reduceIte, go_sem, Nat.reduceLT, Nat.reduceEqDiff, Nat.reduceAdd, Nat.reduceMul, Nat.reduceLeDiff, Int.reduceLT, Int.reduceLE, Int.reduceEq, Int.reduceNeg, Int.reduceToNat, k0, k7, k20, k21, k22, IntWalk.i64_in]
            refine ⟨_, by omega, i + 1, out, xs.set j (addS x y), rfl, hlt, rfl, rfl, by omega, fun id hid => ?_, ko, hat, by simp; omega, by simp; omega, hp⟩
            rw [kf id fun h => by have := hat id h; omega, xfr id (by omega)]
            exact hfr id hid
      · obtain rfl : i = b.length := by omega
        rw [List.drop_length] at hp
        rw [hp]
        have hfl := sm_flat xs
        obtain ⟨-, -, ht⟩ := sl_cells (ho.sl (sm_all xs) (by omega))
        simp (disch := omega) only [l16_15, r16_6, r16_16, rs16, ↓reduceIte, go_sem, Nat.reduceLT, Nat.reduceEqDiff, Nat.reduceAdd, Nat.reduceMul, Nat.reduceLeDiff, Int.reduceLT, Int.reduceLE, Int.reduceEq, Int.reduceNeg, Int.reduceToNat, t0, t20, t21, t22, t7, Int.lt_irrefl, ht, Bool.not_false]
        exact ⟨out, rfl, ho, hfr, hat⟩
    · refine ⟨0, o39, a, rfl, by omega, rfl, ?_⟩
      simp only [↓reduceIte, go_sem, Nat.reduceLT, Nat.reduceEqDiff, Nat.reduceAdd, Nat.reduceMul, Nat.reduceLeDiff, Int.reduceLT, Int.reduceLE, Int.reduceEq, Int.reduceNeg, Int.reduceToNat]
      refine ⟨by simp, fun id hid => ?_, ow39, fun id h => ?_, Nat.le_refl _, by omega, rfl⟩
      · rw [List.append_assoc, List.getElem?_append_left hid]
      · have := f39 id h
        simp at this; omega
  · simp (disch := first | exact lt_new _ | exact len_snoc _ _ _ | omega | (simp only [List.length_append, List.length_singleton, List.length_set]; done) | (simp only [List.length_append, List.length_singleton, List.length_set]; omega)) only [c16, r16_0, r16_1, r16_2, r16_3, rs16, ↓reduceIte, go_sem, Nat.reduceLT, Nat.reduceEqDiff, Nat.reduceAdd, Nat.reduceMul, Nat.reduceLeDiff, Int.reduceLT, Int.reduceLE, Int.reduceEq, Int.reduceNeg, Int.reduceToNat, c1, c2, d1, d2, h38, he]
    have hres : resP a b = ([], sumsE [a, b]) := by unfold resP; rw [if_neg he]
    rw [hres]
    refine ⟨.nilslice, rfl, own_nil _ _, fun id hid => ?_, by simp [At]⟩
    rw [List.getElem?_append_left hid]
end Go.Proofs.Ytdpdlobaabcjjaa
/-
  Two lists of conversations put together, by the document's function: walked. No statement of the seat stands here.
-/
namespace Go.Proofs.Ytdpdlobaabcjjaa
open Go Go.Am
set_option maxRecDepth 4000
set_option linter.unusedSimpArgs false
set_option linter.unusedVariables false

def addStep (a out : List Sm) (y : Sm) : List Sm := if findS a (keyOf y) < 0 then out ++ [y] else match out[(findS a (keyOf y)).toNat]? with
  | some x => out.set (findS a (keyOf y)).toNat (addS x y)
  | none => out
def addR (a b out : List Sm) : List Sm := b.foldl (addStep a) out
def good4 (s : Sm) : Bool := inB s.go 4503599627370496 && (inB s.gb 4503599627370496 && (inB s.back 4503599627370496 && inB s.bb 4503599627370496))
def resR (a b : List Sm) : List Sm × Int := if 200 < a.length ∨ 200 < b.length then ([], 3) else if askS a = 0 ∧ askS b = 0 then (if (addR a b a).all good4 = true then (addR a b a, 0) else ([], 10)) else ([], 1)
theorem addR_snoc {a b out : List Sm} {i : Nat} {y : Sm} (h : b[i]? = some y) : addR a (b.take (i + 1)) out = addStep a (addR a (b.take i) out) y := by
  unfold addR
  rw [take_snoc h, List.foldl_append]
  rfl
theorem app_own {H : Hp} {s : V} {l : List Sm} (hs : Sl H s 11 (l.map smC)) (hl : l.length ≤ 1000) : ∃ o H1, appOf 11 88 H .nilslice s = some (o, H1) ∧ Own H1 o 11 (l.map smC).flatten ∧ (∀ id, id < H.length → H1[id]? = H[id]?) ∧ H.length ≤ H1.length ∧ ∀ id, At o id → H.length ≤ id := by
  by_cases hn : l = []
  · subst hn
    refine ⟨.nilslice, H, ?_, own_nil _ _, fun _ _ => rfl, Nat.le_refl _, by simp [At]⟩
    unfold appOf
    rw [hs.src]
    simp
  · have hn' : l.map smC ≠ [] := by simpa using hn
    have hlm : (l.map smC).length = l.length := List.length_map _
    have hn0 : l.length ≠ 0 := fun e => hn (List.length_eq_zero_iff.1 e)
    have e1 := app_nil' (by_ := 88) hs (sm_cell l) hn' (by omega) (by omega)
    refine ⟨_, _, e1, own_new ?_ (by omega), fun id h => List.getElem?_append_left h, by simp, ?_⟩
    · rw [sm_flat, hlm]
    · rintro id ⟨_, _, _, _, _, e⟩
      injection e with e1
      omega
def tail18 : Cc := .seq (.reg r18_12) (.seq (.reg r18_13) (.seq (.reg r18_14) (.seq (.reg r18_15) (.reg r18_16))))
theorem l18_eq : l18_18 = .seq (.seq (.reg r18_7) (.cond (.tmp 34) .skip (.exit 0))) (.seq (.block 1 (.seq (.reg r18_8) (.seq (.seq (.reg r18_9) (.cond (.tmp 45) (.seq (.reg r18_10) (.exit 1)) .skip)) (.seq (.reg r18_11) tail18)))) (.reg r18_17)) := rfl
theorem tail18_ok {T : Fr} {Hc : Hp} {R : Ex → Fr → Dfr → Hp → Prop} {out : V} {xs : List Sm} {x y : Sm} {i tb : Nat} (ho : Own Hc out 11 (xs.map smC).flatten) (hx : xs[i]? = some x) (t9 : get T 9 = .ptr (vid out) (vgen out) (voff out + i * 11)) (t10 : get T 10 = .ptr tb 0 0) (hne : ¬ At out tb)
    (hrow : Hc[tb]? = some (.row 0 (smC y) true))
    (hR : ∀ T' H', get T' 0 = get T 0 → get T' 1 = get T 1 → get T' 6 = get T 6 → get T' 7 = get T 7 → Own H' out 11 ((xs.set i (addS x y)).map smC).flatten → (∀ j, ¬ At out j → H'[j]? = Hc[j]?) → H'.length = Hc.length → R .nor T' [] H') :
    Wp Try.prog (callL Try.prog pr) 149 tail18 T [] Hc R := by
  have hi : i < xs.length := (List.getElem?_eq_some_iff.1 hx).1
  obtain ⟨id, g, pre, post, rfl, hid, hpre, hH, hset⟩ := ho.focus smC_len (by omega) hx
  have hne' : id ≠ tb := fun e => hne ⟨g, 0, xs.length, 11, .full, by rw [e]⟩
  have t9' : get T 9 = .ptr id g pre.length := t9.trans (by show V.ptr id g (0 + i * 11) = _; rw [hpre])
  have ld : ∀ k, loadV Try.prog 3 Hc (.ptr tb 0 k) = (smC y)[k]? := fun k => by
    rw [loadV_ptr]
    unfold getRow
    rw [hrow]
    simp [partV, g3]
  rw [hH]
  simp (config := { maxSteps := 1000000 }) (disch := first | exact hid | exact hne' | exact Nat.le_of_ble_eq_true rfl | exact rfl | omega) only [tail18, r18_12, r18_13, r18_14, r18_15, r18_16, ↓reduceIte, go_sem, Nat.reduceLT, Nat.reduceEqDiff, Nat.reduceAdd, Nat.reduceMul, Nat.reduceLeDiff, Int.reduceLT, Int.reduceLE, Int.reduceEq, Int.reduceNeg, Int.reduceToNat, t9', t10, foc_load g3, foc_stI z3, foc_other, ld]
  refine hR _ _ ?_ ?_ ?_ ?_ (hset (addS x y)) (fun j hj => ?_) (by simp)
  · simp only [↓reduceIte, go_sem, Nat.reduceLT, Nat.reduceEqDiff, Nat.reduceAdd, Nat.reduceMul, Nat.reduceLeDiff, Int.reduceLT, Int.reduceLE, Int.reduceEq, Int.reduceNeg, Int.reduceToNat]
  · simp only [↓reduceIte, go_sem, Nat.reduceLT, Nat.reduceEqDiff, Nat.reduceAdd, Nat.reduceMul, Nat.reduceLeDiff, Int.reduceLT, Int.reduceLE, Int.reduceEq, Int.reduceNeg, Int.reduceToNat]
  · simp only [↓reduceIte, go_sem, Nat.reduceLT, Nat.reduceEqDiff, Nat.reduceAdd, Nat.reduceMul, Nat.reduceLeDiff, Int.reduceLT, Int.reduceLE, Int.reduceEq, Int.reduceNeg, Int.reduceToNat]
  · simp only [↓reduceIte, go_sem, Nat.reduceLT, Nat.reduceEqDiff, Nat.reduceAdd, Nat.reduceMul, Nat.reduceLeDiff, Int.reduceLT, Int.reduceLE, Int.reduceEq, Int.reduceNeg, Int.reduceToNat]
  · rw [List.getElem?_set_ne fun e => hj ⟨g, 0, xs.length, 11, .full, by rw [e]⟩]
end Go.Proofs.Ytdpdlobaabcjjaa
/-
  Two lists of conversations put together, by the document's function: the loops. No statement of the seat stands here.
-/
namespace Go.Proofs.Ytdpdlobaabcjjaa
open Go Go.Am
set_option maxRecDepth 4000
set_option linter.unusedSimpArgs false
set_option linter.unusedVariables false

def fin18 : Cc := .seq (.seq (.reg r18_19) (.block 2 (.loop l18_25))) (.seq (.reg r18_26) .ret)
theorem c18_eq : c18 = .seq (.reg r18_0) (.seq (.seq (.reg r18_1) (.cond (.tmp 20) (.seq (.reg r18_2) .ret) .skip)) (.seq (.seq (.reg r18_3) (.cond (.tmp 28) (.seq (.reg r18_4) .ret) .skip)) (.seq (.reg r18_5) (.seq (.seq (.reg r18_6) (.block 0 (.loop l18_18))) fin18)))) := rfl
/-- The last look at all numbers. -/
theorem fin18_ok {H Hc : Hp} {T : Fr} {out : V} {xs : List Sm} (ho : Own Hc out 11 (xs.map smC).flatten) (hn : xs.length ≤ 2000) (t6 : get T 6 = out) (hle : H.length ≤ Hc.length) (hfr : ∀ id, id < H.length → Hc[id]? = H[id]?) (hat : ∀ id, At out id → H.length ≤ id) :
    Wp Try.prog (callL Try.prog pr) 149 fin18 T [] Hc (RetQ Try.prog rs18 (RetOwn H 11 (((if xs.all good4 = true then (xs, 0) else ([], 10) : List Sm × Int).1).map smC).flatten [.int .i64 (if xs.all good4 = true then (xs, 0) else ([], 10) : List Sm × Int).2])) := by
  have hfl := sm_flat xs
  have hs := ho.sl (sm_all xs) (by omega)
  have hl : (xs.map smC).length = xs.length := List.length_map _
  have hlenS := fun H' => hs.len (P := Try.prog) (H' := H') s37
  rw [hl] at hlenS
  simp (disch := omega) only [fin18, r18_19, ↓reduceIte, go_sem, Nat.reduceLT, Nat.reduceEqDiff, Nat.reduceAdd, Nat.reduceMul, Nat.reduceLeDiff, Int.reduceLT, Int.reduceLE, Int.reduceEq, Int.reduceNeg, Int.reduceToNat]
  refine Wp_loop (fun m T D H' => ∃ i, m = xs.length - i ∧ i ≤ xs.length ∧ D = [] ∧ (∃ G, H' = Hc ++ G) ∧ get T 6 = out ∧ get T 11 = .int .i64 i ∧ (xs.take i).all good4 = true) ?_ xs.length _ _ _ ?_
  · rintro m T D H' ⟨i, rfl, hi, rfl, ⟨G, rfl⟩, t6, t11, hp⟩
    by_cases hlt : i < xs.length
    · have hlt' : (i : Int) < xs.length := by omega
      obtain ⟨x, hx⟩ : ∃ x, xs[i]? = some x := ⟨_, List.getElem?_eq_getElem hlt⟩
      have hx' : (xs.map smC)[i]? = some (smC x) := by rw [List.getElem?_map, hx]; rfl
      have hi2 := fun k => hs.idx (P := Try.prog) (k := k) s37 (i := i) (by omega)
      have hag := (hs.app (L := G)).agg (P := Try.prog) g80 z80 hx'
      have hbad : good4 x = false → xs.all good4 = false := fun h => List.all_eq_false.2 ⟨x, List.mem_of_getElem? hx, by simp [h]⟩
      have hfin : xs.all good4 = false → RetOwn H 11 (((if xs.all good4 = true then (xs, 0) else ([], 10) : List Sm × Int).1).map smC).flatten [.int .i64 (if xs.all good4 = true then (xs, 0) else ([], 10) : List Sm × Int).2] (.tup [.nilslice, .int .i64 10]) (Hc ++ G ++ [.row 0 (smC x) true]) := fun h => by
        rw [h]
        refine ⟨.nilslice, rfl, own_nil _ _, fun id hid => ?_, by simp [At]⟩
        rw [List.append_assoc, List.getElem?_append_left (by omega)]
        exact hfr id hid
      by_cases b1 : inB x.go 4503599627370496 = true
      · by_cases b2 : inB x.gb 4503599627370496 = true
        · by_cases b3 : inB x.back 4503599627370496 = true
          · by_cases b4 : inB x.bb 4503599627370496 = true
            · simp (config := { maxSteps := 1000000 }) (disch := first | exact lt_new _ | exact len_snoc _ _ _ | omega | (simp only [List.length_append, List.length_singleton, List.length_set]; done) | (simp only [List.length_append, List.length_singleton, List.length_set]; omega)) only [l18_25, r18_20, r18_21, r18_22, r18_24, ↓reduceIte, go_sem, Nat.reduceLT, Nat.reduceEqDiff, Nat.reduceAdd, Nat.reduceMul, Nat.reduceLeDiff, Int.reduceLT, Int.reduceLE, Int.reduceEq, Int.reduceNeg, Int.reduceToNat, t6, t11, hlt', hlenS, hi2, hag, fn34, b1, b2, b3, b4, IntWalk.i64_in]
              refine ⟨_, by omega, i + 1, rfl, hlt, ⟨_, List.append_assoc ..⟩, rfl, ?_⟩
              rw [take_snoc hx, List.all_append, hp]
              simp [good4, b1, b2, b3, b4]
            · rw [Bool.not_eq_true] at b4
              simp (config := { maxSteps := 1000000 }) (disch := first | exact lt_new _ | exact len_snoc _ _ _ | omega | (simp only [List.length_append, List.length_singleton, List.length_set]; done) | (simp only [List.length_append, List.length_singleton, List.length_set]; omega)) only [l18_25, r18_20, r18_21, r18_22, r18_23, rs18, ↓reduceIte, go_sem, Nat.reduceLT, Nat.reduceEqDiff, Nat.reduceAdd, Nat.reduceMul, Nat.reduceLeDiff, Int.reduceLT, Int.reduceLE, Int.reduceEq, Int.reduceNeg, Int.reduceToNat, t6, t11, hlt', hlenS, hi2, hag, fn34, b1, b2, b3, b4, IntWalk.i64_in]
              exact hfin (hbad (by simp [good4, b4]))
          · rw [Bool.not_eq_true] at b3
            simp (config := { maxSteps := 1000000 }) (disch := first | exact lt_new _ | exact len_snoc _ _ _ | omega | (simp only [List.length_append, List.length_singleton, List.length_set]; done) | (simp only [List.length_append, List.length_singleton, List.length_set]; omega)) only [l18_25, r18_20, r18_21, r18_22, r18_23, rs18, ↓reduceIte, go_sem, Nat.reduceLT, Nat.reduceEqDiff, Nat.reduceAdd, Nat.reduceMul, Nat.reduceLeDiff, Int.reduceLT, Int.reduceLE, Int.reduceEq, Int.reduceNeg, Int.reduceToNat, t6, t11, hlt', hlenS, hi2, hag, fn34, b1, b2, b3, IntWalk.i64_in]
            exact hfin (hbad (by simp [good4, b3]))
        · rw [Bool.not_eq_true] at b2
          simp (config := { maxSteps := 1000000 }) (disch := first | exact lt_new _ | exact len_snoc _ _ _ | omega | (simp only [List.length_append, List.length_singleton, List.length_set]; done) | (simp only [List.length_append, List.length_singleton, List.length_set]; omega)) only [l18_25, r18_20, r18_21, r18_22, r18_23, rs18, ↓reduceIte, go_sem, Nat.reduceLT, Nat.reduceEqDiff, Nat.reduceAdd, Nat.reduceMul, Nat.reduceLeDiff, Int.reduceLT, Int.reduceLE, Int.reduceEq, Int.reduceNeg, Int.reduceToNat, t6, t11, hlt', hlenS, hi2, hag, fn34, b1, b2, IntWalk.i64_in]
          exact hfin (hbad (by simp [good4, b2]))
      · rw [Bool.not_eq_true] at b1
        simp (config := { maxSteps := 1000000 }) (disch := first | exact lt_new _ | exact len_snoc _ _ _ | omega | (simp only [List.length_append, List.length_singleton, List.length_set]; done) | (simp only [List.length_append, List.length_singleton, List.length_set]; omega)) only [l18_25, r18_20, r18_21, r18_22, r18_23, rs18, ↓reduceIte, go_sem, Nat.reduceLT, Nat.reduceEqDiff, Nat.reduceAdd, Nat.reduceMul, Nat.reduceLeDiff, Int.reduceLT, Int.reduceLE, Int.reduceEq, Int.reduceNeg, Int.reduceToNat, t6, t11, hlt', hlenS, hi2, hag, fn34, b1, IntWalk.i64_in]
        exact hfin (hbad (by simp [good4, b1]))
    · obtain rfl : i = xs.length := by omega
      rw [List.take_length] at hp
      obtain ⟨-, -, ht⟩ := sl_cells hs
      simp (disch := omega) only [l18_25, r18_20, r18_26, rs18, ↓reduceIte, go_sem, Nat.reduceLT, Nat.reduceEqDiff, Nat.reduceAdd, Nat.reduceMul, Nat.reduceLeDiff, Int.reduceLT, Int.reduceLE, Int.reduceEq, Int.reduceNeg, Int.reduceToNat, t6, t11, hlenS, Int.lt_irrefl, ht, Bool.not_false, hp]
      refine ⟨out, rfl, ho.app, fun id hid => ?_, hat⟩
      rw [List.getElem?_append_left (by omega)]
      exact hfr id hid
  · exact ⟨0, by simp [go_sem, t6]⟩
set_option maxHeartbeats 1000000 in
theorem fn18 (H : Hp) (s1 s2 : V) (a b : List Sm) (hs1 : Sl H s1 11 (a.map smC)) (hs2 : Sl H s2 11 (b.map smC)) : ∃ v H2, callL Try.prog pr 18 [s1, s2] H = some (.tup [v, .int .i64 (resR a b).2], H2) ∧ Own H2 v 11 ((resR a b).1.map smC).flatten ∧ (∃ G, H2 = H ++ G) ∧ ∀ id, At v id → H.length ≤ id := by
  have hla' : (a.map smC).length = a.length := List.length_map _
  have hlb' : (b.map smC).length = b.length := List.length_map _
  have hlenA := fun H' => hs1.len (P := Try.prog) (H' := H') s37
  have hlenB := fun H' => hs2.len (P := Try.prog) (H' := H') s37
  rw [hla'] at hlenA
  rw [hlb'] at hlenB
  have h45a := fun H' => fn45 (H ++ H') s1 a hs1.app
  refine own_of (run18 (Nat.le_of_ble_eq_true rfl) ?_) (sm_leaf _) rfl
  have bad : ∀ e : Int, resR a b = ([], e) → RetOwn H 11 ((resR a b).1.map smC).flatten [.int .i64 (resR a b).2] (.tup [.nilslice, .int .i64 e]) H := fun e h => by
    rw [h]
    exact ⟨.nilslice, rfl, own_nil _ _, fun id hid => rfl, by simp [At]⟩
  by_cases h1 : 200 < a.length
  · have h1' : (200 : Int) < a.length := by omega
    simp (disch := omega) only [c18, r18_0, r18_1, r18_2, rs18, ↓reduceIte, go_sem, Nat.reduceLT, Nat.reduceEqDiff, Nat.reduceAdd, Nat.reduceMul, Nat.reduceLeDiff, Int.reduceLT, Int.reduceLE, Int.reduceEq, Int.reduceNeg, Int.reduceToNat, hlenA, h1']
    exact bad 3 (by unfold resR; rw [if_pos (.inl h1)])
  by_cases h2 : 200 < b.length
  · have h1' : ¬ (200 : Int) < a.length := by omega
    have h2' : (200 : Int) < b.length := by omega
    simp (disch := omega) only [c18, r18_0, r18_1, r18_2, rs18, ↓reduceIte, go_sem, Nat.reduceLT, Nat.reduceEqDiff, Nat.reduceAdd, Nat.reduceMul, Nat.reduceLeDiff, Int.reduceLT, Int.reduceLE, Int.reduceEq, Int.reduceNeg, Int.reduceToNat, hlenA, hlenB, h1', h2']
    exact bad 3 (by unfold resR; rw [if_pos (.inr h2)])
  have h1' : ¬ (200 : Int) < a.length := by omega
  have h2' : ¬ (200 : Int) < b.length := by omega
  have hR : resR a b = if askS a = 0 ∧ askS b = 0 then (if (addR a b a).all good4 = true then (addR a b a, 0) else ([], 10)) else ([], 1) := by
    unfold resR; rw [if_neg (by omega)]
  have k1 := fn45 H s1 a hs1
  have k2 := fn45 H s2 b hs2
  by_cases e1 : askS a = 0
  · by_cases e2 : askS b = 0
    · rw [if_pos ⟨e1, e2⟩] at hR
      rw [e1] at k1
      rw [e2] at k2
      obtain ⟨o0, H0, ea, oo, f0, le0, at0⟩ := app_own hs1 (by omega)
      rw [c18_eq]
      simp (disch := omega) only [r18_0, r18_1, r18_3, r18_5, r18_6, rs18, ↓reduceIte, go_sem, Nat.reduceLT, Nat.reduceEqDiff, Nat.reduceAdd, Nat.reduceMul, Nat.reduceLeDiff, Int.reduceLT, Int.reduceLE, Int.reduceEq, Int.reduceNeg, Int.reduceToNat, hlenA, hlenB, h1', h2', k1, k2, ea]
      refine Wp_loop (fun m T D H' => ∃ i out, m = b.length - i ∧ i ≤ b.length ∧ D = [] ∧ get T 0 = s1 ∧ get T 1 = s2 ∧ get T 7 = .int .i64 i ∧ get T 6 = out ∧ H.length ≤ H'.length ∧ (∀ id, id < H.length → H'[id]? = H[id]?) ∧ Own H' out 11 ((addR a (b.take i) a).map smC).flatten ∧ (∀ id, At out id → H.length ≤ id) ∧ a.length ≤ (addR a (b.take i) a).length ∧ (addR a (b.take i) a).length ≤ a.length + i) ?_ b.length _ _ _ ?_
      · rintro m T D H' ⟨i, out, rfl, hi, rfl, t0, t1, t7, t6, hle, hfr, ho, hat, hx1, hx2⟩
        by_cases hlt : i < b.length
        · have hlt' : (i : Int) < b.length := by omega
          obtain ⟨y, hy⟩ : ∃ y, b[i]? = some y := ⟨_, List.getElem?_eq_getElem hlt⟩
          have hy' : (b.map smC)[i]? = some (smC y) := by rw [List.getElem?_map, hy]; rfl
          have hi2 := fun k => hs2.idx (P := Try.prog) (k := k) s37 (i := i) (by omega)
          have hs2' : Sl H' s2 11 (b.map smC) := hs2.move fun id h => hfr id (hs2.at_lt h)
          have hs1' : Sl H' s1 11 (a.map smC) := hs1.move fun id h => hfr id (hs1.at_lt h)
          have hag := hs2'.agg (P := Try.prog) g80 z80 hy'
          have h37 := fn37 H' s1 a (keyOf y) hs1' (by omega)
          have hstep := addR_snoc (a := a) (out := a) hy
          generalize hxs : addR a (b.take i) a = xs at *
          have hfl := sm_flat xs
          rcases findS_cases a (keyOf y) with hf | ⟨j, hj, hf⟩
          · have hf' : findI (fun x => keyEq (keyOf x) (keyOf y)) a 0 = -1 := hf
            have hst : addStep a xs y = xs ++ [y] := by unfold addStep; rw [if_pos (by omega)]
            obtain ⟨o', H1, ep, o1, f1, le1, at1⟩ := ho.push (by_ := 88) (ys := smC y) rfl rfl (by omega) (by omega) (by omega)
            rw [l18_eq]
            simp (config := { maxSteps := 1000000 }) (disch := first | exact lt_new _ | exact len_snoc _ _ _ | omega | (simp only [List.length_append, List.length_singleton, List.length_set]; done) | (simp only [List.length_append, List.length_singleton, List.length_set]; omega)) only [r18_7, r18_8, r18_9, r18_10, r18_17, ↓reduceIte, go_sem, Nat.reduceLT, Nat.reduceEqDiff, Nat.reduceAdd, Nat.reduceMul, Nat.reduceLeDiff, Int.reduceLT, Int.reduceLE, Int.reduceEq, Int.reduceNeg, Int.reduceToNat, t0, t1, t7, t6, hlt', hlenB, hi2, hag, fn46, h37, hf', ep, IntWalk.i64_in]
            rw [hst] at hstep
            refine ⟨_, by omega, i + 1, o', rfl, hlt, rfl, rfl, by omega, fun id hid => ?_, ?_, fun id h => ?_, by rw [hstep]; simp; omega, by rw [hstep]; simp; omega⟩
            · rw [f1 id (by omega) fun h => by have := hat id h; omega]
              exact hfr id hid
            · rw [hstep, List.map_append, List.flatten_append]; simpa using o1
            · rcases at1 _ h with h | h
              · exact hat id h
              · omega
          · have hf' : findI (fun x => keyEq (keyOf x) (keyOf y)) a 0 = (j : Int) := hf
            obtain ⟨x, hx⟩ : ∃ x, xs[j]? = some x := ⟨_, List.getElem?_eq_getElem (by omega)⟩
            have hneg : ¬ ((j : Int) < 0) := by omega
            have hst : addStep a xs y = xs.set j (addS x y) := by unfold addStep; rw [hf, if_neg hneg, Int.toNat_natCast, hx]
            have so := ho.sl (sm_all xs) (by omega)
            have hj2 := fun k => so.idx (P := Try.prog) (k := k) s37 (i := j) (by rw [List.length_map]; omega)
            rw [hst] at hstep
            rw [l18_eq]
            simp (config := { maxSteps := 1000000 }) (disch := first | exact lt_new _ | exact len_snoc _ _ _ | omega | (simp only [List.length_append, List.length_singleton, List.length_set]; done) | (simp only [List.length_append, List.length_singleton, List.length_set]; omega)) only [r18_7, r18_8, r18_9, r18_11, r18_17, ↓reduceIte, go_sem, Nat.reduceLT, Nat.reduceEqDiff, Nat.reduceAdd, Nat.reduceMul, Nat.reduceLeDiff, Int.reduceLT, Int.reduceLE, Int.reduceEq, Int.reduceNeg, Int.reduceToNat, t0, t1, t7, t6, hlt', hlenB, hi2, hj2, hag, fn46, h37, hf', hneg, IntWalk.i64_in]
            refine tail18_ok (i := j) (tb := H'.length) (y := y) (out := out) ho.app hx (by simp only [↓reduceIte, go_sem, Nat.reduceLT, Nat.reduceEqDiff, Nat.reduceAdd, Nat.reduceMul, Nat.reduceLeDiff, Int.reduceLT, Int.reduceLE, Int.reduceEq, Int.reduceNeg, Int.reduceToNat]) (by simp only [↓reduceIte, go_sem, Nat.reduceLT, Nat.reduceEqDiff, Nat.reduceAdd, Nat.reduceMul, Nat.reduceLeDiff, Int.reduceLT, Int.reduceLE, Int.reduceEq, Int.reduceNeg, Int.reduceToNat]) (fun h => ?_) (by simp) fun T' H2 q0 q1 q6 q7 ko kf kl => ?_
            · have := ho.lt h; omega
            · simp (disch := omega) only [↓reduceIte, go_sem, Nat.reduceLT, Nat.reduceEqDiff, Nat.reduceAdd, Nat.reduceMul, Nat.reduceLeDiff, Int.reduceLT, Int.reduceLE, Int.reduceEq, Int.reduceNeg, Int.reduceToNat, t0, t1, t6, t7] at q0 q1 q6 q7
              simp (disch := omega) only [r18_17, ↓reduceIte, go_sem, Nat.reduceLT, Nat.reduceEqDiff, Nat.reduceAdd, Nat.reduceMul, Nat.reduceLeDiff, Int.reduceLT, Int.reduceLE, Int.reduceEq, Int.reduceNeg, Int.reduceToNat, q0, q1, q6, q7, IntWalk.i64_in]
              rw [List.length_append] at kl
              refine ⟨_, by omega, i + 1, out, rfl, hlt, rfl, rfl, by omega, fun id hid => ?_, by rw [hstep]; exact ko, hat, by rw [hstep]; simp; omega, by rw [hstep]; simp; omega⟩
              rw [kf id fun h => by have := hat id h; omega, List.getElem?_append_left (by omega)]
              exact hfr id hid
        · obtain rfl : i = b.length := by omega
          rw [List.take_length] at ho hx1 hx2
          simp (disch := omega) only [l18_18, r18_7, rs18, ↓reduceIte, go_sem, Nat.reduceLT, Nat.reduceEqDiff, Nat.reduceAdd, Nat.reduceMul, Nat.reduceLeDiff, Int.reduceLT, Int.reduceLE, Int.reduceEq, Int.reduceNeg, Int.reduceToNat, t0, t1, t7, t6, hlenB, Int.lt_irrefl]
          rw [hR]
          exact fin18_ok ho (by omega) (by simp only [↓reduceIte, go_sem, Nat.reduceLT, Nat.reduceEqDiff, Nat.reduceAdd, Nat.reduceMul, Nat.reduceLeDiff, Int.reduceLT, Int.reduceLE, Int.reduceEq, Int.reduceNeg, Int.reduceToNat, t6]) hle hfr hat
      · refine ⟨0, o0, rfl, by omega, rfl, ?_⟩
        simp only [↓reduceIte, go_sem, Nat.reduceLT, Nat.reduceEqDiff, Nat.reduceAdd, Nat.reduceMul, Nat.reduceLeDiff, Int.reduceLT, Int.reduceLE, Int.reduceEq, Int.reduceNeg, Int.reduceToNat]
        exact ⟨le0, f0, oo, at0, Nat.le_refl _, by simp [addR]⟩
    · rw [if_neg (by omega)] at hR
      rw [e1] at k1
      simp (disch := omega) only [c18, r18_0, r18_1, r18_3, r18_4, rs18, ↓reduceIte, go_sem, Nat.reduceLT, Nat.reduceEqDiff, Nat.reduceAdd, Nat.reduceMul, Nat.reduceLeDiff, Int.reduceLT, Int.reduceLE, Int.reduceEq, Int.reduceNeg, Int.reduceToNat, hlenA, hlenB, h1', h2', k1, k2, e2]
      exact bad 1 hR
  · rw [if_neg (by omega)] at hR
    simp (disch := omega) only [c18, r18_0, r18_1, r18_3, r18_4, rs18, ↓reduceIte, go_sem, Nat.reduceLT, Nat.reduceEqDiff, Nat.reduceAdd, Nat.reduceMul, Nat.reduceLeDiff, Int.reduceLT, Int.reduceLE, Int.reduceEq, Int.reduceNeg, Int.reduceToNat, hlenA, hlenB, h1', h2', k1, e1]
    exact bad 1 hR
end Go.Proofs.Ytdpdlobaabcjjaa
/-
  Lists of conversations compared; both additions give the same. No statement of the seat stands here.
-/
namespace Go.Proofs.Ytdpdlobaabcjjaa
open Go Go.Am
set_option maxRecDepth 4000
set_option linter.unusedSimpArgs false
set_option linter.unusedVariables false

theorem fn19 (H : Hp) (s1 s2 : V) (l : List Sm) (hs1 : Sl H s1 11 (l.map smC)) (hs2 : Sl H s2 11 (l.map smC)) (hn : l.length ≤ 2000) : callL Try.prog pr 19 [s1, s2] H = some (.bool true, H) := by
  have hl : (l.map smC).length = l.length := List.length_map _
  have hlenA := fun H' => hs1.len (P := Try.prog) (H' := H') s40
  have hlenB := fun H' => hs2.len (P := Try.prog) (H' := H') s37
  rw [hl] at hlenA hlenB
  refine flat_of (run19 (Nat.le_of_ble_eq_true rfl) ?_) rfl rfl
  simp (disch := omega) only [c19, r19_0, r19_1, r19_3, rs19, ↓reduceIte, go_sem, Nat.reduceLT, Nat.reduceEqDiff, Nat.reduceAdd, Nat.reduceMul, Nat.reduceLeDiff, Int.reduceLT, Int.reduceLE, Int.reduceEq, Int.reduceNeg, Int.reduceToNat, hlenA, hlenB, eq_self]
  refine Wp_loop (fun m T D H' => ∃ i, m = l.length - i ∧ i ≤ l.length ∧ D = [] ∧ H' = H ∧ get T 0 = s1 ∧ get T 1 = s2 ∧ get T 5 = .int .i64 i) ?_ l.length _ _ _ ?_
  · rintro m T D H' ⟨i, rfl, hi, rfl, rfl, t0, t1, t5⟩
    by_cases hlt : i < l.length
    · have hlt' : (i : Int) < l.length := by omega
      obtain ⟨x, hx⟩ : ∃ x, l[i]? = some x := ⟨_, List.getElem?_eq_getElem hlt⟩
      have hx' : (l.map smC)[i]? = some (smC x) := by rw [List.getElem?_map, hx]; rfl
      have hi1 := fun k => hs1.idx (P := Try.prog) (k := k) s40 (i := i) (by omega)
      have hi2 := fun k => hs2.idx (P := Try.prog) (k := k) s37 (i := i) (by omega)
      have ha1 := hs1.agg (P := Try.prog) g50 z50 hx'
      have ha2 := hs2.agg (P := Try.prog) g80 z80 hx'
      simp (disch := omega) only [l19_8, r19_4, r19_5, r19_7, ↓reduceIte, go_sem, Nat.reduceLT, Nat.reduceEqDiff, Nat.reduceAdd, Nat.reduceMul, Nat.reduceLeDiff, Int.reduceLT, Int.reduceLE, Int.reduceEq, Int.reduceNeg, Int.reduceToNat, t0, t1, t5, hlt', hlenA, hi1, hi2, ha1, ha2, eq_self, IntWalk.i64_in]
      exact ⟨_, by omega, i + 1, rfl, hlt, rfl⟩
    · obtain rfl : i = l.length := by omega
      simp (disch := omega) only [l19_8, r19_4, r19_9, rs19, ↓reduceIte, go_sem, Nat.reduceLT, Nat.reduceEqDiff, Nat.reduceAdd, Nat.reduceMul, Nat.reduceLeDiff, Int.reduceLT, Int.reduceLE, Int.reduceEq, Int.reduceNeg, Int.reduceToNat, t0, t1, t5, hlenA, Int.lt_irrefl]
      exact ⟨[], by simp⟩
  · exact ⟨0, by simp [go_sem]⟩

theorem findI_ge {α : Type} (p : α → Bool) : ∀ (xs : List α) (n : Int), findI p xs n = -1 ∨ n ≤ findI p xs n
  | [], _ => .inl rfl
  | x :: xs, n => by
    unfold findI
    split
    · exact .inr (Int.le_refl _)
    · rcases findI_ge p xs (n + 1) with h | h
      · exact .inl h
      · exact .inr (by omega)
theorem findI_at {α : Type} (p : α → Bool) : ∀ (xs : List α) (i : Nat) (x : α) (n : Int), 0 ≤ n → xs[i]? = some x → p x = true → (findI p xs n = n + i ↔ (xs.take i).any p = false)
  | [], i, x, n, _, h, _ => by simp at h
  | y :: xs, 0, x, n, _, h, hp => by
    obtain rfl : y = x := by simpa using h
    simp [findI, hp]
  | y :: xs, i + 1, x, n, hn, h, hp => by
    unfold findI
    by_cases hy : p y = true
    · rw [if_pos hy]
      simp only [List.take_succ_cons, List.any_cons, hy, Bool.true_or]
      constructor
      · intro h; omega
      · intro h; simp at h
    · rw [if_neg hy]
      rw [Bool.not_eq_true] at hy
      have ih := findI_at p xs i x (n + 1) (by omega) (by simpa using h) hp
      simp only [List.take_succ_cons, List.any_cons, hy, Bool.false_or]
      rw [← ih]
      constructor <;> intro h <;> omega
theorem findI_eq {α : Type} (p : α → Bool) : ∀ (xs : List α) (n : Int) (j : Nat), 0 ≤ n → findI p xs n = n + j → ∃ x, xs[j]? = some x ∧ p x = true
  | [], n, j, hn, h => by simp [findI] at h; omega
  | y :: xs, n, j, hn, h => by
    unfold findI at h
    split at h
    · rename_i hy
      obtain rfl : j = 0 := by omega
      exact ⟨y, rfl, hy⟩
    · rcases findI_ge p xs (n + 1) with h' | h'
      · omega
      · obtain ⟨x, h1, h2⟩ := findI_eq p xs (n + 1) (j - 1) (by omega) (by omega)
        refine ⟨x, ?_, h2⟩
        obtain ⟨k, rfl⟩ : ∃ k, j = k + 1 := ⟨j - 1, by omega⟩
        simpa using h1
theorem findS_key {a : List Sm} {k : Key} {j : Nat} (h : findS a k = (j : Int)) : ∃ x, a[j]? = some x ∧ keyOf x = k := by
  obtain ⟨x, h1, h2⟩ := findI_eq (fun x => keyEq (keyOf x) k) a 0 j (Int.le_refl _) (by rw [Int.zero_add]; exact h)
  exact ⟨x, h1, (keyEq_iff _ _).1 h2⟩
theorem keyEq_dec (k l : Key) : keyEq k l = decide (k = l) := by
  by_cases h : k = l
  · rw [(keyEq_iff k l).2 h]; simp [h]
  · have : keyEq k l = false := by
      rw [← Bool.not_eq_true]
      exact fun e => h ((keyEq_iff k l).1 e)
    simp [this, h]
theorem okAt_eq (l : List Sm) (i : Nat) : okAt l i = okAt2 l i := by
  unfold okAt okAt2
  cases h : l[i]? with
  | none => rfl
  | some s =>
    have := findI_at (fun x => keyEq (keyOf x) (keyOf s)) l i s 0 (Int.le_refl _) h ((keyEq_iff _ _).2 rfl)
    rw [Int.zero_add] at this
    simp only [isSumB]
    rw [Bool.and_assoc]
    congr 2
    have e : ((l.take i).any fun x => decide (keyOf x = keyOf s)) = ((l.take i).any fun x => keyEq (keyOf x) (keyOf s)) := by
      congr 1
      funext x
      rw [keyEq_dec]
    rw [e]
    by_cases hf : findS l (keyOf s) = (i : Int)
    · rw [this.1 hf]; simp [hf]
    · have : ((l.take i).any fun x => keyEq (keyOf x) (keyOf s)) = true := by
        rw [← Bool.not_eq_false]
        exact fun h => hf (this.2 h)
      rw [this]; simp [hf]
theorem okAll_eq (l : List Sm) (n : Nat) : okAll l n = okTo l n := by
  unfold okAll okTo
  rw [show okAt l = okAt2 l from funext (okAt_eq l)]
theorem okTo_all {l : List Sm} (h : okTo l l.length = true) : (∀ s ∈ l, isSumB s = true) ∧ l.Pairwise fun x y => keyOf x ≠ keyOf y := by
  unfold okTo at h
  rw [List.all_eq_true] at h
  have hi : ∀ (i : Nat) (hi : i < l.length), isSumB l[i] = true ∧ ∀ x ∈ l.take i, keyOf x ≠ keyOf l[i] := by
    intro i hi
    have := h i (by simpa using hi)
    unfold okAt2 at this
    rw [List.getElem?_eq_getElem hi] at this
    simp only [Bool.and_eq_true, Bool.not_eq_true', List.any_eq_false, decide_eq_true_eq] at this
    exact ⟨this.1, fun x hx => this.2 x hx⟩
  refine ⟨fun s hs => ?_, ?_⟩
  · obtain ⟨i, h1, rfl⟩ := List.mem_iff_getElem.1 hs
    exact (hi i h1).1
  · rw [List.pairwise_iff_getElem]
    intro i j h1 h2 hij
    exact (hi j h2).2 _ (List.mem_take_iff_getElem.2 ⟨i, by omega, rfl⟩)
theorem sum_good {x : Sm} (h : isSumB x = true) : good4 x = true := by
  simp only [isSumB, numsOk, nums, List.all_cons, Bool.and_eq_true] at h
  simp [good4, h]
theorem add_good {x y : Sm} (hx : isSumB x = true) (hy : isSumB y = true) : isSumB (addS x y) = good4 (addS x y) := by
  simp only [isSumB, numsOk, nums, endsOk, List.all_cons, List.all_nil, Bool.and_true, Bool.and_eq_true] at hx hy
  have h1 : inB (addS x y).first 4503599627370496 = true := by
    show inB (if y.first < x.first then y.first else x.first) _ = true
    split
    · exact hy.1.2.2.2.2.2.2.2.2.2.1
    · exact hx.1.2.2.2.2.2.2.2.2.2.1
  have h2 : inB (addS x y).last 4503599627370496 = true := by
    show inB (if x.last < y.last then y.last else x.last) _ = true
    split
    · exact hy.1.2.2.2.2.2.2.2.2.2.2
    · exact hx.1.2.2.2.2.2.2.2.2.2.2
  unfold isSumB numsOk nums endsOk good4
  simp only [List.all_cons, List.all_nil, Bool.and_true, h1, h2]
  have e1 : (addS x y).a = x.a := rfl
  have e2 : (addS x y).ap = x.ap := rfl
  have e3 : (addS x y).b = x.b := rfl
  have e4 : (addS x y).bp = x.bp := rfl
  have e5 : (addS x y).proto = x.proto := rfl
  rw [e1, e2, e3, e4, e5, hx.1.1, hx.1.2.1, hx.1.2.2.1, hx.1.2.2.2.1, hx.1.2.2.2.2.1, hx.2]
  simp
theorem addR_stay {a : List Sm} {i : Nat} : ∀ {ys out : List Sm} {x : Sm}, out[i]? = some x → (∀ y ∈ ys, findS a (keyOf y) ≠ (i : Int)) → (addR a ys out)[i]? = some x
  | [], out, x, h, _ => h
  | y :: ys, out, x, h, hy => by
    show (addR a ys (addStep a out y))[i]? = some x
    have hi : i < out.length := (List.getElem?_eq_some_iff.1 h).1
    refine addR_stay ?_ fun z hz => hy z (by simp [hz])
    unfold addStep
    split
    · rw [List.getElem?_append_left hi]; exact h
    · rename_i hneg
      have := hy y (by simp)
      split
      · rw [List.getElem?_set_ne (by omega)]; exact h
      · exact h
theorem add_same {a : List Sm} : ∀ (ys out : List Sm), (∀ y ∈ ys, isSumB y = true) → (ys.Pairwise fun x y => keyOf x ≠ keyOf y) → (∀ x ∈ out, isSumB x = true) → a.length ≤ out.length → (match addP a ys out with
    | some o => (o, (0 : Int))
    | none => ([], 10)) = if (addR a ys out).all good4 = true then (addR a ys out, 0) else ([], 10)
  | [], out, _, _, ho, _ => by
    have : out.all good4 = true := List.all_eq_true.2 fun x hx => sum_good (ho x hx)
    simp [addP, addR, this]
  | y :: ys, out, hy, hp, ho, hl => by
    have hp' := List.pairwise_cons.1 hp
    have e : addR a (y :: ys) out = addR a ys (addStep a out y) := rfl
    rw [e]
    unfold addP addStep
    rcases findS_cases a (keyOf y) with hf | ⟨j, hj, hf⟩
    · have hneg : findS a (keyOf y) < 0 := by omega
      simp only [if_pos hneg]
      refine add_same ys _ (fun z hz => hy z (by simp [hz])) hp'.2 (fun x hx => ?_) (by simp; omega)
      rcases List.mem_append.1 hx with h | h
      · exact ho x h
      · obtain rfl := List.mem_singleton.1 h
        exact hy x (by simp)
    · obtain ⟨x, hx⟩ : ∃ x, out[j]? = some x := ⟨_, List.getElem?_eq_getElem (by omega)⟩
      have hneg : ¬ (j : Int) < 0 := by omega
      simp only [hf, if_neg hneg, Int.toNat_natCast, hx]
      have hxs := ho x (List.mem_of_getElem? hx)
      by_cases hs : isSumB (addS x y) = true
      · rw [if_pos hs]
        refine add_same ys _ (fun z hz => hy z (by simp [hz])) hp'.2 (fun z hz => ?_) (by simpa using hl)
        rcases List.mem_or_eq_of_mem_set hz with h | h
        · exact ho z h
        · rw [h]; exact hs
      · rw [if_neg hs]
        rw [Bool.not_eq_true, add_good hxs (hy y (by simp))] at hs
        have hst := addR_stay (a := a) (i := j) (ys := ys) (out := out.set j (addS x y)) (x := addS x y) (by rw [List.getElem?_set_self (by omega)]) fun z hz h => by
          obtain ⟨w, h1, h2⟩ := findS_key h
          obtain ⟨w', h3, h4⟩ := findS_key hf
          rw [h1] at h3
          injection h3 with h3
          subst h3
          exact hp'.1 z hz (h4.symm.trans h2)
        have : (addR a ys (out.set j (addS x y))).all good4 = false := List.all_eq_false.2 ⟨_, List.mem_of_getElem? hst, by simp [hs]⟩
        rw [this]; rfl
theorem res_same {a b : List Sm} (ha : a.length ≤ 200) (hb : b.length ≤ 200) : resP a b = resR a b := by
  unfold resP resR
  rw [if_neg (by omega : ¬ (200 < a.length ∨ 200 < b.length))]
  have ea : askS a = if okTo a a.length = true then 0 else 1 := by
    unfold askS
    rw [if_neg (by omega), okAll_eq]
  have eb : askS b = if okTo b b.length = true then 0 else 1 := by
    unfold askS
    rw [if_neg (by omega), okAll_eq]
  have es : sumsE [a, b] = if okTo a a.length = true ∧ okTo b b.length = true then 0 else 1 := by
    unfold sumsE
    rw [if_neg (by simp; omega)]
    simp
  rw [ea, eb, es]
  by_cases h1 : okTo a a.length = true
  · by_cases h2 : okTo b b.length = true
    · simp only [h1, h2, and_self, if_true]
      obtain ⟨a1, -⟩ := okTo_all h1
      obtain ⟨b1, b2⟩ := okTo_all h2
      exact add_same b a b1 b2 a1 (Nat.le_refl _)
    · simp [h1, h2]
  · simp [h1]
end Go.Proofs.Ytdpdlobaabcjjaa
/-
  The abstract machine, part ZI: two new slices told at once. No statement of the seat stands here.
-/
namespace Go.Am
open Go

section
variable {P : Program} {H : Hp}
theorem fresh_two {n : Nat} {a g b k : Nat} (h1 : n ≤ a) (h2 : n ≤ b) (h : a ≠ b) : fresh n [(a, g), (b, k)] = [(a, g), (b, k)] := by
  unfold fresh
  rw [List.filter_cons_of_pos (by simpa using h1), List.filter_cons_of_pos (by simpa using h2), List.filter_nil]
  rw [List.eraseDups_cons, List.filter_cons_of_pos (by simp; intro e; exact absurd e.symm h), List.filter_nil]
  rfl
/-- Two slices that were made by the call, ahead of plain values. -/
theorem own_gcP {H' : Hp} {v w : V} {sz sz2 : Nat} {cs cs2 : List V} (ho : Own H' v sz cs) (ho2 : Own H' w sz2 cs2) (hpre : ∀ id, id < H.length → H'[id]? = H[id]?) (hfr : ∀ id, At v id → H.length ≤ id) (hfr2 : ∀ id, At w id → H.length ≤ id) (hd : ∀ id, At v id → ¬ At w id) (hleaf : cs.all V.leaf = true) (hleaf2 : cs2.all V.leaf = true) {ws : List V} (hw : ws.all V.leaf = true) :
    ∃ v2 w2 H2, gcC H (.tup (v :: w :: ws), H') = (.tup (v2 :: w2 :: ws), H2) ∧ Own H2 v2 sz cs ∧ Own H2 w2 sz2 cs2 ∧ (∃ G, H2 = H ++ G) ∧ (∀ id, At v2 id → H.length ≤ id) ∧ (∀ id, At w2 id → H.length ≤ id) := by
  obtain ⟨h4, h5, h6⟩ := leaf_refs hw
  have hp : H'.take H.length = H := by
    obtain ⟨G, rfl⟩ := pre_of hpre
    simp
  rcases ho with ⟨rfl, rfl⟩ | ⟨id, g, n, rfl, h1, h2, h3⟩
  · rcases ho2 with ⟨rfl, rfl⟩ | ⟨id, g, n, rfl, h1, h2, h3⟩
    · refine ⟨.nilslice, .nilslice, H, gc_old hp ?_ ?_, own_nil _ _, own_nil _ _, ⟨[], by simp⟩, hfr, hfr2⟩
      · simp only [fineR, List.all_cons, h5, Bool.and_true]; rfl
      · simp only [refR, List.flatMap_cons, h4, List.append_nil]; simp [refA, refB]
    · have hid : H.length ≤ id := hfr2 id ⟨_, _, _, _, _, rfl⟩
      have hm : moveTo H.length [(id, g)] id g = (H.length, 0) := by
        unfold moveTo
        rw [if_neg (by omega)]
        simp
      refine ⟨.nilslice, .slice H.length 0 0 n sz2 .full, H ++ [.row 0 cs2 true], ?_, own_nil _ _, .inr ⟨H.length, 0, n, rfl, h1, h2, by simp⟩, ⟨_, rfl⟩, hfr, ?_⟩
      · rw [gc_one hp ?_ hid h3 hleaf2 ?_]
        · simp only [renR, List.map_cons, h6]
          simp only [renA, renB, hm]
        · simp only [fineR, List.all_cons, h5, Bool.and_true]; rfl
        · simp only [refR, List.flatMap_cons, h4, List.append_nil]
          exact fresh_of hid
      · rintro id' ⟨g', o, n', z, cp, e⟩
        injection e with e1
        omega
  · have hid : H.length ≤ id := hfr id ⟨_, _, _, _, _, rfl⟩
    rcases ho2 with ⟨rfl, rfl⟩ | ⟨id', g', n', rfl, k1, k2, k3⟩
    · have hm : moveTo H.length [(id, g)] id g = (H.length, 0) := by
        unfold moveTo
        rw [if_neg (by omega)]
        simp
      refine ⟨.slice H.length 0 0 n sz .full, .nilslice, H ++ [.row 0 cs true], ?_, .inr ⟨H.length, 0, n, rfl, h1, h2, by simp⟩, own_nil _ _, ⟨_, rfl⟩, ?_, hfr2⟩
      · rw [gc_one hp ?_ hid h3 hleaf ?_]
        · simp only [renR, List.map_cons, h6]
          simp only [renA, renB, hm]
        · simp only [fineR, List.all_cons, h5, Bool.and_true]; rfl
        · simp only [refR, List.flatMap_cons, h4, List.append_nil]
          exact fresh_of hid
      · rintro id' ⟨g', o, n', z, cp, e⟩
        injection e with e1
        omega
    · have hid' : H.length ≤ id' := hfr2 id' ⟨_, _, _, _, _, rfl⟩
      have hne : id ≠ id' := fun e => hd id ⟨_, _, _, _, _, rfl⟩ (by rw [e]; exact ⟨_, _, _, _, _, rfl⟩)
      have hm : moveTo H.length [(id, g), (id', g')] id g = (H.length, 0) := by
        unfold moveTo
        rw [if_neg (by omega)]
        simp
      have hm' : moveTo H.length [(id, g), (id', g')] id' g' = (H.length + 1, 0) := by
        unfold moveTo
        rw [if_neg (by omega)]
        have : ((id, g) == (id', g')) = false := by simp [hne]
        simp [List.idxOf_cons, this]
      have ek : keepRow H H' (id, g) = some cs := by
        unfold keepRow
        rw [if_pos hid]
        simp only [h3]
        simp only [hleaf, and_self, if_true]
      have ek' : keepRow H H' (id', g') = some cs2 := by
        unfold keepRow
        rw [if_pos hid']
        simp only [k3]
        simp only [hleaf2, and_self, if_true]
      have hL : fresh H.length (refR (.tup (.slice id g 0 n sz .full :: .slice id' g' 0 n' sz2 .full :: ws))) = [(id, g), (id', g')] := by
        simp only [refR, List.flatMap_cons, h4, List.append_nil]
        exact fresh_two hid hid' hne
      have hf : fineR (.tup (.slice id g 0 n sz .full :: .slice id' g' 0 n' sz2 .full :: ws)) = true := by
        simp only [fineR, List.all_cons, h5, Bool.and_true]; rfl
      refine ⟨.slice H.length 0 0 n sz .full, .slice (H.length + 1) 0 0 n' sz2 .full, H ++ [.row 0 cs true, .row 0 cs2 true], ?_, .inr ⟨H.length, 0, n, rfl, h1, h2, by simp⟩, .inr ⟨H.length + 1, 0, n', rfl, k1, k2, by simp⟩, ⟨_, rfl⟩, ?_, ?_⟩
      · unfold gcC
        rw [if_pos ⟨hp, hf⟩]
        simp only [hL, mapO, ek, ek']
        simp only [List.map_cons, List.map_nil, Option.bind_some, Option.map_some]
        rw [if_pos (by simp [hne])]
        simp only [renR, List.map_cons, h6, renA, renB, hm, hm']
      · rintro i ⟨_, _, _, _, _, e⟩
        injection e with e1
        omega
      · rintro i ⟨_, _, _, _, _, e⟩
        injection e with e1
        omega
def RetOwnP (H : Hp) (sz sz2 : Nat) (cs cs2 : List V) (ws : List V) (v : V) (H' : Hp) : Prop := ∃ a b, v = .tup (a :: b :: ws) ∧ Own H' a sz cs ∧ Own H' b sz2 cs2 ∧ (∀ id, id < H.length → H'[id]? = H[id]?) ∧ (∀ id, At a id → H.length ≤ id) ∧ (∀ id, At b id → H.length ≤ id) ∧ ∀ id, At a id → ¬ At b id
theorem ownP_of {k : Nat} {cl : CallT} {args : List V} {sz sz2 : Nat} {cs cs2 ws : List V} (h : ∃ v' H', RetOwnP H sz sz2 cs cs2 ws v' H' ∧ cl k args H = some (gcC H (v', H'))) (hl : cs.all V.leaf = true) (hl2 : cs2.all V.leaf = true) (hw : ws.all V.leaf = true) :
    ∃ v w H2, cl k args H = some (.tup (v :: w :: ws), H2) ∧ Own H2 v sz cs ∧ Own H2 w sz2 cs2 ∧ (∃ G, H2 = H ++ G) ∧ (∀ id, At v id → H.length ≤ id) ∧ (∀ id, At w id → H.length ≤ id) := by
  obtain ⟨v', H', ⟨a, b, rfl, h1, h2, h3, h4, h5, h6⟩, h7⟩ := h
  obtain ⟨v2, w2, H2, e, r⟩ := own_gcP h1 h2 h3 h4 h5 h6 hl hl2 hw
  exact ⟨v2, w2, H2, by rw [h7, e], r⟩
end
end Go.Am
/-
  What this seat's program gives to the abstract machine: its types, its functions' code in short form (printed by a tool). No statement of the seat stands here.
-/
namespace Go.Proofs.Ytdpdlobaabcjjaa
open Go Go.Am

@[go_sem] theorem z78 : szOf Try.prog 78 = some 1 := by kernel_rfl
@[go_sem] theorem y78 : bytesOf' Try.prog 78 = some 8 := by kernel_rfl
@[go_sem] theorem g78 : aggT Try.prog 78 = some false := by kernel_rfl
@[go_sem] theorem o78 : zeroV Try.prog 78 = some .nilfn := by kernel_rfl
@[go_sem] theorem u94 : Try.prog.underlying 94 = some (.slice 88) := by kernel_rfl
@[go_sem] theorem z94 : szOf Try.prog 94 = some 1 := by kernel_rfl
@[go_sem] theorem y94 : bytesOf' Try.prog 94 = some 24 := by kernel_rfl
@[go_sem] theorem g94 : aggT Try.prog 94 = some false := by kernel_rfl
@[go_sem] theorem o94 : zeroV Try.prog 94 = some .nilslice := by kernel_rfl
theorem s94 : sliceT Try.prog 94 5 = true := by kernel_rfl
@[go_sem] theorem i94 {id g off n : Nat} {cp : Cap} {k : IntKind} {j : Int} (hj : 0 ≤ j ∧ j < n) : indexAddrV Try.prog 94 (.slice id g off n 5 cp) (.int k j) = some (.ptr id g (off + j.toNat * 5)) := ia_slice (by kernel_rfl) hj
@[go_sem] theorem n94 {H : Hp} (id g off n : Nat) (cp : Cap) : lenV Try.prog 94 H (.slice id g off n 5 cp) = some (.int .i64 n) := len_slice (sz := 5) (by kernel_rfl) id g off n 5 cp
@[go_sem] theorem m94 {H : Hp} : lenV Try.prog 94 H .nilslice = some (.int .i64 0) := len_nilslice (sz := 5) (by kernel_rfl)
@[go_sem] theorem u131 : Try.prog.underlying 131 = some (.map 88 3) := by kernel_rfl
@[go_sem] theorem z131 : szOf Try.prog 131 = some 1 := by kernel_rfl
@[go_sem] theorem y131 : bytesOf' Try.prog 131 = some 8 := by kernel_rfl
@[go_sem] theorem g131 : aggT Try.prog 131 = some false := by kernel_rfl
@[go_sem] theorem o131 : zeroV Try.prog 131 = some .nilmap := by kernel_rfl
@[go_sem] theorem e50 (xs ys : List V) : binV Try.prog .eql 50 (.agg xs) (.agg ys) = if ckOks [.int .i64, .int .i64, .int .i64, .int .i64, .int .i64, .int .i64, .int .i64, .int .i64, .int .i64, .int .i64, .int .i64] xs = true ∧ ckOks [.int .i64, .int .i64, .int .i64, .int .i64, .int .i64, .int .i64, .int .i64, .int .i64, .int .i64, .int .i64, .int .i64] ys = true then some (.bool (eqCells xs ys)) else none := agg_eq (ks := [.int .i64, .int .i64, .int .i64, .int .i64, .int .i64, .int .i64, .int .i64, .int .i64, .int .i64, .int .i64, .int .i64]) (by kernel_rfl) g50 z50 xs ys
@[go_sem] theorem ne50 (xs ys : List V) : binV Try.prog .neq 50 (.agg xs) (.agg ys) = if ckOks [.int .i64, .int .i64, .int .i64, .int .i64, .int .i64, .int .i64, .int .i64, .int .i64, .int .i64, .int .i64, .int .i64] xs = true ∧ ckOks [.int .i64, .int .i64, .int .i64, .int .i64, .int .i64, .int .i64, .int .i64, .int .i64, .int .i64, .int .i64, .int .i64] ys = true then some (.bool (!eqCells xs ys)) else none := agg_ne (ks := [.int .i64, .int .i64, .int .i64, .int .i64, .int .i64, .int .i64, .int .i64, .int .i64, .int .i64, .int .i64, .int .i64]) (by kernel_rfl) g50 z50 xs ys
@[go_sem] theorem w34_34 {H : Hp} (s x : V) : builtinV Try.prog .append #[34, 34] [s, x] H = appOf 7 56 H s x := app_eq (by kernel_rfl) s x
@[go_sem] theorem w94_94 {H : Hp} (s x : V) : builtinV Try.prog .append #[94, 94] [s, x] H = appOf 5 40 H s x := app_eq (by kernel_rfl) s x
@[go_sem] theorem w22_22 {H : Hp} (s x : V) : builtinV Try.prog .append #[22, 22] [s, x] H = appOf 1 8 H s x := app_eq (by kernel_rfl) s x
@[go_sem] theorem q22 {H : Hp} (v : V) : buildSliceV Try.prog 22 1 [(0, v)] H = if v.cells.all V.isCell = true ∧ v.cells.length = 1 then some (.slice H.length 0 0 1 1 .full, H ++ [.row 0 v.cells true]) else none := bs_if u22 z3 o3 rfl (by decide) (by decide) v
@[go_sem] theorem q94 {H : Hp} (v : V) : buildSliceV Try.prog 94 1 [(0, v)] H = if v.cells.all V.isCell = true ∧ v.cells.length = 5 then some (.slice H.length 0 0 1 5 .full, H ++ [.row 0 v.cells true]) else none := bs_if u94 z88 o88 rfl (by decide) (by decide) v
def r5_0 : List Co := [
  ⟨some 4, .assign (.const (.bool false)), none, false, false, []⟩]
def r5_1 : List Co := [
  ⟨some 14, .move (.tmp 0), none, false, false, []⟩,
  ⟨some 15, .call ⟨.builtin .len, #[(.tmp 14)], #[34]⟩, none, false, false, []⟩,
  ⟨some 16, .binOp .gtr 3 (.tmp 15) (.const (.int .i64 800)) 3, none, false, false, []⟩,
  ⟨some 17, .move (.tmp 16), none, false, false, []⟩,
  ⟨some 18, .move (.tmp 1), some (17, false), false, false, []⟩,
  ⟨some 19, .call ⟨.builtin .len, #[(.tmp 18)], #[34]⟩, some (17, false), false, false, []⟩,
  ⟨some 20, .binOp .gtr 3 (.tmp 19) (.const (.int .i64 800)) 3, some (17, false), false, false, []⟩,
  ⟨some 21, .pick (.tmp 17) (.const (.bool true)) (.tmp 20), none, false, false, []⟩]
def r5_2 : List Co := [
  ⟨some 22, .call ⟨.value (.func 10), #[], #[]⟩, none, false, false, []⟩,
  ⟨some 4, .assign (.tmp 22), none, false, false, []⟩]
def r5_3 : List Co := [
  ⟨some 24, .move (.tmp 0), none, false, false, []⟩,
  ⟨some 25, .call ⟨.builtin .append, #[(.const (.slice none 0 0)), (.tmp 24)], #[34, 34]⟩, none, false, false, []⟩,
  ⟨some 26, .move (.tmp 1), none, false, false, []⟩,
  ⟨some 27, .call ⟨.builtin .append, #[(.tmp 25), (.tmp 26)], #[34, 34]⟩, none, false, false, []⟩,
  ⟨some 28, .call ⟨.value (.func 20), #[(.tmp 27)], #[34]⟩, none, false, false, []⟩,
  ⟨some 23, .move (.tmp 28), none, false, false, []⟩,
  ⟨some 29, .extract (.tmp 23) 0, none, false, false, []⟩,
  ⟨some 30, .extract (.tmp 23) 1, none, false, false, []⟩,
  ⟨some 5, .assign (.tmp 29), none, false, false, []⟩,
  ⟨some 6, .assign (.tmp 30), none, false, false, []⟩]
def r5_4 : List Co := [
  ⟨some 32, .move (.tmp 0), none, false, false, []⟩,
  ⟨some 33, .call ⟨.value (.func 20), #[(.tmp 32)], #[34]⟩, none, false, false, []⟩,
  ⟨some 31, .move (.tmp 33), none, false, false, []⟩,
  ⟨some 34, .extract (.tmp 31) 0, none, false, false, []⟩,
  ⟨some 35, .extract (.tmp 31) 1, none, false, false, []⟩,
  ⟨some 7, .assign (.tmp 34), none, false, false, []⟩,
  ⟨some 8, .assign (.tmp 35), none, false, false, []⟩]
def r5_5 : List Co := [
  ⟨some 37, .move (.tmp 1), none, false, false, []⟩,
  ⟨some 38, .call ⟨.value (.func 20), #[(.tmp 37)], #[34]⟩, none, false, false, []⟩,
  ⟨some 36, .move (.tmp 38), none, false, false, []⟩,
  ⟨some 39, .extract (.tmp 36) 0, none, false, false, []⟩,
  ⟨some 40, .extract (.tmp 36) 1, none, false, false, []⟩,
  ⟨some 9, .assign (.tmp 39), none, false, false, []⟩,
  ⟨some 10, .assign (.tmp 40), none, false, false, []⟩]
def r5_6 : List Co := [
  ⟨some 41, .move (.tmp 6), none, false, false, []⟩,
  ⟨some 42, .binOp .neq 29 (.tmp 41) (.const (.int .i64 0)) 29, none, false, false, []⟩,
  ⟨some 43, .move (.tmp 42), none, false, false, []⟩,
  ⟨some 44, .move (.tmp 8), some (43, false), false, false, []⟩,
  ⟨some 45, .binOp .neq 29 (.tmp 44) (.const (.int .i64 0)) 29, some (43, false), false, false, []⟩,
  ⟨some 46, .pick (.tmp 43) (.const (.bool true)) (.tmp 45), none, false, false, []⟩,
  ⟨some 47, .move (.tmp 46), none, false, false, []⟩,
  ⟨some 48, .move (.tmp 10), some (47, false), false, false, []⟩,
  ⟨some 49, .binOp .neq 29 (.tmp 48) (.const (.int .i64 0)) 29, some (47, false), false, false, []⟩,
  ⟨some 50, .pick (.tmp 47) (.const (.bool true)) (.tmp 49), none, false, false, []⟩]
def r5_7 : List Co := [
  ⟨some 51, .call ⟨.value (.func 10), #[], #[]⟩, none, false, false, []⟩,
  ⟨some 4, .assign (.tmp 51), none, false, false, []⟩]
def r5_8 : List Co := [
  ⟨some 53, .move (.tmp 7), none, false, false, []⟩,
  ⟨some 54, .move (.tmp 9), none, false, false, []⟩,
  ⟨some 55, .call ⟨.value (.func 16), #[(.tmp 53), (.tmp 54)], #[40, 40]⟩, none, false, false, []⟩,
  ⟨some 52, .move (.tmp 55), none, false, false, []⟩,
  ⟨some 56, .extract (.tmp 52) 0, none, false, false, []⟩,
  ⟨some 57, .extract (.tmp 52) 1, none, false, false, []⟩,
  ⟨some 11, .assign (.tmp 56), none, false, false, []⟩,
  ⟨some 12, .assign (.tmp 57), none, false, false, []⟩]
def r5_9 : List Co := [
  ⟨some 58, .move (.tmp 12), none, false, false, []⟩,
  ⟨some 59, .binOp .neq 29 (.tmp 58) (.const (.int .i64 0)) 29, none, false, false, []⟩,
  ⟨some 60, .move (.tmp 59), none, false, false, []⟩,
  ⟨some 61, .move (.tmp 11), some (60, false), false, false, []⟩,
  ⟨some 62, .call ⟨.builtin .len, #[(.tmp 61)], #[40]⟩, some (60, false), false, false, []⟩,
  ⟨some 63, .move (.tmp 5), some (60, false), false, false, []⟩,
  ⟨some 64, .call ⟨.builtin .len, #[(.tmp 63)], #[40]⟩, some (60, false), false, false, []⟩,
  ⟨some 65, .binOp .neq 3 (.tmp 62) (.tmp 64) 3, some (60, false), false, false, []⟩,
  ⟨some 66, .pick (.tmp 60) (.const (.bool true)) (.tmp 65), none, false, false, []⟩]
def r5_10 : List Co := [
  ⟨some 4, .assign (.const (.bool false)), none, false, false, []⟩]
def r5_11 : List Co := [
  ⟨some 13, .assign (.const (.int .i64 0)), none, false, false, []⟩]
def r5_12 : List Co := [
  ⟨some 67, .move (.tmp 13), none, false, false, []⟩,
  ⟨some 68, .move (.tmp 11), none, false, false, []⟩,
  ⟨some 69, .call ⟨.builtin .len, #[(.tmp 68)], #[40]⟩, none, false, false, []⟩,
  ⟨some 70, .binOp .lss 3 (.tmp 67) (.tmp 69) 3, none, false, false, []⟩]
def r5_13 : List Co := [
  ⟨some 73, .move (.tmp 11), none, false, false, []⟩,
  ⟨some 74, .move (.tmp 13), none, false, false, []⟩,
  ⟨some 75, .indexAddr 40 (.tmp 73) (.tmp 74), none, false, false, []⟩,
  ⟨some 76, .load 50 (.tmp 75), none, false, false, []⟩,
  ⟨some 77, .move (.tmp 5), none, false, false, []⟩,
  ⟨some 78, .move (.tmp 13), none, false, false, []⟩,
  ⟨some 79, .indexAddr 40 (.tmp 77) (.tmp 78), none, false, false, []⟩,
  ⟨some 80, .load 50 (.tmp 79), none, false, false, []⟩,
  ⟨some 81, .binOp .neq 50 (.tmp 76) (.tmp 80) 50, none, false, false, []⟩]
def r5_14 : List Co := [
  ⟨some 4, .assign (.const (.bool false)), none, false, false, []⟩]
def r5_15 : List Co := [
  ⟨some 71, .move (.tmp 13), none, false, false, []⟩,
  ⟨some 72, .binOp .add 3 (.tmp 71) (.const (.int .i64 1)) 3, none, false, false, []⟩,
  ⟨some 13, .assign (.tmp 72), none, false, false, []⟩]
def l5_16 : Cc := (.seq (.seq (.reg r5_12) (.cond (.tmp 70) .skip (.exit 0))) (.seq (.block 1 (.seq (.reg r5_13) (.cond (.tmp 81) (.seq (.reg r5_14) .ret) .skip))) (.reg r5_15)))
def r5_17 : List Co := [
  ⟨some 82, .call ⟨.value (.func 10), #[], #[]⟩, none, false, false, []⟩,
  ⟨some 4, .assign (.tmp 82), none, false, false, []⟩]
/-- wireglass/wireglasslaw20.ConvParts -/
def c5 : Cc := (.seq (.reg r5_0) (.seq (.seq (.reg r5_1) (.cond (.tmp 21) (.seq (.reg r5_2) .ret) .skip)) (.seq (.reg r5_3) (.seq (.reg r5_4) (.seq (.reg r5_5) (.seq (.seq (.reg r5_6) (.cond (.tmp 50) (.seq (.reg r5_7) .ret) .skip)) (.seq (.reg r5_8) (.seq (.seq (.reg r5_9) (.cond (.tmp 66) (.seq (.reg r5_10) .ret) .skip)) (.seq (.seq (.reg r5_11) (.block 0 (.loop l5_16))) (.seq (.reg r5_17) .ret))))))))))
def r20_0 : List Co := [
  ⟨some 2, .assign (.const (.slice none 0 0)), none, false, false, []⟩,
  ⟨some 3, .assign (.const (.int .i64 0)), none, false, false, []⟩]
def r20_1 : List Co := [
  ⟨some 15, .move (.tmp 0), none, false, false, []⟩,
  ⟨some 16, .call ⟨.value (.func 26), #[(.tmp 15)], #[34]⟩, none, false, false, []⟩,
  ⟨some 4, .assign (.tmp 16), none, false, false, []⟩]
def r20_2 : List Co := [
  ⟨some 17, .move (.tmp 4), none, false, false, []⟩,
  ⟨some 18, .binOp .neq 29 (.tmp 17) (.const (.int .i64 0)) 29, none, false, false, []⟩]
def r20_3 : List Co := [
  ⟨some 19, .move (.tmp 4), none, false, false, []⟩,
  ⟨some 2, .assign (.const (.slice none 0 0)), none, false, false, []⟩,
  ⟨some 3, .assign (.tmp 19), none, false, false, []⟩]
def r20_4 : List Co := [
  ⟨some 21, .move (.tmp 0), none, false, false, []⟩,
  ⟨some 22, .call ⟨.value (.func 47), #[(.tmp 21)], #[34]⟩, none, false, false, []⟩,
  ⟨some 20, .move (.tmp 22), none, false, false, []⟩,
  ⟨some 23, .extract (.tmp 20) 0, none, false, false, []⟩,
  ⟨some 24, .extract (.tmp 20) 1, none, false, false, []⟩,
  ⟨some 5, .assign (.tmp 23), none, false, false, []⟩,
  ⟨some 6, .assign (.tmp 24), none, false, false, []⟩]
def r20_5 : List Co := [
  ⟨some 7, .assign (.const (.slice none 0 0)), none, false, false, []⟩]
def r20_6 : List Co := [
  ⟨some 25, .move (.tmp 6), none, false, false, []⟩,
  ⟨some 26, .call ⟨.builtin .len, #[(.tmp 25)], #[94]⟩, none, false, false, []⟩,
  ⟨some 27, .move (.const (.int .i64 0)), none, false, false, []⟩]
def r20_7 : List Co := [
  ⟨some 28, .binOp .lss 3 (.tmp 27) (.tmp 26) 3, none, false, false, []⟩]
def r20_8 : List Co := [
  ⟨some 29, .indexAddr 94 (.tmp 25) (.tmp 27), none, false, false, []⟩,
  ⟨some 30, .load 88 (.tmp 29), none, false, false, []⟩,
  ⟨some 9, .alloc 88, none, false, false, []⟩,
  ⟨none, .store 88 (.tmp 9) (.tmp 30), none, false, false, []⟩]
def r20_9 : List Co := [
  ⟨some 31, .move (.tmp 7), none, false, false, []⟩,
  ⟨some 32, .indexAddr 88 (.tmp 9) (.const (.int .i64 0)), none, false, false, []⟩,
  ⟨some 33, .load 3 (.tmp 32), none, false, false, []⟩,
  ⟨some 34, .indexAddr 88 (.tmp 9) (.const (.int .i64 1)), none, false, false, []⟩,
  ⟨some 35, .load 3 (.tmp 34), none, false, false, []⟩,
  ⟨some 36, .indexAddr 88 (.tmp 9) (.const (.int .i64 2)), none, false, false, []⟩,
  ⟨some 37, .load 3 (.tmp 36), none, false, false, []⟩,
  ⟨some 38, .indexAddr 88 (.tmp 9) (.const (.int .i64 3)), none, false, false, []⟩,
  ⟨some 39, .load 3 (.tmp 38), none, false, false, []⟩,
  ⟨some 40, .indexAddr 88 (.tmp 9) (.const (.int .i64 4)), none, false, false, []⟩,
  ⟨some 41, .load 3 (.tmp 40), none, false, false, []⟩,
  ⟨some 42, .build 50 #[(0, (.tmp 33)), (1, (.tmp 35)), (2, (.tmp 37)), (3, (.tmp 39)), (4, (.tmp 41)), (9, (.const (.int .i64 1000000000000000))), (10, (.const (.int .i64 0)))], none, false, false, []⟩,
  ⟨some 43, .buildSlice 40 1 #[(0, (.tmp 42))], none, false, false, []⟩,
  ⟨some 44, .call ⟨.builtin .append, #[(.tmp 31), (.tmp 43)], #[40, 40]⟩, none, false, false, []⟩,
  ⟨some 7, .assign (.tmp 44), none, false, false, []⟩]
def r20_10 : List Co := [
  ⟨some 45, .binOp .add 3 (.tmp 27) (.const (.int .i64 1)) 3, none, false, false, []⟩,
  ⟨some 27, .move (.tmp 45), none, false, false, []⟩]
def l20_11 : Cc := (.seq (.reg r20_7) (.seq (.cond (.tmp 28) .skip (.exit 0)) (.seq (.block 1 (.seq (.reg r20_8) (.reg r20_9))) (.reg r20_10))))
def r20_12 : List Co := [
  ⟨some 46, .move (.tmp 0), none, false, false, []⟩,
  ⟨some 47, .call ⟨.builtin .len, #[(.tmp 46)], #[34]⟩, none, false, false, []⟩,
  ⟨some 48, .move (.const (.int .i64 0)), none, false, false, []⟩]
def r20_13 : List Co := [
  ⟨some 49, .binOp .lss 3 (.tmp 48) (.tmp 47) 3, none, false, false, []⟩]
def r20_14 : List Co := [
  ⟨some 50, .move (.tmp 48), none, false, false, []⟩,
  ⟨some 51, .indexAddr 34 (.tmp 46) (.tmp 48), none, false, false, []⟩,
  ⟨some 52, .load 58 (.tmp 51), none, false, false, []⟩,
  ⟨some 11, .alloc 58, none, false, false, []⟩,
  ⟨some 10, .assign (.tmp 50), none, false, false, []⟩,
  ⟨none, .store 58 (.tmp 11) (.tmp 52), none, false, false, []⟩]
def r20_15 : List Co := [
  ⟨some 53, .move (.tmp 7), none, false, false, []⟩,
  ⟨some 54, .move (.tmp 5), none, false, false, []⟩,
  ⟨some 55, .move (.tmp 10), none, false, false, []⟩,
  ⟨some 56, .indexAddr 22 (.tmp 54) (.tmp 55), none, false, false, []⟩,
  ⟨some 57, .load 3 (.tmp 56), none, false, false, []⟩,
  ⟨some 58, .indexAddr 40 (.tmp 53) (.tmp 57), none, false, false, []⟩,
  ⟨some 12, .assign (.tmp 58), none, false, false, []⟩]
def r20_16 : List Co := [
  ⟨some 59, .move (.tmp 12), none, false, false, []⟩,
  ⟨some 60, .move (.tmp 12), none, false, false, []⟩,
  ⟨some 61, .move (.tmp 12), none, false, false, []⟩,
  ⟨some 62, .nilCheck (.tmp 61), none, false, false, []⟩,
  ⟨some 63, .fieldAddr 50 (.tmp 62) 9, none, false, false, []⟩,
  ⟨some 64, .load 3 (.tmp 63), none, false, false, []⟩,
  ⟨some 65, .fieldAddr 58 (.tmp 11) 0, none, false, false, []⟩,
  ⟨some 66, .load 3 (.tmp 65), none, false, false, []⟩,
  ⟨some 67, .call ⟨.builtin .min, #[(.tmp 64), (.tmp 66)], #[3, 3]⟩, none, false, false, []⟩,
  ⟨some 68, .move (.tmp 12), none, false, false, []⟩,
  ⟨some 69, .nilCheck (.tmp 68), none, false, false, []⟩,
  ⟨some 70, .fieldAddr 50 (.tmp 69) 10, none, false, false, []⟩,
  ⟨some 71, .load 3 (.tmp 70), none, false, false, []⟩,
  ⟨some 72, .fieldAddr 58 (.tmp 11) 0, none, false, false, []⟩,
  ⟨some 73, .load 3 (.tmp 72), none, false, false, []⟩,
  ⟨some 74, .call ⟨.builtin .max, #[(.tmp 71), (.tmp 73)], #[3, 3]⟩, none, false, false, []⟩,
  ⟨some 75, .nilCheck (.tmp 59), none, false, false, []⟩,
  ⟨some 76, .fieldAddr 50 (.tmp 75) 9, none, false, false, []⟩,
  ⟨none, .store 3 (.tmp 76) (.tmp 67), none, false, false, [(none, .load 3 (.tmp 72))]⟩,
  ⟨some 77, .nilCheck (.tmp 60), none, false, false, []⟩,
  ⟨some 78, .fieldAddr 50 (.tmp 77) 10, none, false, false, []⟩,
  ⟨none, .store 3 (.tmp 78) (.tmp 74), none, false, false, []⟩]
def r20_17 : List Co := [
  ⟨some 80, .load 58 (.tmp 11), none, false, false, []⟩,
  ⟨some 81, .call ⟨.value (.func 48), #[(.tmp 80)], #[58]⟩, none, false, false, []⟩,
  ⟨some 79, .move (.tmp 81), none, false, false, []⟩,
  ⟨some 82, .extract (.tmp 79) 0, none, false, false, []⟩,
  ⟨some 83, .extract (.tmp 79) 1, none, false, false, []⟩,
  ⟨some 13, .alloc 88, none, false, false, []⟩,
  ⟨none, .store 88 (.tmp 13) (.tmp 82), none, false, false, []⟩,
  ⟨some 14, .assign (.tmp 83), none, false, false, []⟩]
def r20_18 : List Co := [
  ⟨some 84, .move (.tmp 14), none, false, false, []⟩]
def r20_19 : List Co := [
  ⟨some 85, .move (.tmp 12), none, false, false, []⟩,
  ⟨some 86, .nilCheck (.tmp 85), none, false, false, []⟩,
  ⟨some 87, .fieldAddr 50 (.tmp 86) 5, none, false, false, []⟩,
  ⟨some 88, .load 3 (.tmp 87), none, false, false, []⟩,
  ⟨some 89, .binOp .add 3 (.tmp 88) (.const (.int .i64 1)) 3, none, false, false, []⟩,
  ⟨some 90, .nilCheck (.tmp 85), none, false, false, []⟩,
  ⟨some 91, .fieldAddr 50 (.tmp 90) 5, none, false, false, []⟩,
  ⟨none, .store 3 (.tmp 91) (.tmp 89), none, false, false, []⟩]
def r20_20 : List Co := [
  ⟨some 92, .move (.tmp 12), none, false, false, []⟩,
  ⟨some 93, .nilCheck (.tmp 92), none, false, false, []⟩,
  ⟨some 94, .fieldAddr 50 (.tmp 93) 6, none, false, false, []⟩,
  ⟨some 95, .load 3 (.tmp 94), none, false, false, []⟩,
  ⟨some 96, .fieldAddr 58 (.tmp 11) 6, none, false, false, []⟩,
  ⟨some 97, .load 3 (.tmp 96), none, false, false, []⟩,
  ⟨some 98, .binOp .add 3 (.tmp 95) (.tmp 97) 3, none, false, false, []⟩,
  ⟨some 99, .nilCheck (.tmp 92), none, false, false, []⟩,
  ⟨some 100, .fieldAddr 50 (.tmp 99) 6, none, false, false, []⟩,
  ⟨none, .store 3 (.tmp 100) (.tmp 98), none, false, false, []⟩]
def r20_21 : List Co := [
  ⟨some 101, .move (.tmp 12), none, false, false, []⟩,
  ⟨some 102, .nilCheck (.tmp 101), none, false, false, []⟩,
  ⟨some 103, .fieldAddr 50 (.tmp 102) 7, none, false, false, []⟩,
  ⟨some 104, .load 3 (.tmp 103), none, false, false, []⟩,
  ⟨some 105, .binOp .add 3 (.tmp 104) (.const (.int .i64 1)) 3, none, false, false, []⟩,
  ⟨some 106, .nilCheck (.tmp 101), none, false, false, []⟩,
  ⟨some 107, .fieldAddr 50 (.tmp 106) 7, none, false, false, []⟩,
  ⟨none, .store 3 (.tmp 107) (.tmp 105), none, false, false, []⟩]
def r20_22 : List Co := [
  ⟨some 108, .move (.tmp 12), none, false, false, []⟩,
  ⟨some 109, .nilCheck (.tmp 108), none, false, false, []⟩,
  ⟨some 110, .fieldAddr 50 (.tmp 109) 8, none, false, false, []⟩,
  ⟨some 111, .load 3 (.tmp 110), none, false, false, []⟩,
  ⟨some 112, .fieldAddr 58 (.tmp 11) 6, none, false, false, []⟩,
  ⟨some 113, .load 3 (.tmp 112), none, false, false, []⟩,
  ⟨some 114, .binOp .add 3 (.tmp 111) (.tmp 113) 3, none, false, false, []⟩,
  ⟨some 115, .nilCheck (.tmp 108), none, false, false, []⟩,
  ⟨some 116, .fieldAddr 50 (.tmp 115) 8, none, false, false, []⟩,
  ⟨none, .store 3 (.tmp 116) (.tmp 114), none, false, false, []⟩]
def r20_23 : List Co := [
  ⟨some 117, .binOp .add 3 (.tmp 48) (.const (.int .i64 1)) 3, none, false, false, []⟩,
  ⟨some 48, .move (.tmp 117), none, false, false, []⟩]
def l20_24 : Cc := (.seq (.reg r20_13) (.seq (.cond (.tmp 49) .skip (.exit 2)) (.seq (.block 3 (.seq (.reg r20_14) (.seq (.reg r20_15) (.seq (.reg r20_16) (.seq (.reg r20_17) (.seq (.reg r20_18) (.cond (.tmp 84) (.seq (.reg r20_19) (.reg r20_20)) (.seq (.reg r20_21) (.reg r20_22))))))))) (.reg r20_23))))
def r20_25 : List Co := [
  ⟨some 118, .move (.tmp 7), none, false, false, []⟩,
  ⟨some 2, .assign (.tmp 118), none, false, false, []⟩,
  ⟨some 3, .assign (.const (.int .i64 0)), none, false, false, []⟩]
/-- wireglass/conv.Conversations -/
def c20 : Cc := (.seq (.reg r20_0) (.seq (.seq (.reg r20_1) (.seq (.reg r20_2) (.cond (.tmp 18) (.seq (.reg r20_3) .ret) .skip))) (.seq (.reg r20_4) (.seq (.reg r20_5) (.seq (.seq (.reg r20_6) (.block 0 (.loop l20_11))) (.seq (.seq (.reg r20_12) (.block 2 (.loop l20_24))) (.seq (.reg r20_25) .ret)))))))
def r26_0 : List Co := [
  ⟨some 2, .assign (.const (.int .i64 0)), none, false, false, []⟩]
def r26_1 : List Co := [
  ⟨some 4, .move (.tmp 0), none, false, false, []⟩,
  ⟨some 5, .call ⟨.builtin .len, #[(.tmp 4)], #[34]⟩, none, false, false, []⟩,
  ⟨some 6, .binOp .gtr 3 (.tmp 5) (.const (.int .i64 200)) 3, none, false, false, []⟩,
  ⟨some 3, .assign (.tmp 6), none, false, false, []⟩]
def r26_2 : List Co := [
  ⟨some 2, .assign (.const (.int .i64 3)), none, false, false, []⟩]
def r26_3 : List Co := [
  ⟨some 8, .move (.tmp 0), none, false, false, []⟩,
  ⟨some 9, .call ⟨.value (.func 59), #[(.tmp 8), (.func 60)], #[34, 78]⟩, none, false, false, []⟩,
  ⟨some 7, .assign (.tmp 9), none, false, false, []⟩]
def r26_4 : List Co := [
  ⟨some 2, .assign (.const (.int .i64 1)), none, false, false, []⟩]
def r26_5 : List Co := [
  ⟨some 2, .assign (.const (.int .i64 0)), none, false, false, []⟩]
/-- wireglass/conv.Validate -/
def c26 : Cc := (.seq (.reg r26_0) (.seq (.block 0 (.seq (.reg r26_1) (.cond (.tmp 3) (.seq (.reg r26_2) .ret) (.seq (.reg r26_3) (.cond (.tmp 7) (.seq (.reg r26_4) .ret) .skip))))) (.seq (.reg r26_5) .ret)))
def r47_0 : List Co := [
  ⟨some 2, .assign (.const (.slice none 0 0)), none, false, false, []⟩,
  ⟨some 3, .assign (.const (.slice none 0 0)), none, false, false, []⟩]
def r47_1 : List Co := [
  ⟨some 13, .makeMap 131 none, none, false, false, []⟩,
  ⟨some 4, .assign (.tmp 13), none, false, false, []⟩]
def r47_2 : List Co := [
  ⟨some 5, .assign (.const (.slice none 0 0)), none, false, false, []⟩]
def r47_3 : List Co := [
  ⟨some 6, .assign (.const (.slice none 0 0)), none, false, false, []⟩]
def r47_4 : List Co := [
  ⟨some 14, .move (.tmp 0), none, false, false, []⟩,
  ⟨some 15, .call ⟨.builtin .len, #[(.tmp 14)], #[34]⟩, none, false, false, []⟩,
  ⟨some 16, .move (.const (.int .i64 0)), none, false, false, []⟩]
def r47_5 : List Co := [
  ⟨some 17, .binOp .lss 3 (.tmp 16) (.tmp 15) 3, none, false, false, []⟩]
def r47_6 : List Co := [
  ⟨some 18, .indexAddr 34 (.tmp 14) (.tmp 16), none, false, false, []⟩,
  ⟨some 19, .load 58 (.tmp 18), none, false, false, []⟩,
  ⟨some 8, .alloc 58, none, false, false, []⟩,
  ⟨none, .store 58 (.tmp 8) (.tmp 19), none, false, false, []⟩]
def r47_7 : List Co := [
  ⟨some 21, .load 58 (.tmp 8), none, false, false, []⟩,
  ⟨some 22, .call ⟨.value (.func 48), #[(.tmp 21)], #[58]⟩, none, false, false, []⟩,
  ⟨some 20, .move (.tmp 22), none, false, false, []⟩,
  ⟨some 23, .extract (.tmp 20) 0, none, false, false, []⟩,
  ⟨some 24, .extract (.tmp 20) 1, none, false, false, []⟩,
  ⟨some 9, .alloc 88, none, false, false, []⟩,
  ⟨none, .store 88 (.tmp 9) (.tmp 23), none, false, false, []⟩,
  ⟨some 10, .assign (.tmp 24), none, false, false, []⟩]
def r47_8 : List Co := [
  ⟨some 26, .move (.tmp 4), none, false, false, []⟩,
  ⟨some 27, .load 88 (.tmp 9), none, false, false, []⟩,
  ⟨some 28, .lookup 131 (.tmp 26) (.tmp 27) true, none, false, false, []⟩,
  ⟨some 25, .move (.tmp 28), none, false, false, []⟩,
  ⟨some 29, .extract (.tmp 25) 0, none, false, false, []⟩,
  ⟨some 30, .extract (.tmp 25) 1, none, false, false, []⟩,
  ⟨some 11, .assign (.tmp 29), none, false, false, []⟩,
  ⟨some 12, .assign (.tmp 30), none, false, false, []⟩]
def r47_9 : List Co := [
  ⟨some 31, .move (.tmp 12), none, false, false, []⟩,
  ⟨some 32, .unOp .not 4 (.tmp 31), none, false, false, []⟩]
def r47_10 : List Co := [
  ⟨some 33, .move (.tmp 6), none, false, false, []⟩,
  ⟨some 34, .call ⟨.builtin .len, #[(.tmp 33)], #[94]⟩, none, false, false, []⟩,
  ⟨some 11, .assign (.tmp 34), none, false, false, []⟩]
def r47_11 : List Co := [
  ⟨some 35, .move (.tmp 4), none, false, false, []⟩,
  ⟨some 36, .load 88 (.tmp 9), none, false, false, []⟩,
  ⟨some 37, .move (.tmp 11), none, false, false, []⟩,
  ⟨none, .mapUpdate 131 (.tmp 35) (.tmp 36) (.tmp 37), none, false, false, []⟩]
def r47_12 : List Co := [
  ⟨some 38, .move (.tmp 6), none, false, false, []⟩,
  ⟨some 39, .load 88 (.tmp 9), none, false, false, []⟩,
  ⟨some 40, .buildSlice 94 1 #[(0, (.tmp 39))], none, false, false, []⟩,
  ⟨some 41, .call ⟨.builtin .append, #[(.tmp 38), (.tmp 40)], #[94, 94]⟩, none, false, false, []⟩,
  ⟨some 6, .assign (.tmp 41), none, false, false, []⟩]
def r47_13 : List Co := [
  ⟨some 42, .move (.tmp 5), none, false, false, []⟩,
  ⟨some 43, .move (.tmp 11), none, false, false, []⟩,
  ⟨some 44, .buildSlice 22 1 #[(0, (.tmp 43))], none, false, false, []⟩,
  ⟨some 45, .call ⟨.builtin .append, #[(.tmp 42), (.tmp 44)], #[22, 22]⟩, none, false, false, []⟩,
  ⟨some 5, .assign (.tmp 45), none, false, false, []⟩]
def r47_14 : List Co := [
  ⟨some 46, .binOp .add 3 (.tmp 16) (.const (.int .i64 1)) 3, none, false, false, []⟩,
  ⟨some 16, .move (.tmp 46), none, false, false, []⟩]
def l47_15 : Cc := (.seq (.reg r47_5) (.seq (.cond (.tmp 17) .skip (.exit 0)) (.seq (.block 1 (.seq (.reg r47_6) (.seq (.reg r47_7) (.seq (.reg r47_8) (.seq (.seq (.reg r47_9) (.cond (.tmp 32) (.seq (.reg r47_10) (.seq (.reg r47_11) (.reg r47_12))) .skip)) (.reg r47_13)))))) (.reg r47_14))))
def r47_16 : List Co := [
  ⟨some 47, .move (.tmp 5), none, false, false, []⟩,
  ⟨some 48, .move (.tmp 6), none, false, false, []⟩,
  ⟨some 2, .assign (.tmp 47), none, false, false, []⟩,
  ⟨some 3, .assign (.tmp 48), none, false, false, []⟩]
/-- wireglass/conv.numbered -/
def c47 : Cc := (.seq (.reg r47_0) (.seq (.reg r47_1) (.seq (.reg r47_2) (.seq (.reg r47_3) (.seq (.seq (.reg r47_4) (.block 0 (.loop l47_15))) (.seq (.reg r47_16) .ret))))))
def r48_0 : List Co := [
  ⟨some 1, .box 58 (.tmp 0), none, false, false, []⟩,
  ⟨some 2, .alloc 88, none, false, false, []⟩,
  ⟨some 3, .assign (.const (.bool false)), none, false, false, []⟩]
def r48_1 : List Co := [
  ⟨some 5, .fieldAddr 58 (.tmp 1) 1, none, false, false, []⟩,
  ⟨some 6, .load 3 (.tmp 5), none, false, false, []⟩,
  ⟨some 7, .fieldAddr 58 (.tmp 1) 2, none, false, false, []⟩,
  ⟨some 8, .load 3 (.tmp 7), none, false, false, []⟩,
  ⟨some 9, .call ⟨.value (.func 51), #[(.tmp 6), (.tmp 8)], #[3, 3]⟩, none, true, false, []⟩,
  ⟨some 10, .fieldAddr 58 (.tmp 1) 3, none, true, false, []⟩,
  ⟨some 11, .load 3 (.tmp 10), none, true, true, []⟩,
  ⟨some 12, .fieldAddr 58 (.tmp 1) 4, none, true, false, []⟩,
  ⟨some 13, .load 3 (.tmp 12), none, true, true, []⟩,
  ⟨some 14, .call ⟨.value (.func 51), #[(.tmp 11), (.tmp 13)], #[3, 3]⟩, none, false, false, []⟩,
  ⟨some 15, .buildSlice 22 2 #[(0, (.tmp 9)), (1, (.tmp 14))], none, false, false, []⟩,
  ⟨some 16, .call ⟨.value (.func 58), #[(.tmp 15)], #[22]⟩, none, false, false, []⟩,
  ⟨some 4, .assign (.tmp 16), none, false, false, []⟩]
def r48_2 : List Co := [
  ⟨some 17, .move (.tmp 4), none, false, false, []⟩,
  ⟨some 18, .binOp .gtr 3 (.tmp 17) (.const (.int .i64 0)) 3, none, false, false, []⟩]
def r48_3 : List Co := [
  ⟨some 19, .fieldAddr 58 (.tmp 1) 2, none, false, false, []⟩,
  ⟨some 20, .load 3 (.tmp 19), none, false, false, []⟩,
  ⟨some 21, .fieldAddr 58 (.tmp 1) 4, none, false, false, []⟩,
  ⟨some 22, .load 3 (.tmp 21), none, false, false, []⟩,
  ⟨some 23, .fieldAddr 58 (.tmp 1) 1, none, false, false, []⟩,
  ⟨some 24, .load 3 (.tmp 23), none, false, false, []⟩,
  ⟨some 25, .fieldAddr 58 (.tmp 1) 3, none, false, false, []⟩,
  ⟨some 26, .load 3 (.tmp 25), none, false, false, []⟩,
  ⟨some 27, .fieldAddr 58 (.tmp 1) 5, none, false, false, []⟩,
  ⟨some 28, .load 3 (.tmp 27), none, false, false, []⟩,
  ⟨some 29, .build 88 #[(0, (.tmp 20)), (1, (.tmp 22)), (2, (.tmp 24)), (3, (.tmp 26)), (4, (.tmp 28))], none, false, false, []⟩,
  ⟨none, .store 88 (.tmp 2) (.tmp 29), none, false, false, []⟩,
  ⟨some 3, .assign (.const (.bool false)), none, false, false, []⟩]
def r48_4 : List Co := [
  ⟨some 30, .fieldAddr 58 (.tmp 1) 1, none, false, false, []⟩,
  ⟨some 31, .load 3 (.tmp 30), none, false, false, []⟩,
  ⟨some 32, .fieldAddr 58 (.tmp 1) 3, none, false, false, []⟩,
  ⟨some 33, .load 3 (.tmp 32), none, false, false, []⟩,
  ⟨some 34, .fieldAddr 58 (.tmp 1) 2, none, false, false, []⟩,
  ⟨some 35, .load 3 (.tmp 34), none, false, false, []⟩,
  ⟨some 36, .fieldAddr 58 (.tmp 1) 4, none, false, false, []⟩,
  ⟨some 37, .load 3 (.tmp 36), none, false, false, []⟩,
  ⟨some 38, .fieldAddr 58 (.tmp 1) 5, none, false, false, []⟩,
  ⟨some 39, .load 3 (.tmp 38), none, false, false, []⟩,
  ⟨some 40, .build 88 #[(0, (.tmp 31)), (1, (.tmp 33)), (2, (.tmp 35)), (3, (.tmp 37)), (4, (.tmp 39))], none, false, false, []⟩,
  ⟨none, .store 88 (.tmp 2) (.tmp 40), none, false, false, []⟩,
  ⟨some 3, .assign (.const (.bool true)), none, false, false, []⟩]
/-- wireglass/conv.placeOf -/
def c48 : Cc := (.seq (.reg r48_0) (.seq (.seq (.reg r48_1) (.seq (.reg r48_2) (.cond (.tmp 18) (.seq (.reg r48_3) .ret) .skip))) (.seq (.reg r48_4) .ret)))
def r59_0 : List Co := [
  ⟨some 3, .box 78 (.tmp 1), none, false, false, []⟩,
  ⟨some 4, .assign (.const (.bool false)), none, false, false, []⟩]
def r59_1 : List Co := [
  ⟨some 5, .move (.tmp 0), none, false, false, []⟩,
  ⟨some 6, .makeFunc (.func 79) #[] #[(.tmp 3)], none, false, false, []⟩,
  ⟨some 7, .call ⟨.value (.func 78), #[(.tmp 5), (.tmp 6)], #[34, 78]⟩, none, false, false, []⟩,
  ⟨some 4, .assign (.tmp 7), none, false, false, []⟩]
/-- wireglass/conv.wrong[wireglass/api.Talk] -/
def c59 : Cc := (.seq (.reg r59_0) (.seq (.reg r59_1) .ret))
def r60_0 : List Co := [
  ⟨some 1, .box 58 (.tmp 0), none, false, false, []⟩,
  ⟨some 2, .assign (.const (.bool false)), none, false, false, []⟩]
def r60_1 : List Co := [
  ⟨some 3, .fieldAddr 58 (.tmp 1) 0, none, false, false, []⟩,
  ⟨some 4, .load 3 (.tmp 3), none, false, false, []⟩,
  ⟨some 5, .call ⟨.value (.func 33), #[(.tmp 4), (.const (.int .i64 1000000000000000))], #[3, 3]⟩, none, false, false, []⟩,
  ⟨some 6, .move (.tmp 5), none, false, false, []⟩,
  ⟨some 7, .fieldAddr 58 (.tmp 1) 1, some (6, true), false, false, []⟩,
  ⟨some 8, .load 3 (.tmp 7), some (6, true), false, false, []⟩,
  ⟨some 9, .call ⟨.value (.func 33), #[(.tmp 8), (.const (.int .i64 4294967295))], #[3, 3]⟩, some (6, true), false, false, []⟩,
  ⟨some 10, .pick (.tmp 6) (.tmp 9) (.const (.bool false)), none, false, false, []⟩,
  ⟨some 11, .move (.tmp 10), none, false, false, []⟩,
  ⟨some 12, .fieldAddr 58 (.tmp 1) 2, some (11, true), false, false, []⟩,
  ⟨some 13, .load 3 (.tmp 12), some (11, true), false, false, []⟩,
  ⟨some 14, .call ⟨.value (.func 33), #[(.tmp 13), (.const (.int .i64 4294967295))], #[3, 3]⟩, some (11, true), false, false, []⟩,
  ⟨some 15, .pick (.tmp 11) (.tmp 14) (.const (.bool false)), none, false, false, []⟩,
  ⟨some 16, .move (.tmp 15), none, false, false, []⟩,
  ⟨some 17, .fieldAddr 58 (.tmp 1) 3, some (16, true), false, false, []⟩,
  ⟨some 18, .load 3 (.tmp 17), some (16, true), false, false, []⟩,
  ⟨some 19, .call ⟨.value (.func 33), #[(.tmp 18), (.const (.int .i64 65535))], #[3, 3]⟩, some (16, true), false, false, []⟩,
  ⟨some 20, .pick (.tmp 16) (.tmp 19) (.const (.bool false)), none, false, false, []⟩,
  ⟨some 21, .move (.tmp 20), none, false, false, []⟩,
  ⟨some 22, .fieldAddr 58 (.tmp 1) 4, some (21, true), false, false, []⟩,
  ⟨some 23, .load 3 (.tmp 22), some (21, true), false, false, []⟩,
  ⟨some 24, .call ⟨.value (.func 33), #[(.tmp 23), (.const (.int .i64 65535))], #[3, 3]⟩, some (21, true), false, false, []⟩,
  ⟨some 25, .pick (.tmp 21) (.tmp 24) (.const (.bool false)), none, false, false, []⟩,
  ⟨some 26, .move (.tmp 25), none, false, false, []⟩,
  ⟨some 27, .fieldAddr 58 (.tmp 1) 5, some (26, true), false, false, []⟩,
  ⟨some 28, .load 3 (.tmp 27), some (26, true), false, false, []⟩,
  ⟨some 29, .call ⟨.value (.func 33), #[(.tmp 28), (.const (.int .i64 255))], #[3, 3]⟩, some (26, true), false, false, []⟩,
  ⟨some 30, .pick (.tmp 26) (.tmp 29) (.const (.bool false)), none, false, false, []⟩,
  ⟨some 31, .move (.tmp 30), none, false, false, []⟩,
  ⟨some 32, .fieldAddr 58 (.tmp 1) 6, some (31, true), false, false, []⟩,
  ⟨some 33, .load 3 (.tmp 32), some (31, true), false, false, []⟩,
  ⟨some 34, .call ⟨.value (.func 33), #[(.tmp 33), (.const (.int .i64 1000000))], #[3, 3]⟩, some (31, true), false, false, []⟩,
  ⟨some 35, .pick (.tmp 31) (.tmp 34) (.const (.bool false)), none, false, false, []⟩,
  ⟨some 2, .assign (.tmp 35), none, false, false, []⟩]
/-- wireglass/conv.isTalk -/
def c60 : Cc := (.seq (.reg r60_0) (.seq (.reg r60_1) .ret))
def r78_0 : List Co := [
  ⟨some 4, .assign (.const (.bool false)), none, false, false, []⟩]
def r78_1 : List Co := [
  ⟨some 5, .move (.tmp 0), none, false, false, []⟩,
  ⟨some 6, .move (.tmp 1), none, false, false, []⟩,
  ⟨some 7, .call ⟨.value (.func 93), #[(.tmp 5), (.tmp 6)], #[34, 78]⟩, none, false, false, []⟩,
  ⟨some 8, .binOp .geq 3 (.tmp 7) (.const (.int .i64 0)) 3, none, false, false, []⟩,
  ⟨some 4, .assign (.tmp 8), none, false, false, []⟩]
/-- slices.ContainsFunc[[]wireglass/api.Talk,wireglass/api.Talk] -/
def c78 : Cc := (.seq (.reg r78_0) (.seq (.reg r78_1) .ret))
def r79_0 : List Co := [
  ⟨some 2, .box 58 (.tmp 0), none, false, false, []⟩,
  ⟨some 3, .assign (.const (.bool false)), none, false, false, []⟩]
def r79_1 : List Co := [
  ⟨some 4, .load 78 (.tmp 1), none, false, false, []⟩,
  ⟨some 5, .load 58 (.tmp 2), none, false, false, []⟩,
  ⟨some 6, .call ⟨.value (.tmp 4), #[(.tmp 5)], #[58]⟩, none, false, false, []⟩,
  ⟨some 7, .unOp .not 4 (.tmp 6), none, false, false, []⟩,
  ⟨some 3, .assign (.tmp 7), none, false, false, []⟩]
/-- wireglass/conv.wrong[wireglass/api.Talk]$1 -/
def c79 : Cc := (.seq (.reg r79_0) (.seq (.reg r79_1) .ret))
def r93_0 : List Co := [
  ⟨some 4, .assign (.const (.int .i64 0)), none, false, false, []⟩]
def r93_1 : List Co := [
  ⟨some 6, .move (.tmp 0), none, false, false, []⟩,
  ⟨some 7, .call ⟨.builtin .len, #[(.tmp 6)], #[34]⟩, none, false, false, []⟩,
  ⟨some 8, .move (.const (.int .i64 0)), none, false, false, []⟩]
def r93_2 : List Co := [
  ⟨some 9, .binOp .lss 3 (.tmp 8) (.tmp 7) 3, none, false, false, []⟩]
def r93_3 : List Co := [
  ⟨some 10, .move (.tmp 8), none, false, false, []⟩,
  ⟨some 5, .assign (.tmp 10), none, false, false, []⟩]
def r93_4 : List Co := [
  ⟨some 11, .move (.tmp 1), none, false, false, []⟩,
  ⟨some 12, .move (.tmp 0), none, false, false, []⟩,
  ⟨some 13, .move (.tmp 5), none, false, false, []⟩,
  ⟨some 14, .indexAddr 34 (.tmp 12) (.tmp 13), none, false, false, []⟩,
  ⟨some 15, .load 58 (.tmp 14), none, false, false, []⟩,
  ⟨some 16, .call ⟨.value (.tmp 11), #[(.tmp 15)], #[58]⟩, none, false, false, []⟩]
def r93_5 : List Co := [
  ⟨some 17, .move (.tmp 5), none, false, false, []⟩,
  ⟨some 4, .assign (.tmp 17), none, false, false, []⟩]
def r93_6 : List Co := [
  ⟨some 18, .binOp .add 3 (.tmp 8) (.const (.int .i64 1)) 3, none, false, false, []⟩,
  ⟨some 8, .move (.tmp 18), none, false, false, []⟩]
def l93_7 : Cc := (.seq (.reg r93_2) (.seq (.cond (.tmp 9) .skip (.exit 0)) (.seq (.block 1 (.seq (.reg r93_3) (.seq (.reg r93_4) (.cond (.tmp 16) (.seq (.reg r93_5) .ret) .skip)))) (.reg r93_6))))
def r93_8 : List Co := [
  ⟨some 4, .assign (.const (.int .i64 (-1))), none, false, false, []⟩]
/-- slices.IndexFunc[[]wireglass/api.Talk,wireglass/api.Talk] -/
def c93 : Cc := (.seq (.reg r93_0) (.seq (.seq (.reg r93_1) (.block 0 (.loop l93_7))) (.seq (.reg r93_8) .ret)))
def rs5 : List ResultVar := [.tmp 4]
set_option maxRecDepth 100000 in
theorem run5 {args : List V} {H : Hp} {R : V → Hp → Prop} (ha : args.length ≤ 83) (h : Wp Try.prog (callL Try.prog pr) 83 c5 args [] H (RetQ Try.prog rs5 R)) : ∃ v H', R v H' ∧ callL Try.prog pr 5 args H = some (gcC H (v, H')) :=
  call_of (fn := Try.f5) rfl Try.func5 rfl (by kernel_rfl) rfl (Nat.max_eq_right ha) h
def rs20 : List ResultVar := [.tmp 2, .tmp 3]
set_option maxRecDepth 100000 in
theorem run20 {args : List V} {H : Hp} {R : V → Hp → Prop} (ha : args.length ≤ 119) (h : Wp Try.prog (callL Try.prog pr) 119 c20 args [] H (RetQ Try.prog rs20 R)) : ∃ v H', R v H' ∧ callL Try.prog pr 20 args H = some (gcC H (v, H')) :=
  call_of (fn := Try.f20) rfl Try.func20 rfl (by kernel_rfl) rfl (Nat.max_eq_right ha) h
def rs26 : List ResultVar := [.tmp 2]
set_option maxRecDepth 100000 in
theorem run26 {args : List V} {H : Hp} {R : V → Hp → Prop} (ha : args.length ≤ 10) (h : Wp Try.prog (callL Try.prog pr) 10 c26 args [] H (RetQ Try.prog rs26 R)) : ∃ v H', R v H' ∧ callL Try.prog pr 26 args H = some (gcC H (v, H')) :=
  call_of (fn := Try.f26) rfl Try.func26 rfl (by kernel_rfl) rfl (Nat.max_eq_right ha) h
def rs47 : List ResultVar := [.tmp 2, .tmp 3]
set_option maxRecDepth 100000 in
theorem run47 {args : List V} {H : Hp} {R : V → Hp → Prop} (ha : args.length ≤ 49) (h : Wp Try.prog (callL Try.prog pr) 49 c47 args [] H (RetQ Try.prog rs47 R)) : ∃ v H', R v H' ∧ callL Try.prog pr 47 args H = some (gcC H (v, H')) :=
  call_of (fn := Try.f47) rfl Try.func47 rfl (by kernel_rfl) rfl (Nat.max_eq_right ha) h
def rs48 : List ResultVar := [.cell 2 88, .tmp 3]
set_option maxRecDepth 100000 in
theorem run48 {args : List V} {H : Hp} {R : V → Hp → Prop} (ha : args.length ≤ 41) (h : Wp Try.prog (callL Try.prog pr) 41 c48 args [] H (RetQ Try.prog rs48 R)) : ∃ v H', R v H' ∧ callL Try.prog pr 48 args H = some (gcC H (v, H')) :=
  call_of (fn := Try.f48) rfl Try.func48 rfl (by kernel_rfl) rfl (Nat.max_eq_right ha) h
def rs59 : List ResultVar := [.tmp 4]
set_option maxRecDepth 100000 in
theorem run59 {args : List V} {H : Hp} {R : V → Hp → Prop} (ha : args.length ≤ 8) (h : Wp Try.prog (callL Try.prog pr) 8 c59 args [] H (RetQ Try.prog rs59 R)) : ∃ v H', R v H' ∧ callL Try.prog pr 59 args H = some (gcC H (v, H')) :=
  call_of (fn := Try.f59) rfl Try.func59 rfl (by kernel_rfl) rfl (Nat.max_eq_right ha) h
def rs60 : List ResultVar := [.tmp 2]
set_option maxRecDepth 100000 in
theorem run60 {args : List V} {H : Hp} {R : V → Hp → Prop} (ha : args.length ≤ 36) (h : Wp Try.prog (callL Try.prog pr) 36 c60 args [] H (RetQ Try.prog rs60 R)) : ∃ v H', R v H' ∧ callL Try.prog pr 60 args H = some (gcC H (v, H')) :=
  call_of (fn := Try.f60) rfl Try.func60 rfl (by kernel_rfl) rfl (Nat.max_eq_right ha) h
def rs78 : List ResultVar := [.tmp 4]
set_option maxRecDepth 100000 in
theorem run78 {args : List V} {H : Hp} {R : V → Hp → Prop} (ha : args.length ≤ 9) (h : Wp Try.prog (callL Try.prog pr) 9 c78 args [] H (RetQ Try.prog rs78 R)) : ∃ v H', R v H' ∧ callL Try.prog pr 78 args H = some (gcC H (v, H')) :=
  call_of (fn := Try.f78) rfl Try.func78 rfl (by kernel_rfl) rfl (Nat.max_eq_right ha) h
def rs79 : List ResultVar := [.tmp 3]
set_option maxRecDepth 100000 in
theorem run79 {args : List V} {H : Hp} {R : V → Hp → Prop} (ha : args.length ≤ 8) (h : Wp Try.prog (callL Try.prog pr) 8 c79 args [] H (RetQ Try.prog rs79 R)) : ∃ v H', R v H' ∧ callL Try.prog pr 79 args H = some (gcC H (v, H')) :=
  call_of (fn := Try.f79) rfl Try.func79 rfl (by kernel_rfl) rfl (Nat.max_eq_right ha) h
def rs93 : List ResultVar := [.tmp 4]
set_option maxRecDepth 100000 in
theorem run93 {args : List V} {H : Hp} {R : V → Hp → Prop} (ha : args.length ≤ 19) (h : Wp Try.prog (callL Try.prog pr) 19 c93 args [] H (RetQ Try.prog rs93 R)) : ∃ v H', R v H' ∧ callL Try.prog pr 93 args H = some (gcC H (v, H')) :=
  call_of (fn := Try.f93) rfl Try.func93 rfl (by kernel_rfl) rfl (Nat.max_eq_right ha) h
end Go.Proofs.Ytdpdlobaabcjjaa
/-
  Messages asked and numbered, by the program: walked. No statement of the seat stands here.
-/
namespace Go.Proofs.Ytdpdlobaabcjjaa
open Go Go.Am
set_option maxRecDepth 4000
set_option linter.unusedSimpArgs false
set_option linter.unusedVariables false

theorem fn60 (t : Tk) (H : Hp) : callL Try.prog pr 60 [.agg (tkC t)] H = some (.bool (okTalk t), H) := by
  refine flat_of (run60 (Nat.le_of_ble_eq_true rfl) ?_) rfl rfl
  unfold okTalk
  generalize e1 : inB t.time 1000000000000000 = b1
  generalize e2 : inB t.src 4294967295 = b2
  generalize e3 : inB t.dst 4294967295 = b3
  generalize e4 : inB t.port 65535 = b4
  generalize e5 : inB t.dest 65535 = b5
  generalize e6 : inB t.proto 255 = b6
  cases b1
  · simp only [c60, r60_0, r60_1, rs60, ↓reduceIte, go_sem, Nat.reduceLT, Nat.reduceEqDiff, Nat.reduceAdd, Nat.reduceMul, Nat.reduceLeDiff, Int.reduceLT, Int.reduceLE, Int.reduceEq, Int.reduceNeg, Int.reduceToNat, fn33, e1]; exact ⟨_, rfl⟩
  · cases b2
    · simp only [c60, r60_0, r60_1, rs60, ↓reduceIte, go_sem, Nat.reduceLT, Nat.reduceEqDiff, Nat.reduceAdd, Nat.reduceMul, Nat.reduceLeDiff, Int.reduceLT, Int.reduceLE, Int.reduceEq, Int.reduceNeg, Int.reduceToNat, fn33, e1, e2]; exact ⟨_, rfl⟩
    · cases b3
      · simp only [c60, r60_0, r60_1, rs60, ↓reduceIte, go_sem, Nat.reduceLT, Nat.reduceEqDiff, Nat.reduceAdd, Nat.reduceMul, Nat.reduceLeDiff, Int.reduceLT, Int.reduceLE, Int.reduceEq, Int.reduceNeg, Int.reduceToNat, fn33, e1, e2, e3]; exact ⟨_, rfl⟩
      · cases b4
        · simp only [c60, r60_0, r60_1, rs60, ↓reduceIte, go_sem, Nat.reduceLT, Nat.reduceEqDiff, Nat.reduceAdd, Nat.reduceMul, Nat.reduceLeDiff, Int.reduceLT, Int.reduceLE, Int.reduceEq, Int.reduceNeg, Int.reduceToNat, fn33, e1, e2, e3, e4]; exact ⟨_, rfl⟩
        · cases b5
          · simp only [c60, r60_0, r60_1, rs60, ↓reduceIte, go_sem, Nat.reduceLT, Nat.reduceEqDiff, Nat.reduceAdd, Nat.reduceMul, Nat.reduceLeDiff, Int.reduceLT, Int.reduceLE, Int.reduceEq, Int.reduceNeg, Int.reduceToNat, fn33, e1, e2, e3, e4, e5]; exact ⟨_, rfl⟩
          · cases b6
            · simp only [c60, r60_0, r60_1, rs60, ↓reduceIte, go_sem, Nat.reduceLT, Nat.reduceEqDiff, Nat.reduceAdd, Nat.reduceMul, Nat.reduceLeDiff, Int.reduceLT, Int.reduceLE, Int.reduceEq, Int.reduceNeg, Int.reduceToNat, fn33, e1, e2, e3, e4, e5, e6]; exact ⟨_, rfl⟩
            · simp only [c60, r60_0, r60_1, rs60, ↓reduceIte, go_sem, Nat.reduceLT, Nat.reduceEqDiff, Nat.reduceAdd, Nat.reduceMul, Nat.reduceLeDiff, Int.reduceLT, Int.reduceLE, Int.reduceEq, Int.reduceNeg, Int.reduceToNat, fn33, e1, e2, e3, e4, e5, e6]; exact ⟨_, rfl⟩
theorem fn79 (t : Tk) (id : Nat) (H : Hp) (hid : id < H.length) (hl : loadV Try.prog 78 H (.ptr id 0 0) = some (.fn 60 [] [])) : callL Try.prog pr 79 [.agg (tkC t), .ptr id 0 0] H = some (.bool (!okTalk t), H) := by
  refine flat_of (run79 (Nat.le_of_ble_eq_true rfl) ?_) rfl rfl
  simp (disch := first | exact lt_new _ | exact len_snoc _ _ _ | omega | (simp only [List.length_append, List.length_singleton, List.length_set]; done) | (simp only [List.length_append, List.length_singleton, List.length_set]; omega)) only [c79, r79_0, r79_1, rs79, ↓reduceIte, go_sem, Nat.reduceLT, Nat.reduceEqDiff, Nat.reduceAdd, Nat.reduceMul, Nat.reduceLeDiff, Int.reduceLT, Int.reduceLE, Int.reduceEq, Int.reduceNeg, Int.reduceToNat, hl, fn60]
  exact ⟨_, rfl⟩
theorem fn93 {α : Type} (enc : α → List V) (H : Hp) (s : V) (xs : List α) (hs : Sl H s 7 (xs.map enc)) (hlen : xs.length < 2 ^ 63) (p : α → Bool) (f : Nat) (ca cb : List V) (hf : ∀ x ∈ xs, callL Try.prog pr f (ca ++ [.agg (enc x)] ++ cb) H = some (.bool (p x), H)) : callL Try.prog pr 93 [s, .fn f ca cb] H = some (.int .i64 (findI p xs 0), H) := by
  have hl : (xs.map enc).length = xs.length := List.length_map _
  have hlenS := fun H' => hs.len (P := Try.prog) (H' := H') s34
  rw [hl] at hlenS
  refine flat_of (run93 (Nat.le_of_ble_eq_true rfl) ?_) rfl rfl
  simp (disch := omega) only [c93, r93_0, r93_1, rs93, ↓reduceIte, go_sem, Nat.reduceLT, Nat.reduceEqDiff, Nat.reduceAdd, Nat.reduceMul, Nat.reduceLeDiff, Int.reduceLT, Int.reduceLE, Int.reduceEq, Int.reduceNeg, Int.reduceToNat, hlenS]
  refine Wp_loop (fun m T D H' => ∃ i, m = xs.length - i ∧ i ≤ xs.length ∧ D = [] ∧ H' = H ∧ get T 0 = s ∧ get T 1 = .fn f ca cb ∧ get T 7 = .int .i64 xs.length ∧ get T 8 = .int .i64 i ∧ findI p xs 0 = findI p (xs.drop i) i) ?_ xs.length _ _ _ ?_
  · rintro m T D H' ⟨i, rfl, hi, rfl, rfl, h0, h1, h7, h8, hp⟩
    by_cases hlt : i < xs.length
    · obtain ⟨x, hx⟩ : ∃ x, xs[i]? = some x := ⟨_, List.getElem?_eq_getElem hlt⟩
      have hx' : (xs.map enc)[i]? = some (enc x) := by rw [List.getElem?_map, hx]; rfl
      have hfx := hf x (List.mem_of_getElem? hx)
      have hlt' : (i : Int) < xs.length := by omega
      have hi2 := fun k => hs.idx (P := Try.prog) (k := k) s34 (i := i) (by omega)
      rw [findI_drop p hx] at hp
      by_cases hb : p x = true
      · rw [if_pos hb] at hp
        simp (disch := omega) only [l93_7, r93_2, r93_3, r93_4, r93_5, r93_6, ↓reduceIte, go_sem, Nat.reduceLT, Nat.reduceEqDiff, Nat.reduceAdd, Nat.reduceMul, Nat.reduceLeDiff, Int.reduceLT, Int.reduceLE, Int.reduceEq, Int.reduceNeg, Int.reduceToNat, h0, h1, h7, h8, hlt', hi2, hs.agg g58 z58 hx', hfx, hb, IntWalk.i64_in]
        exact ⟨by rw [hp], [], by simp⟩
      · rw [if_neg hb] at hp
        rw [Bool.not_eq_true] at hb
        simp (disch := omega) only [l93_7, r93_2, r93_3, r93_4, r93_5, r93_6, ↓reduceIte, go_sem, Nat.reduceLT, Nat.reduceEqDiff, Nat.reduceAdd, Nat.reduceMul, Nat.reduceLeDiff, Int.reduceLT, Int.reduceLE, Int.reduceEq, Int.reduceNeg, Int.reduceToNat, h0, h1, h7, h8, hlt', hi2, hs.agg g58 z58 hx', hfx, hb, IntWalk.i64_in]
        exact ⟨_, by omega, i + 1, rfl, hlt, rfl, hp⟩
    · obtain rfl : i = xs.length := by omega
      simp (disch := omega) only [l93_7, r93_2, r93_8, ↓reduceIte, go_sem, Nat.reduceLT, Nat.reduceEqDiff, Nat.reduceAdd, Nat.reduceMul, Nat.reduceLeDiff, Int.reduceLT, Int.reduceLE, Int.reduceEq, Int.reduceNeg, Int.reduceToNat, h0, h1, h7, h8, Int.lt_irrefl]
      refine ⟨?_, [], by simp⟩
      rw [hp, List.drop_length]
      rfl
  · exact ⟨0, by simp [go_sem]⟩

theorem fn78 {α : Type} (enc : α → List V) (H : Hp) (s : V) (xs : List α) (hs : Sl H s 7 (xs.map enc)) (hlen : xs.length < 2 ^ 63) (p : α → Bool) (f : Nat) (ca cb : List V) (hf : ∀ x ∈ xs, callL Try.prog pr f (ca ++ [.agg (enc x)] ++ cb) H = some (.bool (p x), H)) : callL Try.prog pr 78 [s, .fn f ca cb] H = some (.bool (xs.any p), H) := by
  refine flat_of (run78 (Nat.le_of_ble_eq_true rfl) ?_) rfl rfl
  simp (disch := omega) only [c78, r78_0, r78_1, rs78, ↓reduceIte, go_sem, Nat.reduceLT, Nat.reduceEqDiff, Nat.reduceAdd, Nat.reduceMul, Nat.reduceLeDiff, Int.reduceLT, Int.reduceLE, Int.reduceEq, Int.reduceNeg, Int.reduceToNat, fn93 enc H s xs hs hlen p f ca cb hf]
  exact ⟨by rw [findI_any p xs 0 (by omega)], [], by simp⟩

theorem fn59 (H : Hp) (s : V) (l : List Tk) (hs : Sl H s 7 (l.map tkC)) (hlen : l.length < 2 ^ 62) : callL Try.prog pr 59 [s, .fn 60 [] []] H = some (.bool (l.any fun x => !okTalk x), H) := by
  refine flat_of (run59 (Nat.le_of_ble_eq_true rfl) ?_) rfl rfl
  have h78 := fn78 tkC (H ++ [.row 0 [.fn 60 [] []] true]) s l hs.app (by omega) (fun x => !okTalk x) 79 [] [.ptr H.length 0 0] fun x _ => fn79 x H.length _ (lt_new _) (by simp [go_sem])
  simp (disch := omega) only [c59, r59_0, r59_1, rs59, ↓reduceIte, go_sem, Nat.reduceLT, Nat.reduceEqDiff, Nat.reduceAdd, Nat.reduceMul, Nat.reduceLeDiff, Int.reduceLT, Int.reduceLE, Int.reduceEq, Int.reduceNeg, Int.reduceToNat, h78]
  exact ⟨_, rfl⟩
theorem fn26 (H : Hp) (s : V) (l : List Tk) (hs : Sl H s 7 (l.map tkC)) : callL Try.prog pr 26 [s] H = some (.int .i64 (valE l), H) := by
  have hl : (l.map tkC).length = l.length := List.length_map _
  have hlenS := fun H' => hs.len (P := Try.prog) (H' := H') s34
  rw [hl] at hlenS
  refine flat_of (run26 (Nat.le_of_ble_eq_true rfl) ?_) rfl rfl
  unfold valE
  by_cases h1 : 200 < l.length
  · have h1' : (200 : Int) < l.length := by omega
    simp (disch := omega) only [c26, r26_0, r26_1, r26_2, r26_3, r26_4, r26_5, rs26, ↓reduceIte, go_sem, Nat.reduceLT, Nat.reduceEqDiff, Nat.reduceAdd, Nat.reduceMul, Nat.reduceLeDiff, Int.reduceLT, Int.reduceLE, Int.reduceEq, Int.reduceNeg, Int.reduceToNat, hlenS, h1', h1]
    exact ⟨[], by simp⟩
  · have h1' : ¬ (200 : Int) < l.length := by omega
    have h59 := fn59 H s l hs (by omega)
    have hna : (l.any fun x => !okTalk x) = !l.all okTalk := by
      rw [List.all_eq_not_any_not]; simp
    rw [hna] at h59
    by_cases hb : l.all okTalk = true
    · simp (disch := omega) only [c26, r26_0, r26_1, r26_2, r26_3, r26_4, r26_5, rs26, ↓reduceIte, go_sem, Nat.reduceLT, Nat.reduceEqDiff, Nat.reduceAdd, Nat.reduceMul, Nat.reduceLeDiff, Int.reduceLT, Int.reduceLE, Int.reduceEq, Int.reduceNeg, Int.reduceToNat, hlenS, h1', h1, h59, hb]
      exact ⟨[], by simp⟩
    · rw [Bool.not_eq_true] at hb
      simp (disch := omega) only [c26, r26_0, r26_1, r26_2, r26_3, r26_4, r26_5, rs26, ↓reduceIte, go_sem, Nat.reduceLT, Nat.reduceEqDiff, Nat.reduceAdd, Nat.reduceMul, Nat.reduceLeDiff, Int.reduceLT, Int.reduceLE, Int.reduceEq, Int.reduceNeg, Int.reduceToNat, hlenS, h1', h1, h59, hb]
      exact ⟨[], by simp⟩
theorem or_goes (t : Tk) : decide (0 < orL [cmpI t.src t.dst, cmpI t.port t.dest]) = !goes t := by
  unfold goes orL orL orL cmpI
  by_cases h1 : t.src < t.dst
  · simp [h1]
  · by_cases h2 : t.dst < t.src
    · have h3 : ¬ t.src = t.dst := by omega
      simp [h1, h2, h3]
    · have h3 : t.src = t.dst := by omega
      by_cases h4 : t.port < t.dest
      · have h5 : t.port ≤ t.dest := by omega
        simp [h3, h4, h5]
      · by_cases h5 : t.dest < t.port
        · have h6 : ¬ t.port ≤ t.dest := by omega
          simp [h3, h4, h5, h6]
        · have h6 : t.port ≤ t.dest := by omega
          simp [h3, h4, h5, h6]
theorem fn48 (t : Tk) (H : Hp) : callL Try.prog pr 48 [.agg (tkC t)] H = some (.tup [.agg (keyC (tkKey t)), .bool (goes t)], H) := by
  refine flat_of (run48 (Nat.le_of_ble_eq_true rfl) ?_) rfl rfl
  have h58 := fn58 _ _ [cmpI t.src t.dst, cmpI t.port t.dest] (Own.sl (xs := [cmpI t.src t.dst, cmpI t.port t.dest].map intC) (own_new (H := H ++ [.row 0 (tkC t) true] ++ [.row 0 [.int .i64 0, .int .i64 0, .int .i64 0, .int .i64 0, .int .i64 0] true]) (n := 2) rfl (by omega)) (ints_all _) (by omega)) (by simp)
  simp only [List.map_cons, List.map_nil, List.flatten_cons, List.flatten_nil, intC, List.cons_append, List.nil_append] at h58
  have hg := or_goes t
  generalize orL [cmpI t.src t.dst, cmpI t.port t.dest] = z at h58 hg
  unfold tkKey
  cases hb : goes t with
  | true =>
    rw [hb] at hg
    have hz : ¬ 0 < z := by simpa using hg
    simp (config := { maxSteps := 1000000 }) (disch := first | exact lt_new _ | exact len_snoc _ _ _ | omega | (simp only [List.length_append, List.length_singleton, List.length_set]; done) | (simp only [List.length_append, List.length_singleton, List.length_set]; omega)) only [c48, r48_0, r48_1, r48_2, r48_3, r48_4, rs48, ↓reduceIte, go_sem, Nat.reduceLT, Nat.reduceEqDiff, Nat.reduceAdd, Nat.reduceMul, Nat.reduceLeDiff, Int.reduceLT, Int.reduceLE, Int.reduceEq, Int.reduceNeg, Int.reduceToNat, fn51, h58, hz]
    exact ⟨_, by repeat rw [List.append_assoc]⟩
  | false =>
    rw [hb] at hg
    have hz : 0 < z := by simpa using hg
    simp (config := { maxSteps := 1000000 }) (disch := first | exact lt_new _ | exact len_snoc _ _ _ | omega | (simp only [List.length_append, List.length_singleton, List.length_set]; done) | (simp only [List.length_append, List.length_singleton, List.length_set]; omega)) only [c48, r48_0, r48_1, r48_2, r48_3, r48_4, rs48, ↓reduceIte, go_sem, Nat.reduceLT, Nat.reduceEqDiff, Nat.reduceAdd, Nat.reduceMul, Nat.reduceLeDiff, Int.reduceLT, Int.reduceLE, Int.reduceEq, Int.reduceNeg, Int.reduceToNat, fn51, h58, hz]
    exact ⟨_, by repeat rw [List.append_assoc]⟩
end Go.Proofs.Ytdpdlobaabcjjaa
/-
  Messages numbered by their conversations, by the program: walked. No statement of the seat stands here.
-/
namespace Go.Proofs.Ytdpdlobaabcjjaa
open Go Go.Am
set_option maxRecDepth 4000
set_option linter.unusedSimpArgs false
set_option linter.unusedVariables false

def evI (n : Int) : V := .int .i64 n
theorem mt131 : mapKV Try.prog 131 = some (88, 3) := by kernel_rfl
/-- The conversations seen, each with its number; and each message's number. -/
def numSt (s : List (Key × Int) × List Int) (t : Tk) : List (Key × Int) × List Int := match lookA s.1 (tkKey t) with
  | some i => (s.1, s.2 ++ [i])
  | none => (s.1 ++ [(tkKey t, (s.1.length : Int))], s.2 ++ [(s.1.length : Int)])
def numOf (l : List Tk) : List (Key × Int) × List Int := l.foldl numSt ([], [])
theorem numOf_snoc {l : List Tk} {i : Nat} {t : Tk} (h : l[i]? = some t) : numOf (l.take (i + 1)) = numSt (numOf (l.take i)) t := by
  unfold numOf
  rw [take_snoc h, List.foldl_append]
  rfl
theorem numOf_len (l : List Tk) : ∀ i, i ≤ l.length → (numOf (l.take i)).1.length ≤ i ∧ (numOf (l.take i)).2.length = i
  | 0, _ => by simp [numOf]
  | i + 1, hi => by
    obtain ⟨t, ht⟩ : ∃ t, l[i]? = some t := ⟨_, List.getElem?_eq_getElem (by omega)⟩
    obtain ⟨h1, h2⟩ := numOf_len l i (by omega)
    rw [numOf_snoc ht]
    unfold numSt
    split
    · simp; omega
    · simp; omega
abbrev keyE (p : Key × Int) : List V := keyC p.1
theorem keyE_all (l : List (Key × Int)) : ∀ x ∈ l.map keyE, x.length = 5 := by
  intro x hx
  obtain ⟨p, _, rfl⟩ := List.mem_map.1 hx
  rfl
theorem keyE_flat (l : List (Key × Int)) : (l.map keyE).flatten.length = l.length * 5 := by
  rw [flat_len (keyE_all l), List.length_map]
theorem keyE_leaf (l : List (Key × Int)) : (l.map keyE).flatten.all V.leaf = true := by
  simp [V.leaf]
theorem int_flat (l : List Int) : (l.map intC).flatten.length = l.length * 1 := by
  rw [flat_len (ints_all l), List.length_map]
theorem int_leaf (l : List Int) : (l.map intC).flatten.all V.leaf = true := by
  simp [V.leaf, intC]
theorem l47_eq : l47_15 = .seq (.reg r47_5) (.seq (.cond (.tmp 17) .skip (.exit 0)) (.seq (.block 1 (.seq (.reg r47_6) (.seq (.reg r47_7) (.seq (.reg r47_8) (.seq (.seq (.reg r47_9) (.cond (.tmp 32) (.seq (.reg r47_10) (.seq (.reg r47_11) (.reg r47_12))) .skip)) (.reg r47_13)))))) (.reg r47_14))) := rfl
set_option maxHeartbeats 1000000 in
theorem fn47 (H : Hp) (s : V) (l : List Tk) (hs : Sl H s 7 (l.map tkC)) (hlen : l.length ≤ 200) : ∃ v w H2, callL Try.prog pr 47 [s] H = some (.tup [v, w], H2) ∧ Own H2 v 1 ((numOf l).2.map intC).flatten ∧ Own H2 w 5 ((numOf l).1.map keyE).flatten ∧ (∃ G, H2 = H ++ G) ∧ (∀ id, At v id → H.length ≤ id) ∧ ∀ id, At w id → H.length ≤ id := by
  have hl : (l.map tkC).length = l.length := List.length_map _
  have hlenS := fun H' => hs.len (P := Try.prog) (H' := H') s34
  rw [hl] at hlenS
  refine ownP_of (ws := []) (run47 (Nat.le_of_ble_eq_true rfl) ?_) (int_leaf _) (keyE_leaf _) rfl
  simp (disch := omega) only [c47, r47_0, r47_1, r47_2, r47_3, r47_4, rs47, ↓reduceIte, go_sem, Nat.reduceLT, Nat.reduceEqDiff, Nat.reduceAdd, Nat.reduceMul, Nat.reduceLeDiff, Int.reduceLT, Int.reduceLE, Int.reduceEq, Int.reduceNeg, Int.reduceToNat, mt131, hlenS]
  refine Wp_loop (fun m T D H' => ∃ i a b, m = l.length - i ∧ i ≤ l.length ∧ D = [] ∧ get T 14 = s ∧ get T 15 = .int .i64 l.length ∧ get T 16 = .int .i64 i ∧ get T 4 = .map H.length ∧ get T 5 = a ∧ get T 6 = b ∧ H.length < H'.length ∧ (∀ id, id < H.length → H'[id]? = H[id]?) ∧ MapOf H' H.length 88 ekK evI (numOf (l.take i)).1 ∧ Own H' a 1 ((numOf (l.take i)).2.map intC).flatten ∧ Own H' b 5 ((numOf (l.take i)).1.map keyE).flatten ∧ (∀ id, At a id → H.length < id) ∧ (∀ id, At b id → H.length < id) ∧ ∀ id, At a id → ¬ At b id) ?_ l.length _ _ _ ?_
  · rintro m T D H' ⟨i, a, b, rfl, hi, rfl, t14, t15, t16, t4, t5, t6, hle, hfr, hmap, oa, ob, ha, hb, hd⟩
    by_cases hlt : i < l.length
    · have hlt' : (i : Int) < l.length := by omega
      obtain ⟨t, ht⟩ : ∃ t, l[i]? = some t := ⟨_, List.getElem?_eq_getElem hlt⟩
      have hx' : (l.map tkC)[i]? = some (tkC t) := by rw [List.getElem?_map, ht]; rfl
      have hi2 := fun k => hs.idx (P := Try.prog) (k := k) s34 (i := i) (by omega)
      have hs1 : Sl H' s 7 (l.map tkC) := hs.move fun id h => hfr id (hs.at_lt h)
      have hag := hs1.agg (P := Try.prog) g58 z58 hx'
      obtain ⟨n1, n2⟩ := numOf_len l i hi
      have hstep := numOf_snoc ht
      generalize hN : numOf (l.take i) = N at *
      obtain ⟨E, Q⟩ := N
      simp only at hmap oa ob n1 n2
      have fE := keyE_flat E
      have fQ := int_flat Q
      obtain ⟨Hx, hHx⟩ : ∃ Hx, Hx = H' ++ [AB.row 0 (tkC t) true] ++ [AB.row 0 (keyC (tkKey t)) true] := ⟨_, rfl⟩
      have hxl : Hx.length = H'.length + 2 := by rw [hHx]; simp
      have xa : Own Hx a 1 (Q.map intC).flatten := by rw [hHx]; exact oa.app.app
      have xb : Own Hx b 5 (E.map keyE).flatten := by rw [hHx]; exact ob.app.app
      have xm : MapOf Hx H.length 88 ekK evI E := by rw [hHx]; exact hmap.app.app
      have xfr : ∀ id, id < H'.length → Hx[id]? = H'[id]? := fun id hid => by
        rw [hHx, List.append_assoc, List.getElem?_append_left hid]
      have x9 : loadV Try.prog 88 Hx (.ptr (H' ++ [AB.row 0 (tkC t) true]).length 0 0) = some (.agg (keyC (tkKey t))) := by
        rw [hHx]; simp (disch := first | exact lt_new _ | exact len_snoc _ _ _ | omega | (simp only [List.length_append, List.length_singleton, List.length_set]; done) | (simp only [List.length_append, List.length_singleton, List.length_set]; omega)) only [↓reduceIte, go_sem, Nat.reduceLT, Nat.reduceEqDiff, Nat.reduceAdd, Nat.reduceMul, Nat.reduceLeDiff, Int.reduceLT, Int.reduceLE, Int.reduceEq, Int.reduceNeg, Int.reduceToNat]
      have hlook := map_look (P := Try.prog) (ok := true) keyEqK mt131 xm (keyOkK (tkKey t)) (z := .int .i64 0) o3
      simp only [ekK, if_true] at hlook
      have hlenB := fun H' => (ob.sl (keyE_all E) (by omega)).len (P := Try.prog) (H' := H') s94
      rw [List.length_map] at hlenB
      cases hk : lookA E (tkKey t) with
      | some j =>
        have hst : numSt (E, Q) t = (E, Q ++ [j]) := by unfold numSt; rw [hk]
        rw [hk] at hlook
        simp only [Option.map_some, Option.getD_some, Option.isSome_some, evI] at hlook
        obtain ⟨a', H1, e1, o1, f1, le1, at1⟩ := xa.push (by_ := 8) (ys := [.int .i64 j]) rfl rfl (by omega) (by omega) (by omega)
        rw [hHx] at e1 hlook
        rw [l47_eq]
        simp (config := { maxSteps := 1000000 }) (disch := first | exact lt_new _ | exact len_snoc _ _ _ | omega | (simp only [List.length_append, List.length_singleton, List.length_set]; done) | (simp only [List.length_append, List.length_singleton, List.length_set]; omega)) only [r47_5, r47_6, r47_7, r47_8, r47_9, r47_13, r47_14, ↓reduceIte, go_sem, Nat.reduceLT, Nat.reduceEqDiff, Nat.reduceAdd, Nat.reduceMul, Nat.reduceLeDiff, Int.reduceLT, Int.reduceLE, Int.reduceEq, Int.reduceNeg, Int.reduceToNat, t14, t15, t16, t4, t5, t6, hlt', hi2, hag, fn48, hlook, e1, IntWalk.i64_in]
        rw [hst] at hstep
        refine ⟨_, by omega, i + 1, a', b, rfl, hlt, rfl, rfl, rfl, by omega, fun id hid => ?_, ?_, ?_, ?_, fun id h => ?_, hb, fun id h => ?_⟩
        · rw [f1 id (by omega) fun h => by have := ha id h; omega, xfr id (by omega)]
          exact hfr id hid
        · rw [hstep]
          exact xm.frame (f1 _ xm.lt fun h => by have := ha _ h; omega)
        · rw [hstep, List.map_append, List.flatten_append]; simpa [intC] using o1
        · rw [hstep]
          exact xb.frame fun id h => f1 id (xb.lt h) fun h' => hd id h' h
        · rcases at1 id h with h | h
          · exact ha id h
          · omega
        · rcases at1 id h with h | h
          · exact hd id h
          · intro h'; have := xb.lt h'; omega
      | none =>
        have hst : numSt (E, Q) t = (E ++ [(tkKey t, (E.length : Int))], Q ++ [(E.length : Int)]) := by unfold numSt; rw [hk]
        rw [hk] at hlook
        simp only [Option.map_none, Option.getD_none, Option.isSome_none] at hlook
        have hput := map_put (P := Try.prog) (v := (E.length : Int)) keyEqK mt131 xm (keyOkK (tkKey t)) rfl
        rw [putA_new hk] at hput
        simp only [ekK, evI] at hput
        obtain ⟨Hy, hHy⟩ : ∃ Hy, Hy = Hx.set H.length (.map 88 ((E ++ [(tkKey t, (E.length : Int))]).map (enP ekK evI))) := ⟨_, rfl⟩
        have hyl : Hy.length = Hx.length := by rw [hHy]; simp
        have yfr : ∀ id, id ≠ H.length → Hy[id]? = Hx[id]? := fun id h => by rw [hHy, List.getElem?_set_ne (fun e => h e.symm)]
        have yb : Own Hy b 5 (E.map keyE).flatten := xb.frame fun id h => yfr id (by have := hb id h; omega)
        have ya : Own Hy a 1 (Q.map intC).flatten := xa.frame fun id h => yfr id (by have := ha id h; omega)
        have ym : MapOf Hy H.length 88 ekK evI (E ++ [(tkKey t, (E.length : Int))]) := by rw [hHy]; exact map_set_of xm.lt
        have y9 : loadV Try.prog 88 Hy (.ptr (H' ++ [AB.row 0 (tkC t) true]).length 0 0) = some (.agg (keyC (tkKey t))) := by
          rw [← x9]; exact load_frame (yfr _ (by simp; omega))
        obtain ⟨b', H1, e1, o1, f1, le1, at1⟩ := yb.push (by_ := 40) (ys := keyC (tkKey t)) rfl rfl (by omega) (by omega) (by omega)
        have za : Own H1 a 1 (Q.map intC).flatten := ya.frame fun id h => f1 id (ya.lt h) (hd id h)
        obtain ⟨a', H2, e2, o2, f2, le2, at2⟩ := za.push (by_ := 8) (ys := [.int .i64 E.length]) rfl rfl (by omega) (by omega) (by omega)
        rw [← hHy] at hput
        rw [hHx] at hput hlook
        rw [l47_eq]
        simp (config := { maxSteps := 1000000 }) (disch := first | exact lt_new _ | exact len_snoc _ _ _ | omega | (simp only [List.length_append, List.length_singleton, List.length_set]; done) | (simp only [List.length_append, List.length_singleton, List.length_set]; omega)) only [r47_5, r47_6, r47_7, r47_8, r47_9, r47_10, r47_11, r47_12, r47_13, r47_14, ↓reduceIte, go_sem, Nat.reduceLT, Nat.reduceEqDiff, Nat.reduceAdd, Nat.reduceMul, Nat.reduceLeDiff, Int.reduceLT, Int.reduceLE, Int.reduceEq, Int.reduceNeg, Int.reduceToNat, t14, t15, t16, t4, t5, t6, hlt', hi2, hag, fn48, hlook, hlenB, hput, y9, e1, e2, IntWalk.i64_in]
        rw [hst] at hstep
        have hxm := xm.lt
        refine ⟨_, by omega, i + 1, a', b', rfl, hlt, rfl, rfl, rfl, by omega, fun id hid => ?_, ?_, ?_, ?_, fun id h => ?_, fun id h => ?_, fun id h h' => ?_⟩
        · rw [f2 id (by omega) fun h => by have := ha id h; omega, f1 id (by omega) fun h => by have := hb id h; omega, yfr id (by omega), xfr id (by omega)]
          exact hfr id hid
        · rw [hstep]
          refine ym.frame ?_
          rw [f2 _ (by omega) fun h => by have := ha _ h; omega, f1 _ (by omega) fun h => by have := hb _ h; omega]
        · rw [hstep, List.map_append, List.flatten_append]; simpa [intC] using o2
        · rw [hstep, List.map_append, List.flatten_append]
          refine Own.frame (H := H1) (by simpa [keyE] using o1) fun id h => f2 id (o1.lt h) fun h' => ?_
          rcases at1 id h with h | h
          · exact hd id h' h
          · have := ya.lt h'; omega
        · rcases at2 id h with h | h
          · exact ha id h
          · omega
        · rcases at1 id h with h | h
          · exact hb id h
          · omega
        · rcases at2 id h with h | h
          · rcases at1 id h' with h' | h'
            · exact hd id h h'
            · have := ya.lt h; omega
          · have := o1.lt h'; omega
    · obtain rfl : i = l.length := by omega
      rw [List.take_length] at oa ob
      have na := oa.nt
      have nb := ob.nt
      simp (disch := omega) only [l47_15, r47_5, r47_16, rs47, ↓reduceIte, go_sem, Nat.reduceLT, Nat.reduceEqDiff, Nat.reduceAdd, Nat.reduceMul, Nat.reduceLeDiff, Int.reduceLT, Int.reduceLE, Int.reduceEq, Int.reduceNeg, Int.reduceToNat, t14, t15, t16, t5, t6, Int.lt_irrefl, na, nb, Bool.not_false]
      exact ⟨a, b, rfl, oa, ob, hfr, fun id h => by have := ha id h; omega, fun id h => by have := hb id h; omega, hd⟩
  · refine ⟨0, .nilslice, .nilslice, rfl, by omega, rfl, ?_⟩
    simp only [↓reduceIte, go_sem, Nat.reduceLT, Nat.reduceEqDiff, Nat.reduceAdd, Nat.reduceMul, Nat.reduceLeDiff, Int.reduceLT, Int.reduceLE, Int.reduceEq, Int.reduceNeg, Int.reduceToNat]
    exact ⟨by simp, fun id hid => List.getElem?_append_left hid, map_new, own_nil _ _, own_nil _ _, by simp [At], by simp [At], by simp [At]⟩
end Go.Proofs.Ytdpdlobaabcjjaa
/-
  Conversations made of messages, by the program: the plain law. No statement of the seat stands here.
-/
namespace Go.Proofs.Ytdpdlobaabcjjaa
open Go Go.Am
set_option maxRecDepth 4000
set_option linter.unusedSimpArgs false
set_option linter.unusedVariables false

def emptyS (k : Key) : Sm := ⟨k.a, k.ap, k.b, k.bp, k.proto, 0, 0, 0, 0, 1000000000000000, 0⟩
def setAtS (S : List Sm) (j : Nat) (t : Tk) : List Sm := match S[j]? with
  | some x => S.set j (bump t x)
  | none => S
def sumTo (l : List Tk) (Q : List Int) (S : List Sm) : Nat → List Sm
  | 0 => S
  | i + 1 => match l[i]?, Q[i]? with
    | some t, some q => setAtS (sumTo l Q S i) q.toNat t
    | _, _ => sumTo l Q S i
theorem setAtS_len (S : List Sm) (j : Nat) (t : Tk) : (setAtS S j t).length = S.length := by
  unfold setAtS
  split <;> simp
theorem sumTo_len (l : List Tk) (Q : List Int) (S : List Sm) : ∀ i, (sumTo l Q S i).length = S.length
  | 0 => rfl
  | i + 1 => by
    unfold sumTo
    split
    · rw [setAtS_len, sumTo_len l Q S i]
    · exact sumTo_len l Q S i
/-- The numbers told are places. -/
def Idx (E : List (Key × Int)) : Prop := ∀ (j : Nat) p, E[j]? = some p → p.2 = (j : Int)
theorem Idx.look {E : List (Key × Int)} (h : Idx E) {k : Key} {v : Int} (hk : lookA E k = some v) : 0 ≤ v ∧ v < E.length := by
  obtain ⟨i, _, h2, _⟩ := findM_some (ek := ekK) (ev := evI) keyEqK E k v hk
  have h3 := h i _ h2
  have h4 := (List.getElem?_eq_some_iff.1 h2).1
  simp only at h3
  omega
theorem Idx.snoc {E : List (Key × Int)} (h : Idx E) (k : Key) : Idx (E ++ [(k, (E.length : Int))]) := by
  intro j p hp
  by_cases hj : j < E.length
  · rw [List.getElem?_append_left hj] at hp
    exact h j p hp
  · rw [List.getElem?_append_right (by omega)] at hp
    have : j - E.length = 0 := by
      have := (List.getElem?_eq_some_iff.1 hp).1
      simp only [List.length_singleton] at this
      omega
    rw [this] at hp
    simp at hp
    rw [← hp]
    simp only
    omega
structure NumOk (s : List (Key × Int) × List Int) : Prop where
  idx : Idx s.1
  inr : ∀ q ∈ s.2, 0 ≤ q ∧ q < s.1.length
theorem numSt_ok {s : List (Key × Int) × List Int} (h : NumOk s) (t : Tk) : NumOk (numSt s t) := by
  unfold numSt
  split
  · rename_i i hk
    refine ⟨h.idx, fun q hq => ?_⟩
    rcases List.mem_append.1 hq with hq | hq
    · exact h.inr q hq
    · obtain rfl := List.mem_singleton.1 hq
      exact h.idx.look hk
  · refine ⟨h.idx.snoc _, fun q hq => ?_⟩
    simp only [List.length_append, List.length_cons, List.length_nil]
    rcases List.mem_append.1 hq with hq | hq
    · have := h.inr q hq; omega
    · obtain rfl := List.mem_singleton.1 hq
      omega
theorem numOf_ok (l : List Tk) : NumOk (numOf l) := by
  unfold numOf
  suffices h : ∀ (l : List Tk) s, NumOk s → NumOk (l.foldl numSt s) from h l _ ⟨fun j p hp => by simp at hp, by simp⟩
  intro l
  induction l with
  | nil => exact fun s h => h
  | cons t l ih => exact fun s h => ih _ (numSt_ok h t)
/-- What is told first stays. -/
theorem numSt_pre (s : List (Key × Int) × List Int) (t : Tk) : s.1 <+: (numSt s t).1 ∧ s.2 <+: (numSt s t).2 := by
  unfold numSt
  split
  · exact ⟨List.prefix_refl _, List.prefix_append _ _⟩
  · exact ⟨List.prefix_append _ _, List.prefix_append _ _⟩
theorem numOf_pre (l : List Tk) (i : Nat) : (numOf (l.take i)).1 <+: (numOf l).1 ∧ (numOf (l.take i)).2 <+: (numOf l).2 := by
  suffices h : ∀ (l : List Tk) s, s.1 <+: (l.foldl numSt s).1 ∧ s.2 <+: (l.foldl numSt s).2 by
    have := h (l.drop i) (numOf (l.take i))
    unfold numOf at this ⊢
    rw [← List.foldl_append, List.take_append_drop] at this
    exact this
  intro l
  induction l with
  | nil => exact fun s => ⟨List.prefix_refl _, List.prefix_refl _⟩
  | cons t l ih => exact fun s => ⟨(numSt_pre s t).1.trans (ih _).1, (numSt_pre s t).2.trans (ih _).2⟩
theorem find_look (k : Key) : ∀ (C : List Sm) (E : List (Key × Int)) (n : Int), C.map keyOf = E.map (·.1) → (∀ (j : Nat) p, E[j]? = some p → p.2 = n + j) → findI (fun x => keyEq (keyOf x) k) C n = (lookA E k).getD (-1)
  | [], [], n, _, _ => rfl
  | [], p :: E, n, h, _ => by simp at h
  | c :: C, [], n, h, _ => by simp at h
  | c :: C, p :: E, n, h, hi => by
    simp only [List.map_cons, List.cons.injEq] at h
    unfold findI lookA
    by_cases hk : p.1 = k
    · have h0 := hi 0 p rfl
      rw [if_pos hk, if_pos (by rw [h.1]; exact (keyEq_iff _ _).2 hk)]
      simp [h0]
    · rw [if_neg hk, if_neg (by rw [h.1]; exact fun e => hk ((keyEq_iff _ _).1 e))]
      refine find_look k C E (n + 1) h.2 fun j q hq => ?_
      have := hi (j + 1) q (by simpa using hq)
      omega
theorem keyOf_bump (t : Tk) (s : Sm) : keyOf (bump t s) = keyOf s := by
  unfold bump
  dsimp only
  split <;> rfl
theorem keyOf_new (t : Tk) : keyOf (newSm t) = tkKey t := rfl
theorem bump_empty {t : Tk} (h0 : 0 ≤ t.time) (h1 : t.time ≤ 1000000000000000) : bump t (emptyS (tkKey t)) = bump t (newSm t) := by
  unfold bump emptyS newSm
  dsimp only
  have e1 : (if t.time < 1000000000000000 then t.time else 1000000000000000) = if t.time < t.time then t.time else t.time := by
    simp; omega
  have e2 : (if t.time > 0 then t.time else 0) = if t.time > t.time then t.time else t.time := by
    simp; omega
  rw [e1, e2]
theorem ok_time {t : Tk} (h : okTalk t = true) : 0 ≤ t.time ∧ t.time ≤ 1000000000000000 := by
  simp only [okTalk, inB, Bool.and_eq_true, decide_eq_true_eq] at h
  exact h.1
theorem set_map_keys (C : List Sm) (j : Nat) (x y : Sm) (h : C[j]? = some x) (hk : keyOf y = keyOf x) : (C.set j y).map keyOf = C.map keyOf := by
  apply List.ext_getElem?
  intro i
  rw [List.getElem?_map, List.getElem?_map]
  by_cases hi : i = j
  · subst hi
    rw [List.getElem?_set_self (List.getElem?_eq_some_iff.1 h).1, h]
    simp [hk]
  · rw [List.getElem?_set_ne (fun e => hi e.symm)]
theorem sum_law (l : List Tk) (hok : l.all okTalk = true) : ∀ i, i ≤ l.length → (convsOf (l.take i)).map keyOf = (numOf (l.take i)).1.map (·.1) ∧ sumTo l (numOf l).2 ((numOf l).1.map fun p => emptyS p.1) i = convsOf (l.take i) ++ ((numOf l).1.drop (convsOf (l.take i)).length).map fun p => emptyS p.1
  | 0, _ => by
    refine ⟨rfl, ?_⟩
    simp [convsOf, sumTo]
  | i + 1, hi => by
    obtain ⟨t, ht⟩ : ∃ t, l[i]? = some t := ⟨_, List.getElem?_eq_getElem (by omega)⟩
    obtain ⟨h1, h2⟩ := sum_law l hok i (by omega)
    obtain ⟨n1, n2⟩ := numOf_len l i (by omega)
    obtain ⟨p1, p2⟩ := numOf_pre l (i + 1)
    have htk : okTalk t = true := List.all_eq_true.1 hok t (List.mem_of_getElem? ht)
    obtain ⟨g0, g1⟩ := ok_time htk
    have hix := (numOf_ok (l.take i)).idx
    rw [numOf_snoc ht] at p1 p2 ⊢
    rw [convsOf_snoc ht]
    generalize convsOf (l.take i) = C at *
    generalize hN : numOf (l.take i) = N at *
    obtain ⟨E, Q⟩ := N
    simp only at n1 n2 h1 hix
    have hCE : C.length = E.length := by simpa using congrArg List.length h1
    have hfl := find_look (tkKey t) C E 0 h1 (fun j p hp => by rw [hix j p hp]; omega)
    have hst : sumTo l (numOf l).2 ((numOf l).1.map fun p => emptyS p.1) (i + 1) = match l[i]?, (numOf l).2[i]? with
      | some t, some q => setAtS (sumTo l (numOf l).2 ((numOf l).1.map fun p => emptyS p.1) i) q.toNat t
      | _, _ => sumTo l (numOf l).2 ((numOf l).1.map fun p => emptyS p.1) i := rfl
    rw [ht, h2] at hst
    cases hk : lookA E (tkKey t) with
    | some v =>
      have hn : numSt (E, Q) t = (E, Q ++ [v]) := by unfold numSt; rw [hk]
      rw [hn] at p1 p2 ⊢
      rw [hk] at hfl
      simp only [Option.getD_some] at hfl
      obtain ⟨v0, v1⟩ := hix.look hk
      obtain ⟨j, rfl⟩ : ∃ j : Nat, v = j := ⟨v.toNat, by omega⟩
      have hq : (numOf l).2[i]? = some (j : Int) := by
        obtain ⟨r, hr⟩ := p2
        rw [← hr]
        simp only
        rw [List.getElem?_append_left (by simp; omega), List.getElem?_append_right (by omega), n2]
        simp
      have hj : j < C.length := by omega
      obtain ⟨x, hx⟩ : ∃ x, C[j]? = some x := ⟨_, List.getElem?_eq_getElem hj⟩
      have hc : convStep C t = C.set j (bump t x) := by
        unfold convStep findS
        rw [hfl, if_neg (by omega), Int.toNat_natCast, hx]
      rw [hc]
      refine ⟨?_, ?_⟩
      · rw [set_map_keys C j x _ hx (keyOf_bump t x)]
        exact h1
      · rw [hst, hq]
        simp only [Int.toNat_natCast]
        unfold setAtS
        rw [List.getElem?_append_left hj, hx]
        simp only
        rw [List.set_append_left _ _ hj]
        simp
    | none =>
      have hn : numSt (E, Q) t = (E ++ [(tkKey t, (E.length : Int))], Q ++ [(E.length : Int)]) := by unfold numSt; rw [hk]
      rw [hn] at p1 p2 ⊢
      rw [hk] at hfl
      simp only [Option.getD_none] at hfl
      have hq : (numOf l).2[i]? = some (E.length : Int) := by
        obtain ⟨r, hr⟩ := p2
        rw [← hr]
        simp only
        rw [List.getElem?_append_left (by simp; omega), List.getElem?_append_right (by omega), n2]
        simp
      have hc : convStep C t = C ++ [bump t (newSm t)] := by
        unfold convStep findS
        rw [hfl, if_pos (by omega)]
        simp
      rw [hc]
      refine ⟨?_, ?_⟩
      · rw [List.map_append, h1, List.map_append]
        simp [keyOf_bump, keyOf_new]
      · rw [hst, hq]
        simp only [Int.toNat_natCast]
        obtain ⟨r, hr⟩ := p1
        simp only at hr
        have hd : (numOf l).1.drop C.length = (tkKey t, (E.length : Int)) :: r := by
          rw [← hr, hCE, List.append_assoc, List.drop_left]
          rfl
        have hd2 : (numOf l).1.drop (C ++ [bump t (newSm t)]).length = r := by
          rw [List.length_append, List.length_singleton, ← List.drop_drop, hd]
          rfl
        rw [hd, hd2]
        unfold setAtS
        rw [List.getElem?_append_right (by omega), hCE, Nat.sub_self]
        simp only [List.map_cons, List.getElem?_cons_zero]
        rw [List.set_append_right _ _ (by omega), hCE, Nat.sub_self, List.set_cons_zero, bump_empty g0 g1]
        simp
theorem sum_all_law {l : List Tk} (hok : l.all okTalk = true) : sumTo l (numOf l).2 ((numOf l).1.map fun p => emptyS p.1) l.length = convsOf l := by
  obtain ⟨h1, h2⟩ := sum_law l hok l.length (Nat.le_refl _)
  rw [List.take_length] at h1 h2
  rw [h2]
  have : (convsOf l).length = (numOf l).1.length := by simpa using congrArg List.length h1
  rw [this, List.drop_length]
  simp
end Go.Proofs.Ytdpdlobaabcjjaa
/-
  Conversations made of messages, by the program: walked. No statement of the seat stands here.
-/
namespace Go.Proofs.Ytdpdlobaabcjjaa
open Go Go.Am
set_option maxRecDepth 4000
set_option linter.unusedSimpArgs false
set_option linter.unusedVariables false

def tail20 : Cc := .seq (.reg r20_16) (.seq (.reg r20_17) (.seq (.reg r20_18) (.cond (.tmp 84) (.seq (.reg r20_19) (.reg r20_20)) (.seq (.reg r20_21) (.reg r20_22)))))
theorem l20_eq : l20_24 = .seq (.reg r20_13) (.seq (.cond (.tmp 49) .skip (.exit 2)) (.seq (.block 3 (.seq (.reg r20_14) (.seq (.reg r20_15) tail20))) (.reg r20_23))) := rfl
theorem set_app {Hc L : Hp} {id : Nat} {b : AB} (h : id < Hc.length) : Hc.set id b ++ L = (Hc ++ L).set id b := (List.set_append_left _ _ h).symm
set_option maxHeartbeats 1000000 in
theorem tail20_ok {T : Fr} {Hc : Hp} {R : Ex → Fr → Dfr → Hp → Prop} {out : V} {xs : List Sm} {x : Sm} {t : Tk} {i tb : Nat} (ho : Own Hc out 11 (xs.map smC).flatten) (hx : xs[i]? = some x) (t12 : get T 12 = .ptr (vid out) (vgen out) (voff out + i * 11)) (t11 : get T 11 = .ptr tb 0 0) (hne : ¬ At out tb)
    (hrow : Hc[tb]? = some (.row 0 (tkC t) true))
    (hR : ∀ T' H', get T' 5 = get T 5 → get T' 7 = get T 7 → get T' 46 = get T 46 → get T' 47 = get T 47 → get T' 48 = get T 48 → Own H' out 11 ((xs.set i (bump t x)).map smC).flatten → (∀ j, j < Hc.length → ¬ At out j → H'[j]? = Hc[j]?) → H'.length = Hc.length + 1 → R .nor T' [] H') :
    Wp Try.prog (callL Try.prog pr) 119 tail20 T [] Hc R := by
  have hi : i < xs.length := (List.getElem?_eq_some_iff.1 hx).1
  obtain ⟨id, g, pre, post, rfl, hid, hpre, hH, hset⟩ := ho.focus smC_len (by omega) hx
  have hne' : id ≠ tb := fun e => hne ⟨g, 0, xs.length, 11, .full, by rw [e]⟩
  have t12' : get T 12 = .ptr id g pre.length := t12.trans (by show V.ptr id g (0 + i * 11) = _; rw [hpre])
  have htb : tb < Hc.length := (List.getElem?_eq_some_iff.1 hrow).1
  have ld : ∀ k, loadV Try.prog 3 Hc (.ptr tb 0 k) = (tkC t)[k]? := fun k => by
    rw [loadV_ptr]
    unfold getRow
    rw [hrow]
    simp [partV, g3]
  have la : loadV Try.prog 58 Hc (.ptr tb 0 0) = some (.agg (tkC t)) := by
    rw [loadV_ptr]
    unfold getRow
    rw [hrow]
    simp [partV, g58, z58]
  have fin : ∀ T' x', x' = bump t x → get T' 5 = get T 5 → get T' 7 = get T 7 → get T' 46 = get T 46 → get T' 47 = get T 47 → get T' 48 = get T 48 → R .nor T' [] (Hc.set id (.row g (pre ++ smC x' ++ post) true) ++ [.row 0 (keyC (tkKey t)) true]) := by
    intro T' x' e k1 k2 k3 k4 k5
    subst e
    refine hR T' _ k1 k2 k3 k4 k5 (hset _).app (fun j hj hn => ?_) (by simp)
    rw [List.getElem?_append_left (by simpa using hj), List.getElem?_set_ne fun e => hn ⟨g, 0, xs.length, 11, .full, by rw [e]⟩]
  rw [hH]
  cases hg : goes t with
  | true =>
    simp (config := { maxSteps := 1000000 }) (disch := first | exact hid | exact hne' | exact Nat.le_of_ble_eq_true rfl | exact lt_new _ | exact rfl | omega | (simp only [List.length_append, List.length_singleton, List.length_set]; omega)) only [tail20, r20_16, r20_17, r20_18, r20_19, r20_20, ↓reduceIte, go_sem, Nat.reduceLT, Nat.reduceEqDiff, Nat.reduceAdd, Nat.reduceMul, Nat.reduceLeDiff, Int.reduceLT, Int.reduceLE, Int.reduceEq, Int.reduceNeg, Int.reduceToNat, t12', t11, foc_load g3, foc_stI z3, foc_other, ld, la, fn48, hg]
    refine fin _ ⟨x.a, x.ap, x.b, x.bp, x.proto, w64 (x.go + 1), w64 (x.gb + t.size), x.back, x.bb, if t.time < x.first then t.time else x.first, if t.time > x.last then t.time else x.last⟩ (by simp [bump, hg]) ?_ ?_ ?_ ?_ ?_ <;> simp only [↓reduceIte, go_sem, Nat.reduceLT, Nat.reduceEqDiff, Nat.reduceAdd, Nat.reduceMul, Nat.reduceLeDiff, Int.reduceLT, Int.reduceLE, Int.reduceEq, Int.reduceNeg, Int.reduceToNat]
  | false =>
    simp (config := { maxSteps := 1000000 }) (disch := first | exact hid | exact hne' | exact Nat.le_of_ble_eq_true rfl | exact lt_new _ | exact rfl | omega | (simp only [List.length_append, List.length_singleton, List.length_set]; omega)) only [tail20, r20_16, r20_17, r20_18, r20_21, r20_22, ↓reduceIte, go_sem, Nat.reduceLT, Nat.reduceEqDiff, Nat.reduceAdd, Nat.reduceMul, Nat.reduceLeDiff, Int.reduceLT, Int.reduceLE, Int.reduceEq, Int.reduceNeg, Int.reduceToNat, t12', t11, foc_load g3, foc_stI z3, foc_other, ld, la, fn48, hg]
    refine fin _ ⟨x.a, x.ap, x.b, x.bp, x.proto, x.go, x.gb, w64 (x.back + 1), w64 (x.bb + t.size), if t.time < x.first then t.time else x.first, if t.time > x.last then t.time else x.last⟩ (by simp [bump, hg]) ?_ ?_ ?_ ?_ ?_ <;> simp only [↓reduceIte, go_sem, Nat.reduceLT, Nat.reduceEqDiff, Nat.reduceAdd, Nat.reduceMul, Nat.reduceLeDiff, Int.reduceLT, Int.reduceLE, Int.reduceEq, Int.reduceNeg, Int.reduceToNat]
end Go.Proofs.Ytdpdlobaabcjjaa
/-
  Conversations made of messages, by the program: the loops. No statement of the seat stands here.
-/
namespace Go.Proofs.Ytdpdlobaabcjjaa
open Go Go.Am
set_option maxRecDepth 4000
set_option linter.unusedSimpArgs false
set_option linter.unusedVariables false

def resC (l : List Tk) : List Sm × Int := if valE l = 0 then (convsOf l, 0) else ([], valE l)
theorem valE_ok {l : List Tk} (h : valE l = 0) : l.length ≤ 200 ∧ l.all okTalk = true := by
  unfold valE at h
  split at h
  · simp at h
  · split at h
    · exact ⟨by omega, by assumption⟩
    · simp at h
theorem emptyS_snoc {E : List (Key × Int)} {i : Nat} {p : Key × Int} (h : E[i]? = some p) : (((E.take (i + 1)).map fun p => emptyS p.1).map smC).flatten = (((E.take i).map fun p => emptyS p.1).map smC).flatten ++ smC (emptyS p.1) := by
  rw [take_snoc h, List.map_append, List.map_append, List.flatten_append]; simp
set_option maxHeartbeats 1000000 in
theorem fn20 (H : Hp) (s : V) (l : List Tk) (hs : Sl H s 7 (l.map tkC)) : ∃ v H2, callL Try.prog pr 20 [s] H = some (.tup [v, .int .i64 (resC l).2], H2) ∧ Own H2 v 11 ((resC l).1.map smC).flatten ∧ (∃ G, H2 = H ++ G) ∧ ∀ id, At v id → H.length ≤ id := by
  have hl : (l.map tkC).length = l.length := List.length_map _
  have hlenS := fun H' => hs.len (P := Try.prog) (H' := H') s34
  rw [hl] at hlenS
  have h26 := fn26 H s l hs
  refine own_of (run20 (Nat.le_of_ble_eq_true rfl) ?_) (sm_leaf _) rfl
  by_cases he : valE l = 0
  · rw [he] at h26
    obtain ⟨n200, hall⟩ := valE_ok he
    obtain ⟨pv, kv, H1, e47, op, ok_, ⟨G, rfl⟩, fp, fk⟩ := fn47 H s l hs n200
    have hR : resC l = (convsOf l, 0) := by unfold resC; rw [if_pos he]
    rw [hR]
    obtain ⟨n1, n2⟩ := numOf_len l l.length (Nat.le_refl _)
    rw [List.take_length] at n1 n2
    have hin := (numOf_ok l).inr
    have hsum := sum_all_law hall
    generalize hN : numOf l = N at *
    obtain ⟨E, Q⟩ := N
    simp only at op ok_ n1 n2 hin hsum
    have fE := keyE_flat E
    have fQ := int_flat Q
    have sk := ok_.sl (keyE_all E) (by omega)
    have sp := op.sl (ints_all Q) (by omega)
    have hlenK := fun H' => sk.len (P := Try.prog) (H' := H') s94
    rw [List.length_map] at hlenK
    simp (disch := omega) only [c20, r20_0, r20_1, r20_2, r20_4, r20_5, r20_6, rs20, ↓reduceIte, go_sem, Nat.reduceLT, Nat.reduceEqDiff, Nat.reduceAdd, Nat.reduceMul, Nat.reduceLeDiff, Int.reduceLT, Int.reduceLE, Int.reduceEq, Int.reduceNeg, Int.reduceToNat, h26, e47, hlenK]
    refine Wp_loop (fun m T D H' => ∃ i out, m = E.length - i ∧ i ≤ E.length ∧ D = [] ∧ get T 0 = s ∧ get T 5 = pv ∧ get T 25 = kv ∧ get T 26 = .int .i64 E.length ∧ get T 27 = .int .i64 i ∧ get T 7 = out ∧ (H ++ G).length ≤ H'.length ∧ (∀ id, id < (H ++ G).length → H'[id]? = (H ++ G)[id]?) ∧ Own H' out 11 (((E.take i).map fun p => emptyS p.1).map smC).flatten ∧ ∀ id, At out id → (H ++ G).length ≤ id) ?_ E.length _ _ _ ?_
    · rintro m T D H' ⟨i, out, rfl, hi, rfl, t0, t5, t25, t26, t27, t7, hle, hfr, ho, hat⟩
      by_cases hlt : i < E.length
      · have hlt' : (i : Int) < E.length := by omega
        obtain ⟨p, hp⟩ : ∃ p, E[i]? = some p := ⟨_, List.getElem?_eq_getElem hlt⟩
        have hp' : (E.map keyE)[i]? = some (keyE p) := by rw [List.getElem?_map, hp]; rfl
        have hi2 := fun k => sk.idx (P := Try.prog) (k := k) s94 (i := i) (by rw [List.length_map]; exact hlt)
        have sk1 : Sl H' kv 5 (E.map keyE) := sk.move fun id h => hfr id (sk.at_lt h)
        have hag := sk1.agg (P := Try.prog) g88 z88 hp'
        simp only [keyE] at hag
        have hfl := sm_flat ((E.take i).map fun p => emptyS p.1)
        rw [List.length_map, List.length_take, Nat.min_eq_left hi] at hfl
        have oX : Own (H' ++ [AB.row 0 (keyC p.1) true]) out 11 (((E.take i).map fun p => emptyS p.1).map smC).flatten := ho.app
        obtain ⟨o', H1, e1, o1, f1, le1, at1⟩ := oX.push (by_ := 88) (ys := smC (emptyS p.1)) rfl rfl (by omega) (by omega) (by omega)
        simp only [emptyS] at e1
        simp (config := { maxSteps := 1000000 }) (disch := first | exact lt_new _ | exact len_snoc _ _ _ | omega | (simp only [List.length_append, List.length_singleton, List.length_set]; done) | (simp only [List.length_append, List.length_singleton, List.length_set]; omega)) only [l20_11, r20_7, r20_8, r20_9, r20_10, ↓reduceIte, go_sem, Nat.reduceLT, Nat.reduceEqDiff, Nat.reduceAdd, Nat.reduceMul, Nat.reduceLeDiff, Int.reduceLT, Int.reduceLE, Int.reduceEq, Int.reduceNeg, Int.reduceToNat, t0, t5, t25, t26, t27, t7, hlt', hi2, hag, e1, IntWalk.i64_in]
        have hXl : (H' ++ [AB.row 0 (keyC p.1) true]).length = H'.length + 1 := by simp
        refine ⟨_, by omega, i + 1, o', rfl, hlt, rfl, rfl, by omega, fun id hid => ?_, ?_, fun id h => ?_⟩
        · rw [f1 id (by omega) fun h => by have := hat id h; omega, List.getElem?_append_left (by omega)]
          exact hfr id hid
        · rw [emptyS_snoc hp]; exact o1
        · rcases at1 id h with h | h
          · exact hat id h
          · omega
      · obtain rfl : i = E.length := by omega
        rw [List.take_length] at ho
        simp (disch := omega) only [l20_11, r20_7, r20_12, ↓reduceIte, go_sem, Nat.reduceLT, Nat.reduceEqDiff, Nat.reduceAdd, Nat.reduceMul, Nat.reduceLeDiff, Int.reduceLT, Int.reduceLE, Int.reduceEq, Int.reduceNeg, Int.reduceToNat, t0, t5, t25, t26, t27, t7, hlenS, Int.lt_irrefl]
        refine Wp_loop (fun m T D H2 => ∃ i, m = l.length - i ∧ i ≤ l.length ∧ D = [] ∧ get T 5 = pv ∧ get T 7 = out ∧ get T 46 = s ∧ get T 47 = .int .i64 l.length ∧ get T 48 = .int .i64 i ∧ (H ++ G).length ≤ H2.length ∧ (∀ id, id < (H ++ G).length → H2[id]? = (H ++ G)[id]?) ∧ Own H2 out 11 ((sumTo l Q (E.map fun p => emptyS p.1) i).map smC).flatten) ?_ l.length _ _ _ ?_
        · rintro m T D H2 ⟨i, rfl, hi, rfl, t5, t7, t46, t47, t48, hle, hfr, ho⟩
          by_cases hlt : i < l.length
          · have hlt' : (i : Int) < l.length := by omega
            obtain ⟨t, ht⟩ : ∃ t, l[i]? = some t := ⟨_, List.getElem?_eq_getElem hlt⟩
            have hx' : (l.map tkC)[i]? = some (tkC t) := by rw [List.getElem?_map, ht]; rfl
            have hi2 := fun k => hs.idx (P := Try.prog) (k := k) s34 (i := i) (by omega)
            have hs1 : Sl H2 s 7 (l.map tkC) := hs.move fun id h => by
              have := hs.at_lt h
              rw [hfr id (by rw [List.length_append]; omega), List.getElem?_append_left (by omega)]
            have hag := hs1.agg (P := Try.prog) g58 z58 hx'
            obtain ⟨q, hq⟩ : ∃ q, Q[i]? = some q := ⟨_, List.getElem?_eq_getElem (by omega)⟩
            obtain ⟨q0, q1⟩ := hin q (List.mem_of_getElem? hq)
            obtain ⟨j, rfl⟩ : ∃ j : Nat, q = j := ⟨q.toNat, by omega⟩
            have hq' : (Q.map intC)[i]? = some (intC (j : Int)) := by rw [List.getElem?_map, hq]; rfl
            have hp2 := fun k => sp.idx (P := Try.prog) (k := k) s22 (i := i) (by rw [List.length_map]; omega)
            have sp1 : Sl (H2 ++ [.row 0 (tkC t) true]) pv 1 (Q.map intC) := sp.move fun id h => by
              have := sp.at_lt h
              rw [List.getElem?_append_left (by omega), hfr id (by omega)]
            have hpc := sp1.cell0 (P := Try.prog) g3 hq' (by omega)
            simp only [intC] at hpc
            have hSl := sumTo_len l Q (E.map fun p => emptyS p.1) i
            rw [List.length_map] at hSl
            have hSn : sumTo l Q (E.map fun p => emptyS p.1) (i + 1) = match l[i]?, Q[i]? with
              | some t, some q => setAtS (sumTo l Q (E.map fun p => emptyS p.1) i) q.toNat t
              | _, _ => sumTo l Q (E.map fun p => emptyS p.1) i := rfl
            rw [ht, hq] at hSn
            simp only [Int.toNat_natCast] at hSn
            generalize hS : sumTo l Q (E.map fun p => emptyS p.1) i = S at *
            obtain ⟨x, hx⟩ : ∃ x, S[j]? = some x := ⟨_, List.getElem?_eq_getElem (by omega)⟩
            unfold setAtS at hSn
            rw [hx] at hSn
            simp only at hSn
            have fS := sm_flat S
            have so := ho.sl (sm_all S) (by omega)
            have hj2 := fun k => so.idx (P := Try.prog) (k := k) s40 (i := j) (by rw [List.length_map]; omega)
            rw [l20_eq]
            simp (config := { maxSteps := 1000000 }) (disch := first | exact lt_new _ | exact len_snoc _ _ _ | omega | (simp only [List.length_append, List.length_singleton, List.length_set]; done) | (simp only [List.length_append, List.length_singleton, List.length_set]; omega)) only [r20_13, r20_14, r20_15, r20_23, ↓reduceIte, go_sem, Nat.reduceLT, Nat.reduceEqDiff, Nat.reduceAdd, Nat.reduceMul, Nat.reduceLeDiff, Int.reduceLT, Int.reduceLE, Int.reduceEq, Int.reduceNeg, Int.reduceToNat, t5, t7, t46, t47, t48, hlt', hi2, hag, hp2, hpc, hj2, IntWalk.i64_in]
            refine tail20_ok (i := j) (tb := H2.length) (t := t) (out := out) ho.app hx (by simp only [↓reduceIte, go_sem, Nat.reduceLT, Nat.reduceEqDiff, Nat.reduceAdd, Nat.reduceMul, Nat.reduceLeDiff, Int.reduceLT, Int.reduceLE, Int.reduceEq, Int.reduceNeg, Int.reduceToNat]) (by simp only [↓reduceIte, go_sem, Nat.reduceLT, Nat.reduceEqDiff, Nat.reduceAdd, Nat.reduceMul, Nat.reduceLeDiff, Int.reduceLT, Int.reduceLE, Int.reduceEq, Int.reduceNeg, Int.reduceToNat]) (fun h => ?_) (by simp) fun T' H3 k5 k7 k46 k47 k48 ko kf kl => ?_
            · have := ho.lt h; omega
            · simp (disch := omega) only [↓reduceIte, go_sem, Nat.reduceLT, Nat.reduceEqDiff, Nat.reduceAdd, Nat.reduceMul, Nat.reduceLeDiff, Int.reduceLT, Int.reduceLE, Int.reduceEq, Int.reduceNeg, Int.reduceToNat, t5, t7, t46, t47, t48] at k5 k7 k46 k47 k48
              simp (disch := omega) only [r20_23, ↓reduceIte, go_sem, Nat.reduceLT, Nat.reduceEqDiff, Nat.reduceAdd, Nat.reduceMul, Nat.reduceLeDiff, Int.reduceLT, Int.reduceLE, Int.reduceEq, Int.reduceNeg, Int.reduceToNat, k5, k7, k46, k47, k48, IntWalk.i64_in]
              rw [List.length_append] at kl
              refine ⟨_, by omega, i + 1, rfl, hlt, rfl, by omega, fun id hid => ?_, by rw [hSn]; exact ko⟩
              rw [kf id (by rw [List.length_append]; omega) fun h => by have := hat id h; omega, List.getElem?_append_left (by omega)]
              exact hfr id hid
          · obtain rfl : i = l.length := by omega
            rw [hsum] at ho
            have nt := ho.nt
            simp (disch := omega) only [l20_24, r20_13, r20_25, rs20, ↓reduceIte, go_sem, Nat.reduceLT, Nat.reduceEqDiff, Nat.reduceAdd, Nat.reduceMul, Nat.reduceLeDiff, Int.reduceLT, Int.reduceLE, Int.reduceEq, Int.reduceNeg, Int.reduceToNat, t5, t7, t46, t47, t48, Int.lt_irrefl, nt, Bool.not_false]
            refine ⟨out, rfl, ho, fun id hid => ?_, fun id h => ?_⟩
            · rw [hfr id (by rw [List.length_append]; omega), List.getElem?_append_left hid]
            · have := hat id h
              rw [List.length_append] at this
              omega
        · refine ⟨0, rfl, by omega, rfl, ?_⟩
          simp only [↓reduceIte, go_sem, Nat.reduceLT, Nat.reduceEqDiff, Nat.reduceAdd, Nat.reduceMul, Nat.reduceLeDiff, Int.reduceLT, Int.reduceLE, Int.reduceEq, Int.reduceNeg, Int.reduceToNat, t5, t7]
          exact ⟨hle, hfr, ho⟩
    · refine ⟨0, .nilslice, rfl, by omega, rfl, ?_⟩
      simp only [↓reduceIte, go_sem, Nat.reduceLT, Nat.reduceEqDiff, Nat.reduceAdd, Nat.reduceMul, Nat.reduceLeDiff, Int.reduceLT, Int.reduceLE, Int.reduceEq, Int.reduceNeg, Int.reduceToNat]
      exact ⟨Nat.le_refl _, fun _ _ => trivial, own_nil _ _, by simp [At]⟩
  · have hR : resC l = ([], valE l) := by unfold resC; rw [if_neg he]
    rw [hR]
    simp (disch := omega) only [c20, r20_0, r20_1, r20_2, r20_3, rs20, ↓reduceIte, go_sem, Nat.reduceLT, Nat.reduceEqDiff, Nat.reduceAdd, Nat.reduceMul, Nat.reduceLeDiff, Int.reduceLT, Int.reduceLE, Int.reduceEq, Int.reduceNeg, Int.reduceToNat, h26, he]
    exact ⟨.nilslice, rfl, own_nil _ _, fun id hid => (by first | rfl | trivial), by simp [At]⟩
end Go.Proofs.Ytdpdlobaabcjjaa
/-
  The conversations of two lists of messages, put together, are those of both lists: the plain law. No statement of the seat stands here.
-/
namespace Go.Proofs.Ytdpdlobaabcjjaa
open Go Go.Am
set_option maxRecDepth 4000
set_option linter.unusedSimpArgs false
set_option linter.unusedVariables false

/-- The first with a key changed, or one laid behind. -/
def upd (k : Key) (f : Sm → Sm) (d : Sm) : List Sm → List Sm
  | [] => [d]
  | x :: l => if keyOf x = k then f x :: l else x :: upd k f d l
theorem upd_eq (k : Key) (f : Sm → Sm) (d : Sm) : ∀ (l : List Sm) (n : Int), 0 ≤ n → upd k f d l = if findI (fun x => keyEq (keyOf x) k) l n < 0 then l ++ [d] else match l[(findI (fun x => keyEq (keyOf x) k) l n - n).toNat]? with
    | some x => l.set (findI (fun x => keyEq (keyOf x) k) l n - n).toNat (f x)
    | none => l
  | [], n, hn => by simp [upd, findI]
  | x :: l, n, hn => by
    unfold upd findI
    by_cases hk : keyOf x = k
    · rw [if_pos hk, if_pos ((keyEq_iff _ _).2 hk), if_neg (by omega)]
      simp
    · rw [if_neg hk, if_neg fun e => hk ((keyEq_iff _ _).1 e), upd_eq k f d l (n + 1) (by omega)]
      rcases findI_ge (fun x => keyEq (keyOf x) k) l (n + 1) with h | h
      · rw [h, if_pos (by omega), if_pos (by omega)]; rfl
      · rw [if_neg (by omega), if_neg (by omega)]
        have e : (findI (fun x => keyEq (keyOf x) k) l (n + 1) - n).toNat = (findI (fun x => keyEq (keyOf x) k) l (n + 1) - (n + 1)).toNat + 1 := by omega
        rw [e, List.getElem?_cons_succ]
        cases l[(findI (fun x => keyEq (keyOf x) k) l (n + 1) - (n + 1)).toNat]? with
        | none => rfl
        | some y => simp
theorem convStep_upd (l : List Sm) (t : Tk) : convStep l t = upd (tkKey t) (bump t) (bump t (newSm t)) l := by
  rw [upd_eq _ _ _ l 0 (Int.le_refl _)]
  unfold convStep findS
  rw [Int.sub_zero]
  split
  · simp
  · rfl
theorem addStep_upd {a out : List Sm} {y : Sm} (h : findS a (keyOf y) = findS out (keyOf y)) : addStep a out y = upd (keyOf y) (fun x => addS x y) y out := by
  rw [upd_eq _ _ _ out 0 (Int.le_refl _)]
  unfold addStep
  rw [h, Int.sub_zero]
  rfl
theorem keyOf_add (x y : Sm) : keyOf (addS x y) = keyOf x := rfl
theorem mem_upd {k : Key} {f : Sm → Sm} {d z : Sm} : ∀ {l : List Sm}, z ∈ upd k f d l → z = d ∨ z ∈ l ∨ ∃ x ∈ l, z = f x
  | [], h => by simpa [upd] using h
  | x :: l, h => by
    unfold upd at h
    split at h
    · rcases List.mem_cons.1 h with h | h
      · exact .inr (.inr ⟨x, by simp, h⟩)
      · exact .inr (.inl (by simp [h]))
    · rcases List.mem_cons.1 h with h | h
      · exact .inr (.inl (by simp [h]))
      · rcases mem_upd h with h | h | ⟨y, h1, h2⟩
        · exact .inl h
        · exact .inr (.inl (by simp [h]))
        · exact .inr (.inr ⟨y, by simp [h1], h2⟩)
theorem keys_upd {k : Key} {f : Sm → Sm} {d : Sm} (hf : ∀ x, keyOf (f x) = keyOf x) (hd : keyOf d = k) : ∀ (l : List Sm), (upd k f d l).map keyOf = if k ∈ l.map keyOf then l.map keyOf else l.map keyOf ++ [k]
  | [] => by simp [upd, hd]
  | x :: l => by
    unfold upd
    by_cases hk : keyOf x = k
    · rw [if_pos hk]
      simp [hf, hk]
    · rw [if_neg hk]
      have hk' : ¬ k = keyOf x := fun e => hk e.symm
      simp only [List.map_cons, keys_upd hf hd l, List.mem_cons, hk', false_or]
      split <;> simp
theorem nodup_upd {k : Key} {f : Sm → Sm} {d : Sm} (hf : ∀ x, keyOf (f x) = keyOf x) (hd : keyOf d = k) {l : List Sm} (h : (l.map keyOf).Nodup) : ((upd k f d l).map keyOf).Nodup := by
  rw [keys_upd hf hd l]
  split
  · exact h
  · rename_i hn
    rw [List.nodup_append]
    refine ⟨h, by simp, fun a ha b hb => ?_⟩
    obtain rfl := List.mem_singleton.1 hb
    exact fun e => hn (e ▸ ha)
theorem convs_keys (l : List Tk) : ((convsOf l).map keyOf).Nodup := by
  unfold convsOf
  suffices h : ∀ (l : List Tk) (s : List Sm), (s.map keyOf).Nodup → ((l.foldl convStep s).map keyOf).Nodup from h l [] (by simp)
  intro l
  induction l with
  | nil => exact fun s h => h
  | cons t l ih =>
    intro s h
    refine ih _ ?_
    rw [convStep_upd]
    exact nodup_upd (keyOf_bump t) (by rw [keyOf_bump, keyOf_new]) h
/-- The numbers go round no more. -/
structure Wr (s : Sm) : Prop where
  a : w64 s.go = s.go
  b : w64 s.gb = s.gb
  c : w64 s.back = s.back
  d : w64 s.bb = s.bb
theorem w64_w (n : Int) : w64 (w64 n) = w64 n := by
  unfold w64
  simp only [IntKind.wrap_i64]; omega
theorem w64_0 : w64 0 = 0 := rfl
theorem bump_wr {s : Sm} (h : Wr s) (t : Tk) : Wr (bump t s) := by
  unfold bump
  dsimp only
  split
  · exact ⟨w64_w _, w64_w _, h.c, h.d⟩
  · exact ⟨h.a, h.b, w64_w _, w64_w _⟩
theorem new_wr (t : Tk) : Wr (newSm t) := ⟨rfl, rfl, rfl, rfl⟩
theorem add_wr (x y : Sm) : Wr (addS x y) := ⟨w64_w _, w64_w _, w64_w _, w64_w _⟩
theorem w64_r (x y z : Int) : w64 (x + w64 (y + z)) = w64 (w64 (x + y) + z) := by
  unfold w64
  simp only [IntKind.wrap_i64]; omega
theorem min_3 (a b c : Int) : (if (if c < b then c else b) < a then (if c < b then c else b) else a) = if c < (if b < a then b else a) then c else (if b < a then b else a) := by
  by_cases h1 : c < b <;> by_cases h2 : b < a <;> by_cases h3 : c < a <;> simp [h1, h2, h3] <;> omega
theorem max_3 (a b c : Int) : (if a < (if c > b then c else b) then (if c > b then c else b) else a) = if c > (if a < b then b else a) then c else (if a < b then b else a) := by
  by_cases h1 : c > b <;> by_cases h2 : a < b <;> by_cases h3 : a < c <;> simp [h1, h2, h3] <;> omega
theorem add_bump (x y : Sm) (t : Tk) : addS x (bump t y) = bump t (addS x y) := by
  unfold bump addS
  dsimp only
  split
  · simp only [w64_r, min_3, max_3]
  · simp only [w64_r, min_3, max_3]
theorem add_new {x : Sm} (h : Wr x) (t : Tk) : addS x (bump t (newSm t)) = bump t x := by
  unfold bump addS newSm
  dsimp only
  split
  · simp only [Int.zero_add, Int.add_zero, h.c, h.d, w64_r, h.a, h.b]
    simp only [Int.lt_irrefl, gt_iff_lt, if_false]
    have e1 : w64 (x.go + w64 1) = w64 (x.go + 1) := by have := w64_r x.go 0 1; simpa [h.a] using this
    have e2 : w64 (x.gb + w64 t.size) = w64 (x.gb + t.size) := by have := w64_r x.gb 0 t.size; simpa [h.b] using this
    rw [e1, e2]
  · simp only [Int.zero_add, Int.add_zero, h.c, h.d, w64_r, h.a, h.b]
    simp only [Int.lt_irrefl, gt_iff_lt, if_false]
    have e1 : w64 (x.back + w64 1) = w64 (x.back + 1) := by have := w64_r x.back 0 1; simpa [h.c] using this
    have e2 : w64 (x.bb + w64 t.size) = w64 (x.bb + t.size) := by have := w64_r x.bb 0 t.size; simpa [h.d] using this
    rw [e1, e2]
/-- One list laid into another one. -/
def merge (a : List Sm) (ys : List Sm) : List Sm := ys.foldl (fun out y => upd (keyOf y) (fun x => addS x y) y out) a
theorem upd_congr {k : Key} {f g : Sm → Sm} {d : Sm} : ∀ {l : List Sm}, (∀ x ∈ l, f x = g x) → upd k f d l = upd k g d l
  | [], _ => rfl
  | x :: l, h => by
    unfold upd
    rw [h x (by simp), upd_congr fun y hy => h y (by simp [hy])]
theorem upd_twice {k : Key} {f g : Sm → Sm} {d e : Sm} (hf : ∀ x, keyOf (f x) = keyOf x) (hd : keyOf d = k) : ∀ (l : List Sm), upd k g e (upd k f d l) = upd k (fun x => g (f x)) (g d) l
  | [] => by simp [upd, hd]
  | x :: l => by
    by_cases hk : keyOf x = k
    · simp [upd, hf, hk]
    · simp [upd, hk, upd_twice hf hd l]
theorem upd_comm {k k' : Key} {f f' : Sm → Sm} {d d' : Sm} (hne : k ≠ k') (hf : ∀ x, keyOf (f x) = keyOf x) (hf' : ∀ x, keyOf (f' x) = keyOf x) : ∀ (l : List Sm), k ∈ l.map keyOf → upd k' f' d' (upd k f d l) = upd k f d (upd k' f' d' l)
  | [], h => by simp at h
  | x :: l, h => by
    by_cases h1 : keyOf x = k
    · have h2 : ¬ keyOf x = k' := fun e => hne (h1.symm.trans e)
      simp [upd, h1, hf, hne]
    · by_cases h2 : keyOf x = k'
      · have : ¬ k' = k := fun e => hne e.symm
        simp [upd, h2, hf', this]
      · simp only [upd, if_neg h1, if_neg h2]
        have h' : k ∈ l.map keyOf := by
          rcases List.mem_cons.1 h with e | e
          · exact absurd e.symm h1
          · exact e
        rw [upd_comm hne hf hf' l h']
theorem merge_upd_comm {k : Key} {f : Sm → Sm} {d : Sm} (hf : ∀ x, keyOf (f x) = keyOf x) : ∀ (ys l : List Sm), k ∈ l.map keyOf → (∀ y ∈ ys, keyOf y ≠ k) → merge (upd k f d l) ys = upd k f d (merge l ys)
  | [], l, _, _ => rfl
  | y :: ys, l, hk, hy => by
    show merge (upd (keyOf y) (fun x => addS x y) y (upd k f d l)) ys = upd k f d (merge (upd (keyOf y) (fun x => addS x y) y l) ys)
    rw [upd_comm (f' := fun x => addS x y) (fun e => hy y (by simp) e.symm) hf (fun x => keyOf_add x y) l hk]
    refine merge_upd_comm hf ys _ ?_ fun z hz => hy z (by simp [hz])
    rw [keys_upd (f := fun x => addS x y) (fun x => keyOf_add x y) rfl]
    split
    · exact hk
    · exact List.mem_append_left _ hk
theorem merge_upd {t : Tk} {k : Key} (hk : tkKey t = k) : ∀ (ys l : List Sm), (∀ x ∈ l, Wr x) → (∀ x ∈ ys, Wr x) → (ys.map keyOf).Nodup → merge l (upd k (bump t) (bump t (newSm t)) ys) = upd k (bump t) (bump t (newSm t)) (merge l ys)
  | [], l, hl, _, _ => by
    have hd : keyOf (bump t (newSm t)) = k := by rw [keyOf_bump, keyOf_new, hk]
    show upd (keyOf (bump t (newSm t))) (fun x => addS x (bump t (newSm t))) (bump t (newSm t)) l = upd k (bump t) (bump t (newSm t)) l
    rw [hd]
    exact upd_congr fun x hx => add_new (hl x hx) t
  | y :: ys, l, hl, hys, hn => by
    simp only [List.map_cons, List.nodup_cons] at hn
    by_cases hy : keyOf y = k
    · have e : upd k (bump t) (bump t (newSm t)) (y :: ys) = bump t y :: ys := by simp [upd, hy]
      rw [e]
      show merge (upd (keyOf (bump t y)) (fun x => addS x (bump t y)) (bump t y) l) ys = upd k (bump t) (bump t (newSm t)) (merge (upd (keyOf y) (fun x => addS x y) y l) ys)
      rw [keyOf_bump, hy, ← merge_upd_comm (keyOf_bump t) ys _ ?_ ?_]
      · rw [upd_twice (f := fun x => addS x y) (fun x => keyOf_add x y) hy]
        rw [upd_congr (f := fun x => addS x (bump t y)) (g := fun x => bump t (addS x y)) fun x _ => add_bump x y t]
      · rw [keys_upd (f := fun x => addS x y) (fun x => keyOf_add x y) hy]
        split
        · assumption
        · simp
      · intro z hz e
        exact hn.1 (List.mem_map.2 ⟨z, hz, by rw [e, hy]⟩)
    · have e : upd k (bump t) (bump t (newSm t)) (y :: ys) = y :: upd k (bump t) (bump t (newSm t)) ys := by simp [upd, hy]
      rw [e]
      refine merge_upd hk ys (upd (keyOf y) (fun x => addS x y) y l) (fun z hz => ?_) (fun z hz => hys z (by simp [hz])) hn.2
      rcases mem_upd hz with h | h | ⟨x, _, h⟩
      · rw [h]; exact hys y (by simp)
      · exact hl z h
      · rw [h]; exact add_wr _ _
theorem convs_wr (l : List Tk) : ∀ x ∈ convsOf l, Wr x := by
  unfold convsOf
  suffices h : ∀ (l : List Tk) (s : List Sm), (∀ x ∈ s, Wr x) → ∀ x ∈ l.foldl convStep s, Wr x from h l [] (by simp)
  intro l
  induction l with
  | nil => exact fun s h => h
  | cons t l ih =>
    intro s h
    refine ih _ fun x hx => ?_
    rw [convStep_upd] at hx
    rcases mem_upd hx with h' | h' | ⟨y, h1, h2⟩
    · rw [h']; exact bump_wr (new_wr t) t
    · exact h x h'
    · rw [h2]; exact bump_wr (h y h1) t
theorem convs_app (l1 : List Tk) : ∀ (n : Nat) (l2 : List Tk), l2.length = n → convsOf (l1 ++ l2) = merge (convsOf l1) (convsOf l2)
  | 0, l2, h => by
    obtain rfl := List.length_eq_zero_iff.1 h
    simp [convsOf, merge]
  | n + 1, l2, h => by
    obtain ⟨l, t, rfl⟩ : ∃ l t, l2 = l ++ [t] := by
      rcases List.eq_nil_or_concat l2 with rfl | ⟨l, t, rfl⟩
      · simp at h
      · exact ⟨l, t, by simp⟩
    have e : ∀ l' : List Tk, convsOf (l' ++ [t]) = convStep (convsOf l') t := fun l' => by
      unfold convsOf
      rw [List.foldl_append]; rfl
    rw [← List.append_assoc, e, e, convs_app l1 n l (by simpa using h), convStep_upd, convStep_upd]
    exact (merge_upd rfl _ _ (convs_wr l1) (convs_wr l) (convs_keys l)).symm
theorem findS_map (l : List Sm) (k : Key) : findS l k = findI (fun k' => keyEq k' k) (l.map keyOf) 0 := by
  unfold findS
  generalize (0 : Int) = n
  induction l generalizing n with
  | nil => rfl
  | cons x l ih =>
    simp only [List.map_cons, findI]
    rw [ih]
theorem findI_app (p : Key → Bool) : ∀ (xs ys : List Key) (n : Int), (∀ y ∈ ys, p y = false) → findI p (xs ++ ys) n = findI p xs n
  | [], [], n, _ => rfl
  | [], y :: ys, n, h => by
    have := findI_app p [] ys (n + 1) fun z hz => h z (by simp [hz])
    simp only [List.nil_append] at this ⊢
    unfold findI
    rw [h y (by simp), if_neg (by simp), this]
    rfl
  | x :: xs, ys, n, h => by
    simp only [List.cons_append, findI]
    rw [findI_app p xs ys (n + 1) h]
theorem addR_merge {a : List Sm} : ∀ (ys out : List Sm) (ext : List Key), out.map keyOf = a.map keyOf ++ ext → (∀ y ∈ ys, keyOf y ∉ ext) → (ys.map keyOf).Nodup → addR a ys out = merge out ys
  | [], out, ext, _, _, _ => rfl
  | y :: ys, out, ext, h, he, hn => by
    simp only [List.map_cons, List.nodup_cons] at hn
    have hf : findS a (keyOf y) = findS out (keyOf y) := by
      rw [findS_map, findS_map, h]
      refine (findI_app _ _ _ _ fun z hz => ?_).symm
      rw [← Bool.not_eq_true]
      exact fun e => he y (by simp) ((keyEq_iff _ _).1 e ▸ hz)
    show addR a ys (addStep a out y) = merge (upd (keyOf y) (fun x => addS x y) y out) ys
    rw [addStep_upd hf]
    have hk := keys_upd (k := keyOf y) (f := fun x => addS x y) (d := y) (fun x => keyOf_add x y) rfl out
    rw [h] at hk
    split at hk
    · exact addR_merge ys _ ext hk (fun z hz => he z (by simp [hz])) hn.2
    · refine addR_merge ys _ (ext ++ [keyOf y]) (by rw [hk, List.append_assoc]) (fun z hz hm => ?_) hn.2
      rcases List.mem_append.1 hm with hm | hm
      · exact he z (by simp [hz]) hm
      · exact hn.1 (List.mem_map.2 ⟨z, hz, List.mem_singleton.1 hm⟩)
end Go.Proofs.Ytdpdlobaabcjjaa
/-
  What two lists of conversations are together: the statement's function, walked. No statement of the seat stands here.
-/
namespace Go.Proofs.Ytdpdlobaabcjjaa
open Go Go.Am
set_option maxRecDepth 4000
set_option linter.unusedSimpArgs false
set_option linter.unusedVariables false

theorem rd_talk {H : Hp} {m : Nat} {x : List V} (h : RdT Try.prog H (m + 2) 58 x) : ∃ t : Tk, x = tkC t ∧ True := by
  obtain ⟨xss, rfl, k0⟩ := rd_parts (ts := [3, 3, 3, 3, 3, 3, 3]) (by kernel_rfl) h
  clear h
  obtain ⟨x1, l1, rfl, h1, k1⟩ := rdTs_cons k0
  obtain ⟨x2, l2, rfl, h2, k2⟩ := rdTs_cons k1
  obtain ⟨x3, l3, rfl, h3, k3⟩ := rdTs_cons k2
  obtain ⟨x4, l4, rfl, h4, k4⟩ := rdTs_cons k3
  obtain ⟨x5, l5, rfl, h5, k5⟩ := rdTs_cons k4
  obtain ⟨x6, l6, rfl, h6, k6⟩ := rdTs_cons k5
  obtain ⟨x7, l7, rfl, h7, k7⟩ := rdTs_cons k6
  obtain rfl := rdTs_nil k7
  obtain ⟨a1, rfl, -⟩ := rd_i64 (m := m) u3 h1
  obtain ⟨a2, rfl, -⟩ := rd_i64 (m := m) u3 h2
  obtain ⟨a3, rfl, -⟩ := rd_i64 (m := m) u3 h3
  obtain ⟨a4, rfl, -⟩ := rd_i64 (m := m) u3 h4
  obtain ⟨a5, rfl, -⟩ := rd_i64 (m := m) u3 h5
  obtain ⟨a6, rfl, -⟩ := rd_i64 (m := m) u3 h6
  obtain ⟨a7, rfl, -⟩ := rd_i64 (m := m) u3 h7
  exact ⟨⟨a1, a2, a3, a4, a5, a6, a7⟩, rfl, trivial⟩
theorem arg_talks {H : Hp} {m : Nat} {x : V} (h : ArgT Try.prog H (m + 3) 34 x) : ∃ l : List Tk, Sl H x 7 (l.map tkC) ∧ l.length ≤ 9223372036854775807 := by
  obtain ⟨l, _, h2, _, _, h4⟩ := arg_list (m := m + 2) (enc := tkC) (Ok := fun _ => True) u34 (sz := 7) (by kernel_rfl) (fun _ => rfl) (fun x hx => rd_talk hx) h
  exact ⟨l, h2, h4⟩
theorem valE_cases (l : List Tk) : valE l = 0 ∧ l.length ≤ 200 ∨ valE l ≠ 0 := by
  unfold valE
  by_cases h : 200 < l.length
  · rw [if_pos h]; exact .inr (by omega)
  · rw [if_neg h]
    split
    · exact .inl ⟨rfl, by omega⟩
    · exact .inr (by omega)
theorem convsOf_le (l : List Tk) : (convsOf l).length ≤ l.length := by
  have := convsOf_len l l.length
  rwa [List.take_length] at this
theorem addR_len (a : List Sm) : ∀ (ys out : List Sm), (addR a ys out).length ≤ out.length + ys.length
  | [], out => by simp [addR]
  | y :: ys, out => by
    show (addR a ys (addStep a out y)).length ≤ _
    have h := addR_len a ys (addStep a out y)
    have : (addStep a out y).length ≤ out.length + 1 := by
      unfold addStep
      split
      · simp
      · split <;> simp
    simp only [List.length_cons]
    omega
theorem resR_len {a b : List Sm} (ha : a.length ≤ 200) (hb : b.length ≤ 200) : (resR a b).1.length ≤ 400 := by
  have := addR_len a b a
  unfold resR
  split
  · simp
  · split
    · split
      · simp only; omega
      · simp
    · simp
set_option maxHeartbeats 1000000 in
theorem fn4 (H : Hp) (s1 s2 : V) (l1 l2 : List Tk) (a b c : Int) (hs1 : Sl H s1 7 (l1.map tkC)) (hs2 : Sl H s2 7 (l2.map tkC)) : callL Try.prog pr 4 [s1, s2, .agg [.int .i64 a, .int .i64 b, .int .i64 c]] H = some (.bool true, H) := by
  have hl1 : (l1.map tkC).length = l1.length := List.length_map _
  have hl2 : (l2.map tkC).length = l2.length := List.length_map _
  have hlenA := fun H' => hs1.len (P := Try.prog) (H' := H') s34
  have hlenB := fun H' => hs2.len (P := Try.prog) (H' := H') s34
  rw [hl1] at hlenA
  rw [hl2] at hlenB
  have v1 := fn13 (H ++ [.row 0 [.int .i64 a, .int .i64 b, .int .i64 c] true]) s1 l1 hs1.app
  have v2 := fn13 (H ++ [.row 0 [.int .i64 a, .int .i64 b, .int .i64 c] true]) s2 l2 hs2.app
  refine flat_of (run4 (Nat.le_of_ble_eq_true rfl) ?_) rfl rfl
  by_cases q1 : (800 : Int) < l1.length
  · simp (disch := first | exact lt_new _ | exact len_snoc _ _ _ | omega | (simp only [List.length_append, List.length_singleton, List.length_set]; done) | (simp only [List.length_append, List.length_singleton, List.length_set]; omega)) only [c4, r4_0, r4_1, r4_2, rs4, ↓reduceIte, go_sem, Nat.reduceLT, Nat.reduceEqDiff, Nat.reduceAdd, Nat.reduceMul, Nat.reduceLeDiff, Int.reduceLT, Int.reduceLE, Int.reduceEq, Int.reduceNeg, Int.reduceToNat, hlenA, q1, known_call]
    exact ⟨_, rfl⟩
  by_cases q2 : (800 : Int) < l2.length
  · simp (disch := first | exact lt_new _ | exact len_snoc _ _ _ | omega | (simp only [List.length_append, List.length_singleton, List.length_set]; done) | (simp only [List.length_append, List.length_singleton, List.length_set]; omega)) only [c4, r4_0, r4_1, r4_2, rs4, ↓reduceIte, go_sem, Nat.reduceLT, Nat.reduceEqDiff, Nat.reduceAdd, Nat.reduceMul, Nat.reduceLeDiff, Int.reduceLT, Int.reduceLE, Int.reduceEq, Int.reduceNeg, Int.reduceToNat, hlenA, hlenB, q1, q2, known_call]
    exact ⟨_, rfl⟩
  rcases valE_cases l1 with ⟨e1, n1⟩ | e1
  · rcases valE_cases l2 with ⟨e2, n2⟩ | e2
    · rw [e1] at v1
      rw [e2] at v2
      have m1 := convsOf_le l1
      have m2 := convsOf_le l2
      obtain ⟨o1, K1, c1, w1, ⟨G1, rfl⟩, -⟩ := fn15 (H ++ [.row 0 [.int .i64 a, .int .i64 b, .int .i64 c] true]) s1 l1 hs1.app n1
      obtain ⟨ks, hk, o2, K2, c2, w2, ⟨G2, rfl⟩, -⟩ := fn14 _ o1 (convsOf l1) a b c (w1.sl (sm_all _) (by omega)) (by omega)
      obtain ⟨o3, K3, c3, w3, ⟨G3, rfl⟩, -⟩ := fn15 _ s2 l2 (((hs2.app (L := [.row 0 [.int .i64 a, .int .i64 b, .int .i64 c] true])).app (L := G1)).app (L := G2)) n2
      have w2a := w2.app (L := G3)
      have fA := sm_flat ks
      have fB := sm_flat (convsOf l2)
      have x2 := w2a.sl (sm_all ks) (by omega)
      have x3 := w3.sl (sm_all (convsOf l2)) (by omega)
      obtain ⟨o4, K4, c4', w4, ⟨G4, rfl⟩, -⟩ := fn17 _ o2 ks x2 (by omega)
      obtain ⟨o5, K5, c5', w5, ⟨G5, rfl⟩, -⟩ := fn17 _ o3 (convsOf l2) (x3.app (L := G4)) (by omega)
      have x5 := w5.sl (sm_all (convsOf l2)) (by omega)
      obtain ⟨o6, K6, c6', w6, ⟨G6, rfl⟩, -⟩ := fn16 _ o4 o5 ks (convsOf l2) (w4.app (L := G5)) x5 (by omega) (by omega)
      obtain ⟨o7, K7, c7', w7, ⟨G7, rfl⟩, -⟩ := fn18 _ o2 o3 ks (convsOf l2) (((x2.app (L := G4)).app (L := G5)).app (L := G6)) (((x3.app (L := G4)).app (L := G5)).app (L := G6))
      obtain ⟨o8, K8, c8', w8, ⟨G8, rfl⟩, -⟩ := fn17 _ o3 (convsOf l2) ((((x3.app (L := G4)).app (L := G5)).app (L := G6)).app (L := G7)) (by omega)
      obtain ⟨o9, K9, c9', w9, ⟨G9, rfl⟩, -⟩ := fn17 _ o2 ks (((((x2.app (L := G4)).app (L := G5)).app (L := G6)).app (L := G7)).app (L := G8)) (by omega)
      have x9 := w9.sl (sm_all ks) (by omega)
      obtain ⟨p1, J1, d1, y1, ⟨G10, rfl⟩, -⟩ := fn16 _ o8 o9 (convsOf l2) ks (w8.app (L := G9)) x9 (by omega) (by omega)
      obtain ⟨p2, J2, d2, y2, ⟨G11, rfl⟩, -⟩ := fn18 _ o3 o2 (convsOf l2) ks (((((((x3.app (L := G4)).app (L := G5)).app (L := G6)).app (L := G7)).app (L := G8)).app (L := G9)).app (L := G10)) (((((((x2.app (L := G4)).app (L := G5)).app (L := G6)).app (L := G7)).app (L := G8)).app (L := G9)).app (L := G10))
      have r1 := res_same (a := ks) (b := convsOf l2) (by omega) (by omega)
      have r2 := res_same (a := convsOf l2) (b := ks) (by omega) (by omega)
      rw [r1] at c6' w6
      rw [r2] at d1 y1
      have g1 : (resR ks (convsOf l2)).1.length ≤ 400 := resR_len (by omega) (by omega)
      have g2 : (resR (convsOf l2) ks).1.length ≤ 400 := resR_len (by omega) (by omega)
      have u1 := (((((w6.sl (sm_all _) (by omega)).app (L := G7)).app (L := G8)).app (L := G9)).app (L := G10)).app (L := G11)
      have u2 := ((((w7.sl (sm_all _) (by omega)).app (L := G8)).app (L := G9)).app (L := G10)).app (L := G11)
      have u3 := (y1.sl (sm_all _) (by omega)).app (L := G11)
      have u4 := y2.sl (sm_all _) (by omega)
      have t1 := fn19 _ o6 o7 _ u1 u2 (by omega)
      have t2 := fn19 _ p1 p2 _ u3 u4 (by omega)
      simp (config := { maxSteps := 1000000 }) (disch := first | exact lt_new _ | exact len_snoc _ _ _ | omega | (simp only [List.length_append, List.length_singleton, List.length_set]; done) | (simp only [List.length_append, List.length_singleton, List.length_set]; omega)) only [c4, r4_0, r4_1, r4_3, r4_4, r4_5, r4_6, r4_7, r4_8, rs4, ↓reduceIte, go_sem, Nat.reduceLT, Nat.reduceEqDiff, Nat.reduceAdd, Nat.reduceMul, Nat.reduceLeDiff, Int.reduceLT, Int.reduceLE, Int.reduceEq, Int.reduceNeg, Int.reduceToNat, hlenA, hlenB, q1, q2, v1, v2, c1, c2, c3, c4', c5', c6', c7', c8', c9', d1, d2, t1, t2, eq_self, known_call]
      exact ⟨_, by repeat rw [List.append_assoc]⟩
    · rw [e1] at v1
      simp (disch := first | exact lt_new _ | exact len_snoc _ _ _ | omega | (simp only [List.length_append, List.length_singleton, List.length_set]; done) | (simp only [List.length_append, List.length_singleton, List.length_set]; omega)) only [c4, r4_0, r4_1, r4_2, rs4, ↓reduceIte, go_sem, Nat.reduceLT, Nat.reduceEqDiff, Nat.reduceAdd, Nat.reduceMul, Nat.reduceLeDiff, Int.reduceLT, Int.reduceLE, Int.reduceEq, Int.reduceNeg, Int.reduceToNat, hlenA, hlenB, q1, q2, v1, v2, e2, known_call]
      exact ⟨_, rfl⟩
  · simp (disch := first | exact lt_new _ | exact len_snoc _ _ _ | omega | (simp only [List.length_append, List.length_singleton, List.length_set]; done) | (simp only [List.length_append, List.length_singleton, List.length_set]; omega)) only [c4, r4_0, r4_1, r4_2, rs4, ↓reduceIte, go_sem, Nat.reduceLT, Nat.reduceEqDiff, Nat.reduceAdd, Nat.reduceMul, Nat.reduceLeDiff, Int.reduceLT, Int.reduceLE, Int.reduceEq, Int.reduceNeg, Int.reduceToNat, hlenA, hlenB, q1, q2, v1, e1, known_call]
    exact ⟨_, rfl⟩
end Go.Proofs.Ytdpdlobaabcjjaa
/-
  The conversations of right messages are right. No statement of the seat stands here.
-/
namespace Go.Proofs.Ytdpdlobaabcjjaa
open Go Go.Am
set_option maxRecDepth 4000
set_option linter.unusedSimpArgs false
set_option linter.unusedVariables false

/-- A right key. -/
def okKey (k : Key) : Prop := (0 ≤ k.a ∧ k.a ≤ 4294967295) ∧ (0 ≤ k.ap ∧ k.ap ≤ 65535) ∧ (0 ≤ k.b ∧ k.b ≤ 4294967295) ∧ (0 ≤ k.bp ∧ k.bp ≤ 65535) ∧ (0 ≤ k.proto ∧ k.proto ≤ 255) ∧ ¬ k.b < k.a ∧ ¬ (k.a = k.b ∧ k.bp < k.ap)
theorem ok_key {t : Tk} (h : okTalk t = true) : okKey (tkKey t) := by
  simp only [okTalk, inB, Bool.and_eq_true, decide_eq_true_eq] at h
  unfold okKey tkKey goes
  by_cases h1 : t.src < t.dst
  · simp [h1]; omega
  · by_cases h2 : t.src = t.dst
    · by_cases h3 : t.port ≤ t.dest
      · simp [h2, h3]; omega
      · simp [h2, h3]; omega
    · simp [h1, h2]; omega
structure Bd (n : Int) (s : Sm) : Prop where
  k : okKey (keyOf s)
  go : 0 ≤ s.go ∧ s.go ≤ n
  gb : 0 ≤ s.gb ∧ s.gb ≤ n * 1000000
  back : 0 ≤ s.back ∧ s.back ≤ n
  bb : 0 ≤ s.bb ∧ s.bb ≤ n * 1000000
  first : 0 ≤ s.first ∧ s.first ≤ 1000000000000000
  last : 0 ≤ s.last ∧ s.last ≤ 1000000000000000
theorem bd_new {t : Tk} (h : okTalk t = true) : Bd 0 (newSm t) := by
  have ht := ok_time h
  exact ⟨ok_key h, ⟨Int.le_refl _, Int.le_refl _⟩, ⟨Int.le_refl _, Int.le_refl _⟩, ⟨Int.le_refl _, Int.le_refl _⟩, ⟨Int.le_refl _, Int.le_refl _⟩, ht, ht⟩
theorem bd_more {n : Int} {s : Sm} (h : Bd n s) : Bd (n + 1) s := by
  obtain ⟨h1, h2, h3, h4, h5, h6, h7⟩ := h
  exact ⟨h1, by omega, by omega, by omega, by omega, h6, h7⟩
theorem bd_bump {n : Int} (hn0 : 0 ≤ n) (hn : n ≤ 1000) {s : Sm} {t : Tk} (h : Bd n s) (ht : okTalk t = true) : Bd (n + 1) (bump t s) := by
  obtain ⟨h1, h2, h3, h4, h5, h6, h7⟩ := h
  have hs : 0 ≤ t.size ∧ t.size ≤ 1000000 := by
    simp only [okTalk, inB, Bool.and_eq_true, decide_eq_true_eq] at ht
    omega
  have ht := ok_time ht
  have e1 : w64 (s.go + 1) = s.go + 1 := IntWalk.i64_in _ (by omega)
  have e2 : w64 (s.back + 1) = s.back + 1 := IntWalk.i64_in _ (by omega)
  have e3 : w64 (s.gb + t.size) = s.gb + t.size := IntWalk.i64_in _ (by omega)
  have e4 : w64 (s.bb + t.size) = s.bb + t.size := IntWalk.i64_in _ (by omega)
  have f1 : 0 ≤ (if t.time < s.first then t.time else s.first) ∧ (if t.time < s.first then t.time else s.first) ≤ 1000000000000000 := by split <;> omega
  have f2 : 0 ≤ (if t.time > s.last then t.time else s.last) ∧ (if t.time > s.last then t.time else s.last) ≤ 1000000000000000 := by split <;> omega
  have hk : okKey (keyOf (bump t s)) := by rw [keyOf_bump]; exact h1
  unfold bump at hk ⊢
  dsimp only at hk ⊢
  split
  · refine ⟨?_, ?_, ?_, ?_, ?_, f1, f2⟩
    · exact h1
    · rw [e1]; dsimp only; omega
    · rw [e3]; dsimp only; omega
    · dsimp only; omega
    · dsimp only; omega
  · refine ⟨?_, ?_, ?_, ?_, ?_, f1, f2⟩
    · exact h1
    · dsimp only; omega
    · dsimp only; omega
    · rw [e2]; dsimp only; omega
    · rw [e4]; dsimp only; omega
theorem convs_bd (l : List Tk) (hok : l.all okTalk = true) (hn : l.length ≤ 1000) : ∀ i, i ≤ l.length → ∀ s ∈ convsOf (l.take i), Bd i s
  | 0, _ => by simp [convsOf]
  | i + 1, hi => by
    obtain ⟨t, ht⟩ : ∃ t, l[i]? = some t := ⟨_, List.getElem?_eq_getElem (by omega)⟩
    have htk : okTalk t = true := List.all_eq_true.1 hok t (List.mem_of_getElem? ht)
    have ih := convs_bd l hok hn i (by omega)
    intro s hs
    rw [convsOf_snoc ht, convStep_upd] at hs
    rw [show ((i + 1 : Nat) : Int) = (i : Int) + 1 from rfl]
    rcases mem_upd hs with h | h | ⟨y, h1, h2⟩
    · rw [h]
      have := bd_bump (Int.le_refl 0) (by omega) (bd_new htk) htk
      obtain ⟨h1, h2, h3, h4, h5, h6, h7⟩ := this
      exact ⟨h1, by omega, by omega, by omega, by omega, h6, h7⟩
    · exact bd_more (ih s h)
    · rw [h2]; exact bd_bump (by omega) (by omega) (ih y h1) htk
theorem bd_sum {n : Int} {s : Sm} (h : Bd n s) (hn : n ≤ 1000) : isSumB s = true := by
  obtain ⟨h1, h2, h3, h4, h5, h6, h7⟩ := h
  unfold okKey keyOf at h1
  simp only at h1
  obtain ⟨k1, k2, k3, k4, k5, k6, k7⟩ := h1
  unfold isSumB numsOk nums endsOk inB
  simp only [List.all_cons, List.all_nil, Bool.and_true, Bool.and_eq_true, decide_eq_true_eq, Bool.not_eq_true', Bool.or_eq_false_iff, Bool.and_eq_false_imp, decide_eq_false_iff_not]
  refine ⟨?_, k6, fun e => fun e2 => k7 ⟨e, e2⟩⟩
  refine ⟨?_, ?_, ?_, ?_, ?_, ?_, ?_, ?_, ?_, ?_, ?_⟩ <;> constructor <;> omega
theorem convs_sum {l : List Tk} (h : valE l = 0) : ∀ s ∈ convsOf l, isSumB s = true := by
  obtain ⟨h1, h2⟩ := valE_ok h
  intro s hs
  have := convs_bd l h2 (by omega) l.length (Nat.le_refl _) s (by rw [List.take_length]; exact hs)
  exact bd_sum this (by omega)
theorem okTo_convs {l : List Tk} (h : valE l = 0) : okTo (convsOf l) (convsOf l).length = true := by
  unfold okTo
  rw [List.all_eq_true]
  intro i hi
  have hi : i < (convsOf l).length := by simpa using hi
  unfold okAt2
  rw [List.getElem?_eq_getElem hi]
  simp only [Bool.and_eq_true, Bool.not_eq_true', List.any_eq_false, decide_eq_true_eq]
  refine ⟨convs_sum h _ (List.getElem_mem hi), fun x hx e => ?_⟩
  obtain ⟨j, hj, rfl⟩ := List.mem_take_iff_getElem.1 hx
  have hnd := convs_keys l
  rw [List.nodup_iff_pairwise_ne, List.pairwise_iff_getElem] at hnd
  have := hnd j i (by rw [List.length_map]; omega) (by rw [List.length_map]; exact hi) (by omega)
  rw [List.getElem_map, List.getElem_map] at this
  exact this e
theorem parts_law {a b : List Tk} (h : valE (a ++ b) = 0) (ha : valE a = 0) (hb : valE b = 0) : resP (convsOf a) (convsOf b) = (convsOf (a ++ b), 0) := by
  obtain ⟨n1, -⟩ := valE_ok ha
  obtain ⟨n2, -⟩ := valE_ok hb
  have m1 := convsOf_le a
  have m2 := convsOf_le b
  rw [res_same (by omega) (by omega)]
  unfold resR
  rw [if_neg (by omega)]
  have e1 : askS (convsOf a) = 0 := by unfold askS; rw [if_neg (by omega), okAll_eq, if_pos (okTo_convs ha)]
  have e2 : askS (convsOf b) = 0 := by unfold askS; rw [if_neg (by omega), okAll_eq, if_pos (okTo_convs hb)]
  rw [if_pos ⟨e1, e2⟩, addR_merge (convsOf b) (convsOf a) [] (by simp) (by simp) (convs_keys b), ← convs_app a b.length b rfl]
  rw [if_pos]
  exact List.all_eq_true.2 fun x hx => sum_good (convs_sum h x hx)
end Go.Proofs.Ytdpdlobaabcjjaa
/-
  The abstract machine, part ZJ: a whole slice laid behind a growing one. No statement of the seat stands here.
-/
namespace Go.Am
open Go

section
variable {P : Program} {H : Hp}
theorem Own.pushL {v x : V} {sz by_ : Nat} {cs : List V} {xs : List (List V)} (h : Own H v sz cs) (hx : Sl H x sz xs) (hc : xs.flatten.all V.isCell = true) (hsz : 0 < sz) (hb : (cs.length + xs.length) * by_ ≤ 2 ^ 40) (hb2 : cs.length + xs.length ≤ 2 ^ 40) :
    ∃ v' H', appOf sz by_ H v x = some (v', H') ∧ Own H' v' sz (cs ++ xs.flatten) ∧ (∀ id, id < H.length → ¬ At v id → H'[id]? = H[id]?) ∧ H.length ≤ H'.length ∧ (∀ id, At v' id → At v id ∨ H.length ≤ id) := by
  have hfl := flat_len hx.1
  have hs := hx.src
  unfold appOf
  rw [hs]
  simp only [Option.bind_some]
  rw [if_pos ⟨hfl, hc⟩]
  by_cases h0 : xs = []
  · subst h0
    rcases h with ⟨rfl, rfl⟩ | ⟨id, g, n, rfl, h1, h2, h3⟩
    · exact ⟨.nilslice, H, by simp, own_nil _ _, fun _ _ _ => rfl, Nat.le_refl _, fun _ h => .inl h⟩
    · have hr : getRow H id g = some (cs, true) := by simp [getRow, h3]
      have hle : n * 1 ≤ n * sz := Nat.mul_le_mul_left n hsz
      have hnb : (n + 0) * by_ ≤ (cs.length + 0) * by_ := Nat.mul_le_mul_right _ (by omega)
      refine ⟨.slice id g 0 n sz .full, H, ?_, ?_, fun _ _ _ => rfl, Nat.le_refl _, fun _ h => .inl h⟩
      · simp only [hr, Option.bind_some, List.length_nil] at hb hb2 ⊢
        rw [if_pos ⟨trivial, by omega, by omega, by omega⟩]
        simp
      · simp only [List.flatten_nil, List.append_nil]
        exact .inr ⟨id, g, n, rfl, h1, h2, h3⟩
  · have hn : xs.length ≠ 0 := fun e => h0 (List.length_eq_zero_iff.1 e)
    rcases h with ⟨rfl, rfl⟩ | ⟨id, g, n, rfl, h1, h2, h3⟩
    · simp only [List.length_nil, Nat.zero_add] at hb hb2
      refine ⟨.slice H.length 0 0 xs.length sz .full, H ++ [.row 0 xs.flatten true], ?_, .inr ⟨H.length, 0, xs.length, rfl, hfl.symm, by omega, by simp⟩, fun id hid _ => List.getElem?_append_left hid, by simp, ?_⟩
      · simp only
        rw [if_neg hn, if_pos ⟨hb, hb2⟩]
      · rintro id ⟨g, o, n, z, cp, e⟩
        injection e with e1
        right; omega
    · have hid : id < H.length := (List.getElem?_eq_some_iff.1 h3).1
      have hle : n * 1 ≤ n * sz := Nat.mul_le_mul_left n hsz
      have hlx : xs.length * 1 ≤ xs.length * sz := Nat.mul_le_mul_left _ hsz
      have hnb : (n + xs.length) * by_ ≤ (cs.length + xs.length) * by_ := Nat.mul_le_mul_right _ (by omega)
      have hr : getRow H id g = some (cs, true) := by simp [getRow, h3]
      refine ⟨.slice id (g + 1) 0 (n + xs.length) sz .full, H.set id (.row (g + 1) (cs ++ xs.flatten) true), ?_, .inr ⟨id, g + 1, n + xs.length, rfl, by rw [List.length_append, hfl, Nat.add_mul, h1], by omega, by rw [List.getElem?_set_self hid]⟩, ?_, by simp, ?_⟩
      · simp only
        rw [hr]
        simp only [Option.bind_some]
        rw [if_pos ⟨trivial, by omega, by omega, by omega⟩, if_neg hn, if_pos trivial, if_neg (by rw [Nat.add_mul]; omega), if_pos (by omega)]
        simp
      · intro id' hid' hn'
        have hne : id ≠ id' := fun e => hn' ⟨g, 0, n, sz, .full, by rw [e]⟩
        rw [List.getElem?_set_ne hne]
      · rintro id' ⟨g', o, n', z, cp, e⟩
        injection e with e1
        subst e1
        exact .inl ⟨g, 0, n, sz, .full, rfl⟩
end
end Go.Am
/-
  The conversations of two lists one behind the other: the statement's function, walked. No statement of the seat stands here.
-/
namespace Go.Proofs.Ytdpdlobaabcjjaa
open Go Go.Am
set_option maxRecDepth 4000
set_option linter.unusedSimpArgs false
set_option linter.unusedVariables false

theorem tk_all (l : List Tk) : ∀ x ∈ l.map tkC, x.length = 7 := by
  intro x hx
  obtain ⟨p, _, rfl⟩ := List.mem_map.1 hx
  rfl
theorem tk_flat (l : List Tk) : (l.map tkC).flatten.length = l.length * 7 := by
  rw [flat_len (tk_all l), List.length_map]
theorem tk_cell (l : List Tk) : (l.map tkC).flatten.all V.isCell = true := by
  simp [V.isCell]
theorem resC_cases (l : List Tk) : (valE l = 0 ∧ resC l = (convsOf l, 0)) ∨ (valE l ≠ 0 ∧ resC l = ([], valE l)) := by
  unfold resC
  by_cases h : valE l = 0
  · exact .inl ⟨h, by rw [if_pos h]⟩
  · exact .inr ⟨h, by rw [if_neg h]⟩
theorem resC_len (l : List Tk) : (resC l).1.length ≤ 200 := by
  rcases resC_cases l with ⟨h, e⟩ | ⟨_, e⟩
  · rw [e]
    have := convsOf_le l
    have := (valE_ok h).1
    simp only; omega
  · rw [e]; simp
set_option maxHeartbeats 1000000 in
theorem fn5 (H : Hp) (s1 s2 : V) (l1 l2 : List Tk) (hs1 : Sl H s1 7 (l1.map tkC)) (hs2 : Sl H s2 7 (l2.map tkC)) : callL Try.prog pr 5 [s1, s2] H = some (.bool true, H) := by
  have hl1 : (l1.map tkC).length = l1.length := List.length_map _
  have hl2 : (l2.map tkC).length = l2.length := List.length_map _
  have hlenA := fun H' => hs1.len (P := Try.prog) (H' := H') s34
  have hlenB := fun H' => hs2.len (P := Try.prog) (H' := H') s34
  rw [hl1] at hlenA
  rw [hl2] at hlenB
  refine flat_of (run5 (Nat.le_of_ble_eq_true rfl) ?_) rfl rfl
  by_cases q1 : (800 : Int) < l1.length
  · simp (disch := first | exact lt_new _ | exact len_snoc _ _ _ | omega | (simp only [List.length_append, List.length_singleton, List.length_set]; done) | (simp only [List.length_append, List.length_singleton, List.length_set]; omega)) only [c5, r5_0, r5_1, r5_2, rs5, ↓reduceIte, go_sem, Nat.reduceLT, Nat.reduceEqDiff, Nat.reduceAdd, Nat.reduceMul, Nat.reduceLeDiff, Int.reduceLT, Int.reduceLE, Int.reduceEq, Int.reduceNeg, Int.reduceToNat, hlenA, q1, known_call]
    exact ⟨[], by simp⟩
  by_cases q2 : (800 : Int) < l2.length
  · simp (disch := first | exact lt_new _ | exact len_snoc _ _ _ | omega | (simp only [List.length_append, List.length_singleton, List.length_set]; done) | (simp only [List.length_append, List.length_singleton, List.length_set]; omega)) only [c5, r5_0, r5_1, r5_2, rs5, ↓reduceIte, go_sem, Nat.reduceLT, Nat.reduceEqDiff, Nat.reduceAdd, Nat.reduceMul, Nat.reduceLeDiff, Int.reduceLT, Int.reduceLE, Int.reduceEq, Int.reduceNeg, Int.reduceToNat, hlenA, hlenB, q1, q2, known_call]
    exact ⟨[], by simp⟩
  have f1 := tk_flat l1
  have f2 := tk_flat l2
  have f12 := tk_flat (l1 ++ l2)
  obtain ⟨o1, H1, e1, w1, fr1, le1, at1⟩ := (own_nil H 7).pushL (by_ := 56) hs1 (tk_cell l1) (by omega) (by rw [hl1, List.length_nil]; omega) (by rw [hl1, List.length_nil]; omega)
  simp only [List.nil_append] at w1
  have hs2' : Sl H1 s2 7 (l2.map tkC) := hs2.move fun id h => fr1 id (hs2.at_lt h) (by simp [At])
  obtain ⟨o2, H2, e2, w2, fr2, le2, at2⟩ := w1.pushL (by_ := 56) hs2' (tk_cell l2) (by omega) (by rw [hl2]; omega) (by rw [hl2]; omega)
  have ex2 : ∃ G, H2 = H ++ G := ext_of (by omega) fun id hid => by
    rw [fr2 id (by omega) fun h => by
      rcases at1 id h with h | h
      · simp [At] at h
      · omega, fr1 id hid (by simp [At])]
  obtain ⟨G0, rfl⟩ := ex2
  have so2 : Sl (H ++ G0) o2 7 ((l1 ++ l2).map tkC) := Own.sl (xs := (l1 ++ l2).map tkC) (by rw [List.map_append, List.flatten_append]; exact w2) (tk_all _) (by omega)
  obtain ⟨a0, K0, c0, y0, ⟨G1, rfl⟩, -⟩ := fn20 _ o2 (l1 ++ l2) so2
  obtain ⟨a1, K1, c1, y1, ⟨G2, rfl⟩, -⟩ := fn20 _ s1 l1 ((hs1.app (L := G0)).app (L := G1))
  obtain ⟨a2, K2, c2, y2, ⟨G3, rfl⟩, -⟩ := fn20 _ s2 l2 (((hs2.app (L := G0)).app (L := G1)).app (L := G2))
  have n0 := resC_len (l1 ++ l2)
  have n1 := resC_len l1
  have n2 := resC_len l2
  rcases resC_cases (l1 ++ l2) with ⟨v0, e0⟩ | ⟨v0, e0⟩
  · rcases resC_cases l1 with ⟨v1, e1'⟩ | ⟨v1, e1'⟩
    · rcases resC_cases l2 with ⟨v2, e2'⟩ | ⟨v2, e2'⟩
      · rw [e0] at c0 y0 n0
        rw [e1'] at c1 y1 n1
        rw [e2'] at c2 y2 n2
        simp only at c0 y0 c1 y1 c2 y2 n0 n1 n2
        have s1' := y1.app (L := G3)
        obtain ⟨a3, K3, c3, y3, ⟨G4, rfl⟩, -⟩ := fn16 _ a1 a2 (convsOf l1) (convsOf l2) s1' (y2.sl (sm_all _) (by omega)) (by omega) (by omega)
        rw [parts_law v0 v1 v2] at c3 y3
        simp only at c3 y3
        have z0 := (((y0.sl (sm_all _) (by omega)).app (L := G2)).app (L := G3)).app (L := G4)
        have z3 := y3.sl (sm_all _) (by omega)
        have hlen0 := fun H' => z0.len (P := Try.prog) (H' := H') s40
        have hlen3 := fun H' => z3.len (P := Try.prog) (H' := H') s40
        have hlm : ((convsOf (l1 ++ l2)).map smC).length = (convsOf (l1 ++ l2)).length := List.length_map _
        rw [hlm] at hlen0 hlen3
        generalize convsOf (l1 ++ l2) = L at *
        simp (config := { maxSteps := 1000000 }) (disch := first | exact lt_new _ | exact len_snoc _ _ _ | omega | (simp only [List.length_append, List.length_singleton, List.length_set]; done) | (simp only [List.length_append, List.length_singleton, List.length_set]; omega)) only [c5, r5_0, r5_1, r5_3, r5_4, r5_5, r5_6, r5_8, r5_9, r5_11, rs5, ↓reduceIte, go_sem, Nat.reduceLT, Nat.reduceEqDiff, Nat.reduceAdd, Nat.reduceMul, Nat.reduceLeDiff, Int.reduceLT, Int.reduceLE, Int.reduceEq, Int.reduceNeg, Int.reduceToNat, hlenA, hlenB, q1, q2, e1, e2, c0, c1, c2, c3, hlen0, hlen3, eq_self, known_call]
        refine Wp_loop (fun m T D H' => ∃ i, m = L.length - i ∧ i ≤ L.length ∧ D = [] ∧ H' = H ++ G0 ++ G1 ++ G2 ++ G3 ++ G4 ∧ get T 11 = a3 ∧ get T 5 = a0 ∧ get T 13 = .int .i64 i) ?_ L.length _ _ _ ?_
        · rintro m T D H' ⟨i, rfl, hi, rfl, rfl, t11, t5, t13⟩
          by_cases hlt : i < L.length
          · have hlt' : (i : Int) < L.length := by omega
            obtain ⟨x, hx⟩ : ∃ x, L[i]? = some x := ⟨_, List.getElem?_eq_getElem hlt⟩
            have hx' : (L.map smC)[i]? = some (smC x) := by rw [List.getElem?_map, hx]; rfl
            have i0 := fun k => z0.idx (P := Try.prog) (k := k) s40 (i := i) (by omega)
            have i3 := fun k => z3.idx (P := Try.prog) (k := k) s40 (i := i) (by omega)
            have g0 := z0.agg (P := Try.prog) g50 z50 hx'
            have g3' := z3.agg (P := Try.prog) g50 z50 hx'
            simp (config := { maxSteps := 1000000 }) (disch := first | exact lt_new _ | exact len_snoc _ _ _ | omega | (simp only [List.length_append, List.length_singleton, List.length_set]; done) | (simp only [List.length_append, List.length_singleton, List.length_set]; omega)) only [l5_16, r5_12, r5_13, r5_15, ↓reduceIte, go_sem, Nat.reduceLT, Nat.reduceEqDiff, Nat.reduceAdd, Nat.reduceMul, Nat.reduceLeDiff, Int.reduceLT, Int.reduceLE, Int.reduceEq, Int.reduceNeg, Int.reduceToNat, t11, t5, t13, hlt', hlen3, i0, i3, g0, g3', eq_self, IntWalk.i64_in]
            exact ⟨_, by omega, i + 1, rfl, hlt, rfl⟩
          · obtain rfl : i = L.length := by omega
            simp (config := { maxSteps := 1000000 }) (disch := first | exact lt_new _ | exact len_snoc _ _ _ | omega | (simp only [List.length_append, List.length_singleton, List.length_set]; done) | (simp only [List.length_append, List.length_singleton, List.length_set]; omega)) only [l5_16, r5_12, r5_17, rs5, ↓reduceIte, go_sem, Nat.reduceLT, Nat.reduceEqDiff, Nat.reduceAdd, Nat.reduceMul, Nat.reduceLeDiff, Int.reduceLT, Int.reduceLE, Int.reduceEq, Int.reduceNeg, Int.reduceToNat, t11, t5, t13, hlen3, Int.lt_irrefl, known_call]
            exact ⟨_, by repeat rw [List.append_assoc]⟩
        · exact ⟨0, by simp [go_sem]⟩
      · rw [e0] at c0
        rw [e1'] at c1
        rw [e2'] at c2
        simp (config := { maxSteps := 1000000 }) (disch := first | exact lt_new _ | exact len_snoc _ _ _ | omega | (simp only [List.length_append, List.length_singleton, List.length_set]; done) | (simp only [List.length_append, List.length_singleton, List.length_set]; omega)) only [c5, r5_0, r5_1, r5_3, r5_4, r5_5, r5_6, r5_7, rs5, ↓reduceIte, go_sem, Nat.reduceLT, Nat.reduceEqDiff, Nat.reduceAdd, Nat.reduceMul, Nat.reduceLeDiff, Int.reduceLT, Int.reduceLE, Int.reduceEq, Int.reduceNeg, Int.reduceToNat, hlenA, hlenB, q1, q2, e1, e2, c0, c1, c2, v2, known_call]
        exact ⟨_, by repeat rw [List.append_assoc]⟩
    · rw [e0] at c0
      rw [e1'] at c1
      simp (config := { maxSteps := 1000000 }) (disch := first | exact lt_new _ | exact len_snoc _ _ _ | omega | (simp only [List.length_append, List.length_singleton, List.length_set]; done) | (simp only [List.length_append, List.length_singleton, List.length_set]; omega)) only [c5, r5_0, r5_1, r5_3, r5_4, r5_5, r5_6, r5_7, rs5, ↓reduceIte, go_sem, Nat.reduceLT, Nat.reduceEqDiff, Nat.reduceAdd, Nat.reduceMul, Nat.reduceLeDiff, Int.reduceLT, Int.reduceLE, Int.reduceEq, Int.reduceNeg, Int.reduceToNat, hlenA, hlenB, q1, q2, e1, e2, c0, c1, c2, v1, known_call]
      exact ⟨_, by repeat rw [List.append_assoc]⟩
  · rw [e0] at c0
    simp (config := { maxSteps := 1000000 }) (disch := first | exact lt_new _ | exact len_snoc _ _ _ | omega | (simp only [List.length_append, List.length_singleton, List.length_set]; done) | (simp only [List.length_append, List.length_singleton, List.length_set]; omega)) only [c5, r5_0, r5_1, r5_3, r5_4, r5_5, r5_6, r5_7, rs5, ↓reduceIte, go_sem, Nat.reduceLT, Nat.reduceEqDiff, Nat.reduceAdd, Nat.reduceMul, Nat.reduceLeDiff, Int.reduceLT, Int.reduceLE, Int.reduceEq, Int.reduceNeg, Int.reduceToNat, hlenA, hlenB, q1, q2, e1, e2, c0, c1, c2, v0, known_call]
    exact ⟨_, by repeat rw [List.append_assoc]⟩
end Go.Proofs.Ytdpdlobaabcjjaa
