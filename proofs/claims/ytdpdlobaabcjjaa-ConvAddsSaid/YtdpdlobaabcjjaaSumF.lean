/-
  Lists of conversations asked, by the document's function: walked. No statement of the seat stands here.
-/
import Derived.Test.YtdpdlobaabcjjaaSumE
namespace Go.Proofs.Ytdpdlobaabcjjaa
open Go Go.Am
set_option maxRecDepth 4000
set_option linter.unusedSimpArgs false
set_option linter.unusedVariables false

def nums (s : Sm) : List Int := [s.a, s.ap, s.b, s.bp, s.proto, s.go, s.gb, s.back, s.bb, s.first, s.last]
def mostN : Int := 4503599627370496
theorem nums_leaf (s : Sm) : ((nums s).map intC).flatten.all V.leaf = true := rfl
theorem ints_all (l : List Int) : ∀ x ∈ l.map intC, x.length = 1 := by
  intro x hx
  obtain ⟨p, _, rfl⟩ := List.mem_map.1 hx
  rfl
theorem fn72 (s : Sm) (H : Hp) : ∃ v H2, callL Try.prog pr 72 [.agg (smC s)] H = some (v, H2) ∧ Own H2 v 1 ((nums s).map intC).flatten ∧ (∃ G, H2 = H ++ G) ∧ ∀ id, At v id → H.length ≤ id := by
  refine own1_of (run72 (Nat.le_of_ble_eq_true rfl) ?_) (nums_leaf s)
  simp (config := { maxSteps := 1000000 }) (disch := exact lt_new _) only [c72, r72_0, r72_1, rs72, ↓reduceIte, go_sem, Nat.reduceLT, Nat.reduceEqDiff, Nat.reduceAdd, Nat.reduceMul, Nat.reduceLeDiff, Int.reduceLT, Int.reduceLE, Int.reduceEq, Int.reduceNeg, Int.reduceToNat]
  refine ⟨.inr ⟨_, 0, 11, rfl, rfl, by omega, by simp [nums, intC]⟩, fun id hid => ?_, ?_⟩
  · rw [List.append_assoc, List.getElem?_append_left hid]
  · rintro id ⟨_, _, _, _, _, e⟩
    injection e with e1
    rw [← e1]; simp
theorem fn39 (H : Hp) (s : V) (l : List Sm) (hs : Own H s 11 (l.map smC).flatten) (hlen : l.length ≤ 1000) : ∃ v H2, callL Try.prog pr 39 [s] H = some (v, H2) ∧ Own H2 v 11 (l.map smC).flatten ∧ (∃ G, H2 = H ++ G) ∧ ∀ id, At v id → H.length ≤ id := by
  refine own1_of (run39 (Nat.le_of_ble_eq_true rfl) ?_) (sm_leaf l)
  have hsl := hs.sl (sm_all l) (by omega)
  rcases hs with ⟨rfl, h2⟩ | ⟨id, g, n, rfl, h1, h2, h3⟩
  · simp (disch := omega) only [c39, r39_0, r39_1, r39_2, rs39, ↓reduceIte, go_sem, Nat.reduceLT, Nat.reduceEqDiff, Nat.reduceAdd, Nat.reduceMul, Nat.reduceLeDiff, Int.reduceLT, Int.reduceLE, Int.reduceEq, Int.reduceNeg, Int.reduceToNat]
    exact ⟨.inl ⟨rfl, h2⟩, fun _ _ => rfl, by simp [At]⟩
  · have hn : l.map smC ≠ [] := by
      intro h
      rw [h] at h1
      simp only [List.flatten_nil, List.length_nil] at h1
      omega
    have e1 := app_empty (by_ := 88) hsl (sm_cell l) hn (by omega) (by rw [List.length_map]; omega) (by rw [List.length_map]; omega)
    have hlm : (l.map smC).length = l.length := List.length_map _
    have hpos : 0 < (l.map smC).length := List.length_pos_iff.2 hn
    simp (disch := omega) only [c39, r39_0, r39_1, r39_3, rs39, ↓reduceIte, go_sem, Nat.reduceLT, Nat.reduceEqDiff, Nat.reduceAdd, Nat.reduceMul, Nat.reduceLeDiff, Int.reduceLT, Int.reduceLE, Int.reduceEq, Int.reduceNeg, Int.reduceToNat, e1]
    refine ⟨.inr ⟨H.length, 1, (l.map smC).length, rfl, by rw [sm_flat, hlm], hpos, by simp⟩, fun id hid => ?_, ?_⟩
    · rw [List.getElem?_append_left hid]
    · rintro id' ⟨g', o, n, z, cp', e'⟩
      injection e' with e1
      omega
def orL : List Int → Int
  | [] => 0
  | x :: l => if x = 0 then orL l else x
theorem orL_drop {l : List Int} {i : Nat} {x : Int} (h : l[i]? = some x) : orL (l.drop i) = if x = 0 then orL (l.drop (i + 1)) else x := by
  obtain ⟨h1, rfl⟩ := List.getElem?_eq_some_iff.1 h
  rw [List.drop_eq_getElem_cons h1]
  rfl
theorem fn58 (H : Hp) (s : V) (l : List Int) (hs : Sl H s 1 (l.map intC)) (hlen : l.length < 2 ^ 62) : callL Try.prog pr 58 [s] H = some (.int .i64 (orL l), H) := by
  have hl : (l.map intC).length = l.length := List.length_map _
  have hlenS := fun H' => hs.len (P := Try.prog) (H' := H') s22
  rw [hl] at hlenS
  refine flat_of (run58 (Nat.le_of_ble_eq_true rfl) ?_) rfl rfl
  simp (disch := omega) only [c58, r58_0, r58_1, r58_2, rs58, ↓reduceIte, go_sem, Nat.reduceLT, Nat.reduceEqDiff, Nat.reduceAdd, Nat.reduceMul, Nat.reduceLeDiff, Int.reduceLT, Int.reduceLE, Int.reduceEq, Int.reduceNeg, Int.reduceToNat, hlenS]
  refine Wp_loop (fun m T D H' => ∃ i, m = l.length - i ∧ i ≤ l.length ∧ D = [] ∧ H' = H ∧ get T 3 = .int .i64 0 ∧ get T 6 = s ∧ get T 7 = .int .i64 l.length ∧ get T 8 = .int .i64 i ∧ orL l = orL (l.drop i)) ?_ l.length _ _ _ ?_
  · rintro m T D H' ⟨i, rfl, hi, rfl, rfl, t3, t6, t7, t8, hp⟩
    by_cases hlt : i < l.length
    · have hlt' : (i : Int) < l.length := by omega
      obtain ⟨x, hx⟩ : ∃ x, l[i]? = some x := ⟨_, List.getElem?_eq_getElem hlt⟩
      have hx' : (l.map intC)[i]? = some (intC x) := by rw [List.getElem?_map, hx]; rfl
      have hi2 := fun k => hs.idx (P := Try.prog) (k := k) s22 (i := i) (by omega)
      have hc := hs.cell0 (P := Try.prog) g3 hx' (by omega)
      rw [orL_drop hx] at hp
      by_cases hb : x = 0
      · rw [if_pos hb] at hp
        subst hb
        simp (disch := omega) only [l58_8, r58_3, r58_4, r58_5, r58_6, r58_7, ↓reduceIte, go_sem, Nat.reduceLT, Nat.reduceEqDiff, Nat.reduceAdd, Nat.reduceMul, Nat.reduceLeDiff, Int.reduceLT, Int.reduceLE, Int.reduceEq, Int.reduceNeg, Int.reduceToNat, t3, t6, t7, t8, hlt', hi2, hc, intC, eq_self, IntWalk.i64_in]
        exact ⟨_, by omega, i + 1, rfl, hlt, rfl, hp⟩
      · rw [if_neg hb] at hp
        simp (disch := omega) only [l58_8, r58_3, r58_4, r58_5, r58_6, r58_7, ↓reduceIte, go_sem, Nat.reduceLT, Nat.reduceEqDiff, Nat.reduceAdd, Nat.reduceMul, Nat.reduceLeDiff, Int.reduceLT, Int.reduceLE, Int.reduceEq, Int.reduceNeg, Int.reduceToNat, t3, t6, t7, t8, hlt', hi2, hc, intC, hb, IntWalk.i64_in]
        exact ⟨by rw [hp], [], by simp⟩
    · obtain rfl : i = l.length := by omega
      rw [List.drop_length] at hp
      simp (disch := omega) only [l58_8, r58_3, r58_9, ↓reduceIte, go_sem, Nat.reduceLT, Nat.reduceEqDiff, Nat.reduceAdd, Nat.reduceMul, Nat.reduceLeDiff, Int.reduceLT, Int.reduceLE, Int.reduceEq, Int.reduceNeg, Int.reduceToNat, t3, t6, t7, t8, Int.lt_irrefl]
      exact ⟨by rw [hp]; rfl, [], by simp⟩
  · exact ⟨0, by simp [go_sem]⟩
theorem fn106 (H : Hp) (s : V) (xs : List Int) (hs : Sl H s 1 (xs.map intC)) (hlen : xs.length < 2 ^ 63) (p : Int → Bool) (f : Nat) (ca cb : List V) (hf : ∀ x ∈ xs, callL Try.prog pr f (ca ++ [.int .i64 x] ++ cb) H = some (.bool (p x), H)) : callL Try.prog pr 106 [s, .fn f ca cb] H = some (.int .i64 (findI p xs 0), H) := by
  have hl : (xs.map intC).length = xs.length := List.length_map _
  have hlenS := fun H' => hs.len (P := Try.prog) (H' := H') s22
  rw [hl] at hlenS
  refine flat_of (run106 (Nat.le_of_ble_eq_true rfl) ?_) rfl rfl
  simp (disch := omega) only [c106, r106_0, r106_1, rs106, ↓reduceIte, go_sem, Nat.reduceLT, Nat.reduceEqDiff, Nat.reduceAdd, Nat.reduceMul, Nat.reduceLeDiff, Int.reduceLT, Int.reduceLE, Int.reduceEq, Int.reduceNeg, Int.reduceToNat, hlenS]
  refine Wp_loop (fun m T D H' => ∃ i, m = xs.length - i ∧ i ≤ xs.length ∧ D = [] ∧ H' = H ∧ get T 0 = s ∧ get T 1 = .fn f ca cb ∧ get T 7 = .int .i64 xs.length ∧ get T 8 = .int .i64 i ∧ findI p xs 0 = findI p (xs.drop i) i) ?_ xs.length _ _ _ ?_
  · rintro m T D H' ⟨i, rfl, hi, rfl, rfl, h0, h1, h7, h8, hp⟩
    by_cases hlt : i < xs.length
    · obtain ⟨x, hx⟩ : ∃ x, xs[i]? = some x := ⟨_, List.getElem?_eq_getElem hlt⟩
      have hx' : (xs.map intC)[i]? = some (intC x) := by rw [List.getElem?_map, hx]; rfl
      have hfx := hf x (List.mem_of_getElem? hx)
      have hlt' : (i : Int) < xs.length := by omega
      have hi2 := fun k => hs.idx (P := Try.prog) (k := k) s22 (i := i) (by omega)
      rw [findI_drop p hx] at hp
      by_cases hb : p x = true
      · rw [if_pos hb] at hp
        simp (disch := omega) only [l106_7, r106_2, r106_3, r106_4, r106_5, r106_6, ↓reduceIte, go_sem, Nat.reduceLT, Nat.reduceEqDiff, Nat.reduceAdd, Nat.reduceMul, Nat.reduceLeDiff, Int.reduceLT, Int.reduceLE, Int.reduceEq, Int.reduceNeg, Int.reduceToNat, h0, h1, h7, h8, hlt', hi2, hs.cell0 g3 hx' (by omega), intC, hfx, hb, IntWalk.i64_in]
        exact ⟨by rw [hp], [], by simp⟩
      · rw [if_neg hb] at hp
        rw [Bool.not_eq_true] at hb
        simp (disch := omega) only [l106_7, r106_2, r106_3, r106_4, r106_5, r106_6, ↓reduceIte, go_sem, Nat.reduceLT, Nat.reduceEqDiff, Nat.reduceAdd, Nat.reduceMul, Nat.reduceLeDiff, Int.reduceLT, Int.reduceLE, Int.reduceEq, Int.reduceNeg, Int.reduceToNat, h0, h1, h7, h8, hlt', hi2, hs.cell0 g3 hx' (by omega), intC, hfx, hb, IntWalk.i64_in]
        exact ⟨_, by omega, i + 1, rfl, hlt, rfl, hp⟩
    · obtain rfl : i = xs.length := by omega
      simp (disch := omega) only [l106_7, r106_2, r106_8, ↓reduceIte, go_sem, Nat.reduceLT, Nat.reduceEqDiff, Nat.reduceAdd, Nat.reduceMul, Nat.reduceLeDiff, Int.reduceLT, Int.reduceLE, Int.reduceEq, Int.reduceNeg, Int.reduceToNat, h0, h1, h7, h8, Int.lt_irrefl]
      refine ⟨?_, [], by simp⟩
      rw [hp, List.drop_length]
      rfl
  · exact ⟨0, by simp [go_sem]⟩

theorem fn87 (H : Hp) (s : V) (xs : List Int) (hs : Sl H s 1 (xs.map intC)) (hlen : xs.length < 2 ^ 63) (p : Int → Bool) (f : Nat) (ca cb : List V) (hf : ∀ x ∈ xs, callL Try.prog pr f (ca ++ [.int .i64 x] ++ cb) H = some (.bool (p x), H)) : callL Try.prog pr 87 [s, .fn f ca cb] H = some (.bool (xs.any p), H) := by
  refine flat_of (run87 (Nat.le_of_ble_eq_true rfl) ?_) rfl rfl
  simp (disch := omega) only [c87, r87_0, r87_1, rs87, ↓reduceIte, go_sem, Nat.reduceLT, Nat.reduceEqDiff, Nat.reduceAdd, Nat.reduceMul, Nat.reduceLeDiff, Int.reduceLT, Int.reduceLE, Int.reduceEq, Int.reduceNeg, Int.reduceToNat, fn106 H s xs hs hlen p f ca cb hf]
  exact ⟨by rw [findI_any p xs 0 (by omega)], [], by simp⟩

theorem fn71 (n : Int) (H : Hp) : callL Try.prog pr 71 [.int .i64 n] H = some (.bool (inB n 4503599627370496), H) := by
  refine flat_of (run71 (Nat.le_of_ble_eq_true rfl) ?_) rfl rfl
  simp only [c71, r71_0, r71_1, rs71, ↓reduceIte, go_sem, Nat.reduceLT, Nat.reduceEqDiff, Nat.reduceAdd, Nat.reduceMul, Nat.reduceLeDiff, Int.reduceLT, Int.reduceLE, Int.reduceEq, Int.reduceNeg, Int.reduceToNat, fn33]
  exact ⟨[], by simp⟩
theorem fn88 (n : Int) (id : Nat) (H : Hp) (hl : loadV Try.prog 129 H (.ptr id 0 0) = some (.fn 71 [] [])) : callL Try.prog pr 88 [.int .i64 n, .ptr id 0 0] H = some (.bool (!inB n 4503599627370496), H) := by
  refine flat_of (run88 (Nat.le_of_ble_eq_true rfl) ?_) rfl rfl
  simp only [c88, r88_0, r88_1, rs88, ↓reduceIte, go_sem, Nat.reduceLT, Nat.reduceEqDiff, Nat.reduceAdd, Nat.reduceMul, Nat.reduceLeDiff, Int.reduceLT, Int.reduceLE, Int.reduceEq, Int.reduceNeg, Int.reduceToNat, hl, fn71]
  exact ⟨[], by simp⟩
theorem fn70 (H : Hp) (s : V) (l : List Int) (hs : Sl H s 1 (l.map intC)) (hlen : l.length < 2 ^ 62) : callL Try.prog pr 70 [s, .fn 71 [] []] H = some (.bool (l.any fun x => !inB x 4503599627370496), H) := by
  refine flat_of (run70 (Nat.le_of_ble_eq_true rfl) ?_) rfl rfl
  have h87 := fn87 (H ++ [.row 0 [.fn 71 [] []] true]) s l hs.app (by omega) (fun x => !inB x 4503599627370496) 88 [] [.ptr H.length 0 0] fun x _ => fn88 x H.length _ (by simp [go_sem])
  simp (disch := omega) only [c70, r70_0, r70_1, rs70, ↓reduceIte, go_sem, Nat.reduceLT, Nat.reduceEqDiff, Nat.reduceAdd, Nat.reduceMul, Nat.reduceLeDiff, Int.reduceLT, Int.reduceLE, Int.reduceEq, Int.reduceNeg, Int.reduceToNat, h87]
  exact ⟨_, rfl⟩
/-- Whether a conversation's numbers and ends are right. -/
def numsOk (s : Sm) : Bool := (nums s).all fun n => inB n 4503599627370496
def endsOk (s : Sm) : Bool := !(decide (s.b < s.a) || (decide (s.a = s.b) && decide (s.bp < s.ap)))
theorem or_ends (s : Sm) : decide (orL [cmpI s.a s.b, cmpI s.ap s.bp] ≤ 0) = endsOk s := by
  unfold endsOk orL orL orL cmpI
  by_cases h1 : s.a < s.b
  · have h2 : ¬ s.b < s.a := by omega
    have h3 : ¬ s.a = s.b := by omega
    simp [h1, h2, h3]
  · by_cases h2 : s.b < s.a
    · simp [h1, h2]
    · have h3 : s.a = s.b := by omega
      by_cases h4 : s.ap < s.bp
      · have h5 : ¬ s.bp < s.ap := by omega
        simp [h3, h4, h5]
      · by_cases h5 : s.bp < s.ap
        · simp [h3, h4, h5]
        · simp [h3, h4, h5]
def isSumB (s : Sm) : Bool := numsOk s && endsOk s
theorem fn44 (s : Sm) (H : Hp) : callL Try.prog pr 44 [.agg (smC s)] H = some (.bool (isSumB s), H) := by
  refine flat_of (run44 (Nat.le_of_ble_eq_true rfl) ?_) rfl rfl
  have hsl : ∀ H : Hp, Sl (H ++ [.row 0 (smC s) true] ++ [.row 0 [.int .i64 s.a, .int .i64 s.ap, .int .i64 s.b, .int .i64 s.bp, .int .i64 s.proto, .int .i64 s.go, .int .i64 s.gb, .int .i64 s.back, .int .i64 s.bb, .int .i64 s.first, .int .i64 s.last] true]) (.slice (H ++ [AB.row 0 (smC s) true]).length 0 0 11 1 .full) 1 ((nums s).map intC) := fun H =>
    Own.sl (xs := (nums s).map intC) (.inr ⟨_, 0, 11, rfl, rfl, by omega, by simp [nums, intC]⟩) (ints_all _) (by omega)
  have h70 := fn70 _ _ (nums s) (hsl H) (by simp [nums])
  have hno : ((nums s).any fun x => !inB x 4503599627370496) = !numsOk s := by
    unfold numsOk
    rw [List.all_eq_not_any_not]; simp
  rw [hno] at h70
  unfold isSumB
  by_cases hb : numsOk s = true
  · have h58 := fn58 _ _ [cmpI s.a s.b, cmpI s.ap s.bp] (Own.sl (xs := [cmpI s.a s.b, cmpI s.ap s.bp].map intC) (own_new (H := H ++ [.row 0 (smC s) true] ++ [.row 0 [.int .i64 s.a, .int .i64 s.ap, .int .i64 s.b, .int .i64 s.bp, .int .i64 s.proto, .int .i64 s.go, .int .i64 s.gb, .int .i64 s.back, .int .i64 s.bb, .int .i64 s.first, .int .i64 s.last] true]) (n := 2) rfl (by omega)) (ints_all _) (by omega)) (by simp)
    simp only [List.map_cons, List.map_nil, List.flatten_cons, List.flatten_nil, intC, List.cons_append, List.nil_append] at h58
    simp (config := { maxSteps := 1000000 }) (disch := first | exact lt_new _ | exact lt_app (lt_new _) | omega) only [c44, r44_0, r44_1, r44_2, rs44, ↓reduceIte, go_sem, Nat.reduceLT, Nat.reduceEqDiff, Nat.reduceAdd, Nat.reduceMul, Nat.reduceLeDiff, Int.reduceLT, Int.reduceLE, Int.reduceEq, Int.reduceNeg, Int.reduceToNat, h70, hb, fn51, h58, or_ends]
    exact ⟨_, by rw [List.append_assoc, List.append_assoc]⟩
  · rw [Bool.not_eq_true] at hb
    simp (config := { maxSteps := 1000000 }) (disch := first | exact lt_new _ | exact lt_app (lt_new _) | omega) only [c44, r44_0, r44_1, r44_2, rs44, ↓reduceIte, go_sem, Nat.reduceLT, Nat.reduceEqDiff, Nat.reduceAdd, Nat.reduceMul, Nat.reduceLeDiff, Int.reduceLT, Int.reduceLE, Int.reduceEq, Int.reduceNeg, Int.reduceToNat, h70, hb]
    exact ⟨_, List.append_assoc ..⟩
end Go.Proofs.Ytdpdlobaabcjjaa
