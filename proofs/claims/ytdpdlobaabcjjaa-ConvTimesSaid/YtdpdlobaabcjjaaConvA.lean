/-
  What the times of pairs are, as the program reckons them: the walk. No statement of the seat stands here.
-/
import Derived.Test.YtdpdlobaabcjjaaCodeA
namespace Go.Proofs.Ytdpdlobaabcjjaa
open Go Go.Am
set_option maxRecDepth 4000
set_option linter.unusedSimpArgs false
set_option linter.unusedVariables false

theorem within33 (n m : Int) (H : Hp) : callL Try.prog pr 33 [.int .i64 n, .int .i64 m] H = some (.bool (decide (0 ≤ n ∧ n ≤ m)), H) := by
  refine flat_of (run33 (Nat.le_of_ble_eq_true rfl) ?_) rfl rfl
  by_cases h0 : 0 ≤ n <;> by_cases h1 : n ≤ m <;>
    simp only [c33, r33_0, r33_1, rs33, go_sem, h0, h1, Nat.reduceLT, Nat.reduceEqDiff, false_and, and_false] <;> exact ⟨[], by simp⟩
theorem within34 (n m : Int) (H : Hp) : callL Try.prog pr 34 [.int .i64 n, .int .i64 m] H = some (.bool (decide (0 ≤ n ∧ n ≤ m)), H) := by
  refine flat_of (run34 (Nat.le_of_ble_eq_true rfl) ?_) rfl rfl
  by_cases h0 : 0 ≤ n <;> by_cases h1 : n ≤ m <;>
    simp only [c34, r34_0, r34_1, rs34, go_sem, h0, h1, Nat.reduceLT, Nat.reduceEqDiff, false_and, and_false] <;> exact ⟨[], by simp⟩
theorem fn32 (a b c : Int) (H : Hp) : callL Try.prog pr 32 [.agg [.int .i64 a, .int .i64 b, .int .i64 c]] H = some (.bool (decide (0 ≤ c ∧ c ≤ 1000000000000000)), H) := by
  refine flat_of (run32 (Nat.le_of_ble_eq_true rfl) ?_) rfl rfl
  simp only [c32, r32_0, r32_1, rs32, ↓reduceIte, go_sem, Nat.reduceLT, Nat.reduceEqDiff, Nat.reduceAdd, Nat.reduceMul, Nat.reduceLeDiff, Int.reduceLT, Int.reduceLE, Int.reduceEq, Int.reduceNeg, within33]
  exact ⟨_, rfl⟩
/-- The negation, whose function lies in a cell. -/
theorem fn69 (x : List V) (hx : x.all V.isCell = true) (hn : x.length = 3) (id : Nat) (f : Nat) (b : Bool) (H : Hp) (hid : id < H.length) (hl : loadV Try.prog 77 H (.ptr id 0 0) = some (.fn f [] [])) (hf : ∀ H, callL Try.prog pr f [.agg x] H = some (.bool b, H)) : callL Try.prog pr 69 [.agg x, .ptr id 0 0] H = some (.bool (!b), H) := by
  refine flat_of (run69 (Nat.le_of_ble_eq_true rfl) ?_) rfl rfl
  simp (disch := omega) only [c69, r69_0, r69_1, rs69, ↓reduceIte, go_sem, Nat.reduceLT, Nat.reduceEqDiff, Nat.reduceAdd, Nat.reduceMul, Nat.reduceLeDiff, Int.reduceLT, Int.reduceLE, Int.reduceEq, Int.reduceNeg, hx, hid, hl, hf, part_whole g27 (z27.trans (congrArg some hn.symm))]
  exact ⟨_, rfl⟩
/-- The number of the first element of which it is told. -/
def findI (p : List V → Bool) : List (List V) → Int → Int
  | [], _ => -1
  | x :: xs, i => if p x then i else findI p xs (i + 1)
theorem findI_any (p : List V → Bool) : ∀ (xs : List (List V)) (i : Int), 0 ≤ i → decide (0 ≤ findI p xs i) = xs.any p
  | [], i, _ => rfl
  | x :: xs, i, h => by
    unfold findI
    by_cases hp : p x = true
    · simp [hp, h]
    · rw [if_neg hp, findI_any p xs (i + 1) (by omega)]
      simp [hp]
theorem findI_drop (p : List V → Bool) {xs : List (List V)} {i : Nat} {x : List V} (hx : xs[i]? = some x) (n : Int) : findI p (xs.drop i) n = if p x then n else findI p (xs.drop (i + 1)) (n + 1) := by
  obtain ⟨h1, rfl⟩ := List.getElem?_eq_some_iff.1 hx
  rw [List.drop_eq_getElem_cons h1]
  rfl
theorem fn86 (H : Hp) (s : V) (xs : List (List V)) (hs : Sl H s 3 xs) (hlen : xs.length < 2 ^ 62) (p : List V → Bool) (f : Nat) (ca cb : List V) (hf : ∀ x ∈ xs, callL Try.prog pr f (ca ++ [.agg x] ++ cb) H = some (.bool (p x), H)) : callL Try.prog pr 86 [s, .fn f ca cb] H = some (.int .i64 (findI p xs 0), H) := by
  refine flat_of (run86 (Nat.le_of_ble_eq_true rfl) ?_) rfl rfl
  simp (disch := omega) only [c86, r86_0, r86_1, rs86, ↓reduceIte, go_sem, Nat.reduceLT, Nat.reduceEqDiff, Nat.reduceAdd, Nat.reduceMul, Nat.reduceLeDiff, Int.reduceLT, Int.reduceLE, Int.reduceEq, Int.reduceNeg, hs.len s24]
  refine Wp_loop (fun m T D H' => ∃ i, m = xs.length - i ∧ i ≤ xs.length ∧ D = [] ∧ H' = H ∧ get T 0 = s ∧ get T 1 = .fn f ca cb ∧ get T 7 = .int .i64 xs.length ∧ get T 8 = .int .i64 i ∧ findI p xs 0 = findI p (xs.drop i) i) ?_ xs.length _ _ _ ?_
  · rintro m T D H' ⟨i, rfl, hi, rfl, rfl, h0, h1, h7, h8, hp⟩
    by_cases hlt : i < xs.length
    · obtain ⟨x, hx⟩ : ∃ x, xs[i]? = some x := ⟨_, List.getElem?_eq_getElem hlt⟩
      have hfx := hf x (List.mem_of_getElem? hx)
      have hlt' : (i : Int) < xs.length := by omega
      rw [findI_drop p hx] at hp
      by_cases hb : p x = true
      · rw [if_pos hb] at hp
        simp (disch := omega) only [l86_7, r86_2, r86_3, r86_4, r86_5, r86_6, ↓reduceIte, go_sem, Nat.reduceLT, Nat.reduceEqDiff, Nat.reduceAdd, Nat.reduceMul, Nat.reduceLeDiff, Int.reduceLT, Int.reduceLE, Int.reduceEq, Int.reduceNeg, h0, h1, h7, h8, hlt', hs.idx s24, hs.agg g27 z27 hx, hfx, hb, IntWalk.i64_in]
        exact ⟨by rw [hp], [], by simp⟩
      · rw [if_neg hb] at hp
        rw [Bool.not_eq_true] at hb
        simp (disch := omega) only [l86_7, r86_2, r86_3, r86_4, r86_5, r86_6, ↓reduceIte, go_sem, Nat.reduceLT, Nat.reduceEqDiff, Nat.reduceAdd, Nat.reduceMul, Nat.reduceLeDiff, Int.reduceLT, Int.reduceLE, Int.reduceEq, Int.reduceNeg, h0, h1, h7, h8, hlt', hs.idx s24, hs.agg g27 z27 hx, hfx, hb, IntWalk.i64_in]
        exact ⟨_, by omega, i + 1, rfl, hlt, rfl, hp⟩
    · obtain rfl : i = xs.length := by omega
      simp (disch := omega) only [l86_7, r86_2, r86_8, ↓reduceIte, go_sem, Nat.reduceLT, Nat.reduceEqDiff, Nat.reduceAdd, Nat.reduceMul, Nat.reduceLeDiff, Int.reduceLT, Int.reduceLE, Int.reduceEq, Int.reduceNeg, h0, h1, h7, h8, Int.lt_irrefl]
      refine ⟨?_, [], by simp⟩
      rw [hp, List.drop_length]
      rfl
  · exact ⟨0, by simp [go_sem]⟩
theorem fn68 (H : Hp) (s : V) (xs : List (List V)) (hs : Sl H s 3 xs) (hlen : xs.length < 2 ^ 62) (p : List V → Bool) (f : Nat) (ca cb : List V) (hf : ∀ x ∈ xs, callL Try.prog pr f (ca ++ [.agg x] ++ cb) H = some (.bool (p x), H)) : callL Try.prog pr 68 [s, .fn f ca cb] H = some (.bool (xs.any p), H) := by
  refine flat_of (run68 (Nat.le_of_ble_eq_true rfl) ?_) rfl rfl
  simp (disch := omega) only [c68, r68_0, r68_1, rs68, ↓reduceIte, go_sem, Nat.reduceLT, Nat.reduceEqDiff, Nat.reduceAdd, Nat.reduceMul, Nat.reduceLeDiff, Int.reduceLT, Int.reduceLE, Int.reduceEq, Int.reduceNeg, fn86 H s xs hs hlen p f ca cb hf]
  exact ⟨by rw [findI_any p xs 0 (by omega)], [], by simp⟩
theorem fn31 (H : Hp) (s : V) (xs : List (List V)) (hs : Sl H s 3 xs) (hc : ∀ x ∈ xs, x.all V.isCell = true) (hlen : xs.length < 2 ^ 62) (p : List V → Bool) (f : Nat) (hf : ∀ x ∈ xs, ∀ H, callL Try.prog pr f [.agg x] H = some (.bool (p x), H)) : callL Try.prog pr 31 [s, .fn f [] []] H = some (.bool (xs.any fun x => !p x), H) := by
  refine flat_of (run31 (Nat.le_of_ble_eq_true rfl) ?_) rfl rfl
  have h69 := fn68 (H ++ [.row 0 [.fn f [] []] true]) s xs hs.app hlen (fun x => !p x) 69 [] [.ptr H.length 0 0] fun x hx => fn69 x (hc x hx) (hs.1 x hx) H.length f (p x) _ (lt_new _) (by simp [go_sem]) (hf x hx)
  simp (disch := omega) only [c31, r31_0, r31_1, rs31, ↓reduceIte, go_sem, Nat.reduceLT, Nat.reduceEqDiff, Nat.reduceAdd, Nat.reduceMul, Nat.reduceLeDiff, Int.reduceLT, Int.reduceLE, Int.reduceEq, Int.reduceNeg, h69]
  exact ⟨_, rfl⟩

/-- A pair's cells. -/
def pairC (t : Int × Int × Int) : List V := [.int .i64 t.1, .int .i64 t.2.1, .int .i64 t.2.2]
def minL : List (Int × Int × Int) → Int → Int
  | [], m => m
  | t :: l, m => minL l (if t.2.2 < m then t.2.2 else m)
def maxL : List (Int × Int × Int) → Int → Int
  | [], m => m
  | t :: l, m => maxL l (if t.2.2 > m then t.2.2 else m)
def sumL : List (Int × Int × Int) → Int → Int
  | [], m => m
  | t :: l, m => sumL l (m + t.2.2)
theorem minL_snoc (t : Int × Int × Int) : ∀ (l : List (Int × Int × Int)) (m : Int), minL (l ++ [t]) m = if t.2.2 < minL l m then t.2.2 else minL l m
  | [], m => rfl
  | x :: l, m => minL_snoc t l _
theorem maxL_snoc (t : Int × Int × Int) : ∀ (l : List (Int × Int × Int)) (m : Int), maxL (l ++ [t]) m = if t.2.2 > maxL l m then t.2.2 else maxL l m
  | [], m => rfl
  | x :: l, m => maxL_snoc t l _
theorem sumL_snoc (t : Int × Int × Int) : ∀ (l : List (Int × Int × Int)) (m : Int), sumL (l ++ [t]) m = sumL l m + t.2.2
  | [], m => rfl
  | x :: l, m => sumL_snoc t l _
theorem take_snoc {α : Type} {l : List α} {i : Nat} {t : α} (h : l[i]? = some t) : l.take (i + 1) = l.take i ++ [t] := by
  rw [List.take_add_one, h]; rfl
def okT (t : Int × Int × Int) : Bool := decide (0 ≤ t.2.2 ∧ t.2.2 ≤ 1000000000000000)
theorem sumL_bound : ∀ (l : List (Int × Int × Int)) (m : Int), (∀ t ∈ l, okT t = true) → m ≤ sumL l m ∧ sumL l m ≤ m + l.length * 1000000000000000
  | [], m, _ => by simp [sumL]
  | x :: l, m, h => by
    have h1 := sumL_bound l (m + x.2.2) fun t ht => h t (by simp [ht])
    have h2 := h x (by simp)
    simp only [okT, decide_eq_true_eq] at h2
    simp only [sumL, List.length_cons]
    omega
def five (a b c d e : Int) : V := .tup [.int .i64 a, .int .i64 b, .int .i64 c, .int .i64 d, .int .i64 e]
def timesA (l : List (Int × Int × Int)) : V :=
  if 200 < l.length then five 0 0 0 0 3 else
  if l.any (fun t => !okT t) then five 0 0 0 0 1 else
  if l.length = 0 then five 0 0 0 0 0 else five l.length (minL l 1000000000000000) (maxL l 0) ((2 * sumL l 0 + l.length) / (2 * l.length)) 0
def okC : List V → Bool
  | [_, _, .int _ c] => decide (0 ≤ c ∧ c ≤ 1000000000000000)
  | _ => false
theorem pair_cells (l : List (Int × Int × Int)) : ∀ x ∈ l.map pairC, x.all V.isCell = true := by
  intro x hx
  obtain ⟨t, _, rfl⟩ := List.mem_map.1 hx
  rfl
theorem fn11 (H : Hp) (s : V) (l : List (Int × Int × Int)) (hs : Sl H s 3 (l.map pairC)) (hlen : l.length < 2 ^ 61) : callL Try.prog pr 11 [s] H = some (timesA l, H) := by
  have h31 := fn31 H s (l.map pairC) hs (pair_cells l) (by simp; omega) okC 32 (by
    intro x hx H
    obtain ⟨t, _, rfl⟩ := List.mem_map.1 hx
    exact fn32 t.1 t.2.1 t.2.2 H)
  have e31 : ((l.map pairC).any fun x => !okC x) = l.any (fun t => !okT t) := by
    rw [List.any_map]; rfl
  rw [e31] at h31
  have hl : (l.map pairC).length = l.length := List.length_map _
  have hlenS := fun H' => hs.len (P := Try.prog) (H' := H') s24
  rw [hl] at hlenS
  refine flat_of (run11 (Nat.le_of_ble_eq_true rfl) ?_) ?_ ?_
  · unfold timesA
    by_cases h1 : 200 < l.length
    · have h1' : (200 : Int) < l.length := by omega
      simp (disch := omega) only [c11, r11_0, r11_1, r11_2, rs11, ↓reduceIte, go_sem, Nat.reduceLT, Nat.reduceEqDiff, Nat.reduceAdd, Nat.reduceMul, Nat.reduceLeDiff, Int.reduceLT, Int.reduceLE, Int.reduceEq, Int.reduceNeg, hlenS, h1, h1']
      exact ⟨rfl, [], by simp⟩
    · have h1' : ¬ (200 : Int) < l.length := by omega
      by_cases h2 : l.any (fun t => !okT t) = true
      · simp (disch := omega) only [c11, r11_0, r11_1, r11_3, r11_4, rs11, ↓reduceIte, go_sem, Nat.reduceLT, Nat.reduceEqDiff, Nat.reduceAdd, Nat.reduceMul, Nat.reduceLeDiff, Int.reduceLT, Int.reduceLE, Int.reduceEq, Int.reduceNeg, hlenS, h1, h1', h31, h2]
        exact ⟨rfl, [], by simp⟩
      · rw [Bool.not_eq_true] at h2
        have hok : ∀ t ∈ l, okT t = true := fun t ht => by simpa using List.any_eq_false.1 h2 t ht
        by_cases h3 : l.length = 0
        · have h3' : (l.length : Int) = 0 := by omega
          simp (disch := omega) only [c11, r11_0, r11_1, r11_3, r11_5, r11_6, rs11, ↓reduceIte, go_sem, Nat.reduceLT, Nat.reduceEqDiff, Nat.reduceAdd, Nat.reduceMul, Nat.reduceLeDiff, Int.reduceLT, Int.reduceLE, Int.reduceEq, Int.reduceNeg, hlenS, h1, h1', h31, h2, h3, h3']
          exact ⟨rfl, [], by simp⟩
        · have h3' : ¬ (l.length : Int) = 0 := by omega
          simp (disch := omega) only [c11, r11_0, r11_1, r11_3, r11_5, r11_7, r11_8, rs11, ↓reduceIte, go_sem, Nat.reduceLT, Nat.reduceEqDiff, Nat.reduceAdd, Nat.reduceMul, Nat.reduceLeDiff, Int.reduceLT, Int.reduceLE, Int.reduceEq, Int.reduceNeg, hlenS, h1, h1', h31, h2, h3, h3']
          refine Wp_loop (fun m T D H' => ∃ i, m = l.length - i ∧ i ≤ l.length ∧ D = [] ∧ (∃ G, H' = H ++ G) ∧ get T 0 = s ∧ get T 24 = s ∧ get T 25 = .int .i64 l.length ∧ get T 26 = .int .i64 i ∧
              get T 7 = .int .i64 (minL (l.take i) 1000000000000000) ∧ get T 8 = .int .i64 (maxL (l.take i) 0) ∧ get T 9 = .int .i64 (sumL (l.take i) 0)) ?_ l.length _ _ _ ?_
          · rintro m T D H' ⟨i, rfl, hi, rfl, ⟨G, rfl⟩, t0, t24, t25, t26, t7, t8, t9⟩
            by_cases hlt : i < l.length
            · have hlt' : (i : Int) < l.length := by omega
              obtain ⟨t, ht⟩ : ∃ t, l[i]? = some t := ⟨_, List.getElem?_eq_getElem hlt⟩
              have hx : (l.map pairC)[i]? = some (pairC t) := by rw [List.getElem?_map, ht]; rfl
              have hid := hs.lt (i := i) (by omega)
              have hi2 := fun k => hs.idx (P := Try.prog) (k := k) s24 (i := i) (by omega)
              simp (disch := omega) only [l11_14, r11_9, r11_10, r11_11, r11_12, r11_13, ↓reduceIte, go_sem, Nat.reduceLT, Nat.reduceEqDiff, Nat.reduceAdd, Nat.reduceMul, Nat.reduceLeDiff, Int.reduceLT, Int.reduceLE, Int.reduceEq, Int.reduceNeg, t0, t24, t25, t26, t7, t8, t9, hlt', hi2, hs.agg g27 z27 hx, pairC, hid, IntWalk.i64_in]
              refine ⟨_, by omega, i + 1, rfl, by omega, ⟨_, List.append_assoc ..⟩, rfl, ?_, ?_, ?_⟩
              · rw [take_snoc ht, minL_snoc]
              · rw [take_snoc ht, maxL_snoc]
              · rw [take_snoc ht, sumL_snoc]
                have hb := sumL_bound (l.take i) 0 fun t ht => hok t (List.mem_of_mem_take ht)
                have ht2 := hok t (List.mem_of_getElem? ht)
                simp only [okT, decide_eq_true_eq] at ht2
                rw [List.length_take, Nat.min_eq_left hi] at hb
                rw [IntWalk.i64_in _ (by omega)]
            · obtain rfl : i = l.length := by omega
              rw [List.take_length] at t7 t8 t9
              have hb := sumL_bound l 0 hok
              have hq : ¬ 2 * (l.length : Int) = 0 := by omega
              simp (disch := omega) only [l11_14, r11_9, r11_15, r11_16, ↓reduceIte, go_sem, Nat.reduceLT, Nat.reduceEqDiff, Nat.reduceAdd, Nat.reduceMul, Nat.reduceLeDiff, Int.reduceLT, Int.reduceLE, Int.reduceEq, Int.reduceNeg, t0, t24, t25, t26, t7, t8, t9, Int.lt_irrefl, hlenS, IntWalk.i64_in, IntWalk.i64_quo, hq]
              exact ⟨rfl, _, rfl⟩
          · exact ⟨0, by simp [go_sem, minL, maxL, sumL]⟩
  · unfold timesA five
    split
    · rfl
    · split
      · rfl
      · split <;> rfl
  · unfold timesA five
    split
    · rfl
    · split
      · rfl
      · split <;> rfl

def timesB (l : List (Int × Int × Int)) : V := timesA l
end Go.Proofs.Ytdpdlobaabcjjaa
