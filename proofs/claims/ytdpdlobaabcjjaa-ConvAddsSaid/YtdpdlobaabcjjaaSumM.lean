/-
  Lists of conversations compared; both additions give the same. No statement of the seat stands here.
-/
import Derived.Test.YtdpdlobaabcjjaaSumL
namespace Go.Proofs.Ytdpdlobaabcjjaa
open Go Go.Am
set_option maxRecDepth 4000
set_option linter.unusedSimpArgs false
set_option linter.unusedVariables false

theorem fn19 (H : Hp) (s1 s2 : V) (l : List Sm) (hs1 : Sl H s1 11 (l.map smC)) (hs2 : Sl H s2 11 (l.map smC)) (hn : l.length ≤ 2000) : callL Try.prog pr 19 [s1, s2] H = some (.bool true, H) := by
  have hl : (l.map smC).length = l.length := List.length_map _
  have hlenA := fun H' => hs1.len (P := Try.prog) (H' := H') s40
  have hlenB := fun H' => hs2.len (P := Try.prog) (H' := H') s37
  rw [hl] at hlenA hlenB
  refine flat_of (run19 (Nat.le_of_ble_eq_true rfl) ?_) rfl rfl
  simp (disch := omega) only [c19, r19_0, r19_1, r19_3, rs19, ↓reduceIte, go_sem, Nat.reduceLT, Nat.reduceEqDiff, Nat.reduceAdd, Nat.reduceMul, Nat.reduceLeDiff, Int.reduceLT, Int.reduceLE, Int.reduceEq, Int.reduceNeg, Int.reduceToNat, hlenA, hlenB, eq_self]
  refine Wp_loop (fun m T D H' => ∃ i, m = l.length - i ∧ i ≤ l.length ∧ D = [] ∧ H' = H ∧ get T 0 = s1 ∧ get T 1 = s2 ∧ get T 5 = .int .i64 i) ?_ l.length _ _ _ ?_
  · rintro m T D H' ⟨i, rfl, hi, rfl, rfl, t0, t1, t5⟩
    by_cases hlt : i < l.length
    · have hlt' : (i : Int) < l.length := by omega
      obtain ⟨x, hx⟩ : ∃ x, l[i]? = some x := ⟨_, List.getElem?_eq_getElem hlt⟩
      have hx' : (l.map smC)[i]? = some (smC x) := by rw [List.getElem?_map, hx]; rfl
      have hi1 := fun k => hs1.idx (P := Try.prog) (k := k) s40 (i := i) (by omega)
      have hi2 := fun k => hs2.idx (P := Try.prog) (k := k) s37 (i := i) (by omega)
      have ha1 := hs1.agg (P := Try.prog) g50 z50 hx'
      have ha2 := hs2.agg (P := Try.prog) g80 z80 hx'
      simp (disch := omega) only [l19_8, r19_4, r19_5, r19_7, ↓reduceIte, go_sem, Nat.reduceLT, Nat.reduceEqDiff, Nat.reduceAdd, Nat.reduceMul, Nat.reduceLeDiff, Int.reduceLT, Int.reduceLE, Int.reduceEq, Int.reduceNeg, Int.reduceToNat, t0, t1, t5, hlt', hlenA, hi1, hi2, ha1, ha2, eq_self, IntWalk.i64_in]
      exact ⟨_, by omega, i + 1, rfl, hlt, rfl⟩
    · obtain rfl : i = l.length := by omega
      simp (disch := omega) only [l19_8, r19_4, r19_9, rs19, ↓reduceIte, go_sem, Nat.reduceLT, Nat.reduceEqDiff, Nat.reduceAdd, Nat.reduceMul, Nat.reduceLeDiff, Int.reduceLT, Int.reduceLE, Int.reduceEq, Int.reduceNeg, Int.reduceToNat, t0, t1, t5, hlenA, Int.lt_irrefl]
      exact ⟨[], by simp⟩
  · exact ⟨0, by simp [go_sem]⟩

theorem findI_ge {α : Type} (p : α → Bool) : ∀ (xs : List α) (n : Int), findI p xs n = -1 ∨ n ≤ findI p xs n
  | [], _ => .inl rfl
  | x :: xs, n => by
    unfold findI
    split
    · exact .inr (Int.le_refl _)
    · rcases findI_ge p xs (n + 1) with h | h
      · exact .inl h
      · exact .inr (by omega)
theorem findI_at {α : Type} (p : α → Bool) : ∀ (xs : List α) (i : Nat) (x : α) (n : Int), 0 ≤ n → xs[i]? = some x → p x = true → (findI p xs n = n + i ↔ (xs.take i).any p = false)
  | [], i, x, n, _, h, _ => by simp at h
  | y :: xs, 0, x, n, _, h, hp => by
    obtain rfl : y = x := by simpa using h
    simp [findI, hp]
  | y :: xs, i + 1, x, n, hn, h, hp => by
    unfold findI
    by_cases hy : p y = true
    · rw [if_pos hy]
      simp only [List.take_succ_cons, List.any_cons, hy, Bool.true_or]
      constructor
      · intro h; omega
      · intro h; simp at h
    · rw [if_neg hy]
      rw [Bool.not_eq_true] at hy
      have ih := findI_at p xs i x (n + 1) (by omega) (by simpa using h) hp
      simp only [List.take_succ_cons, List.any_cons, hy, Bool.false_or]
      rw [← ih]
      constructor <;> intro h <;> omega
theorem findI_eq {α : Type} (p : α → Bool) : ∀ (xs : List α) (n : Int) (j : Nat), 0 ≤ n → findI p xs n = n + j → ∃ x, xs[j]? = some x ∧ p x = true
  | [], n, j, hn, h => by simp [findI] at h; omega
  | y :: xs, n, j, hn, h => by
    unfold findI at h
    split at h
    · rename_i hy
      obtain rfl : j = 0 := by omega
      exact ⟨y, rfl, hy⟩
    · rcases findI_ge p xs (n + 1) with h' | h'
      · omega
      · obtain ⟨x, h1, h2⟩ := findI_eq p xs (n + 1) (j - 1) (by omega) (by omega)
        refine ⟨x, ?_, h2⟩
        obtain ⟨k, rfl⟩ : ∃ k, j = k + 1 := ⟨j - 1, by omega⟩
        simpa using h1
theorem findS_key {a : List Sm} {k : Key} {j : Nat} (h : findS a k = (j : Int)) : ∃ x, a[j]? = some x ∧ keyOf x = k := by
  obtain ⟨x, h1, h2⟩ := findI_eq (fun x => keyEq (keyOf x) k) a 0 j (Int.le_refl _) (by rw [Int.zero_add]; exact h)
  exact ⟨x, h1, (keyEq_iff _ _).1 h2⟩
theorem keyEq_dec (k l : Key) : keyEq k l = decide (k = l) := by
  by_cases h : k = l
  · rw [(keyEq_iff k l).2 h]; simp [h]
  · have : keyEq k l = false := by
      rw [← Bool.not_eq_true]
      exact fun e => h ((keyEq_iff k l).1 e)
    simp [this, h]
theorem okAt_eq (l : List Sm) (i : Nat) : okAt l i = okAt2 l i := by
  unfold okAt okAt2
  cases h : l[i]? with
  | none => rfl
  | some s =>
    have := findI_at (fun x => keyEq (keyOf x) (keyOf s)) l i s 0 (Int.le_refl _) h ((keyEq_iff _ _).2 rfl)
    rw [Int.zero_add] at this
    simp only [isSumB]
    rw [Bool.and_assoc]
    congr 2
    have e : ((l.take i).any fun x => decide (keyOf x = keyOf s)) = ((l.take i).any fun x => keyEq (keyOf x) (keyOf s)) := by
      congr 1
      funext x
      rw [keyEq_dec]
    rw [e]
    by_cases hf : findS l (keyOf s) = (i : Int)
    · rw [this.1 hf]; simp [hf]
    · have : ((l.take i).any fun x => keyEq (keyOf x) (keyOf s)) = true := by
        rw [← Bool.not_eq_false]
        exact fun h => hf (this.2 h)
      rw [this]; simp [hf]
theorem okAll_eq (l : List Sm) (n : Nat) : okAll l n = okTo l n := by
  unfold okAll okTo
  rw [show okAt l = okAt2 l from funext (okAt_eq l)]
theorem okTo_all {l : List Sm} (h : okTo l l.length = true) : (∀ s ∈ l, isSumB s = true) ∧ l.Pairwise fun x y => keyOf x ≠ keyOf y := by
  unfold okTo at h
  rw [List.all_eq_true] at h
  have hi : ∀ (i : Nat) (hi : i < l.length), isSumB l[i] = true ∧ ∀ x ∈ l.take i, keyOf x ≠ keyOf l[i] := by
    intro i hi
    have := h i (by simpa using hi)
    unfold okAt2 at this
    rw [List.getElem?_eq_getElem hi] at this
    simp only [Bool.and_eq_true, Bool.not_eq_true', List.any_eq_false, decide_eq_true_eq] at this
    exact ⟨this.1, fun x hx => this.2 x hx⟩
  refine ⟨fun s hs => ?_, ?_⟩
  · obtain ⟨i, h1, rfl⟩ := List.mem_iff_getElem.1 hs
    exact (hi i h1).1
  · rw [List.pairwise_iff_getElem]
    intro i j h1 h2 hij
    exact (hi j h2).2 _ (List.mem_take_iff_getElem.2 ⟨i, by omega, rfl⟩)
theorem sum_good {x : Sm} (h : isSumB x = true) : good4 x = true := by
  simp only [isSumB, numsOk, nums, List.all_cons, Bool.and_eq_true] at h
  simp [good4, h]
theorem add_good {x y : Sm} (hx : isSumB x = true) (hy : isSumB y = true) : isSumB (addS x y) = good4 (addS x y) := by
  simp only [isSumB, numsOk, nums, endsOk, List.all_cons, List.all_nil, Bool.and_true, Bool.and_eq_true] at hx hy
  have h1 : inB (addS x y).first 4503599627370496 = true := by
    show inB (if y.first < x.first then y.first else x.first) _ = true
    split
    · exact hy.1.2.2.2.2.2.2.2.2.2.1
    · exact hx.1.2.2.2.2.2.2.2.2.2.1
  have h2 : inB (addS x y).last 4503599627370496 = true := by
    show inB (if x.last < y.last then y.last else x.last) _ = true
    split
    · exact hy.1.2.2.2.2.2.2.2.2.2.2
    · exact hx.1.2.2.2.2.2.2.2.2.2.2
  unfold isSumB numsOk nums endsOk good4
  simp only [List.all_cons, List.all_nil, Bool.and_true, h1, h2]
  have e1 : (addS x y).a = x.a := rfl
  have e2 : (addS x y).ap = x.ap := rfl
  have e3 : (addS x y).b = x.b := rfl
  have e4 : (addS x y).bp = x.bp := rfl
  have e5 : (addS x y).proto = x.proto := rfl
  rw [e1, e2, e3, e4, e5, hx.1.1, hx.1.2.1, hx.1.2.2.1, hx.1.2.2.2.1, hx.1.2.2.2.2.1, hx.2]
  simp
theorem addR_stay {a : List Sm} {i : Nat} : ∀ {ys out : List Sm} {x : Sm}, out[i]? = some x → (∀ y ∈ ys, findS a (keyOf y) ≠ (i : Int)) → (addR a ys out)[i]? = some x
  | [], out, x, h, _ => h
  | y :: ys, out, x, h, hy => by
    show (addR a ys (addStep a out y))[i]? = some x
    have hi : i < out.length := (List.getElem?_eq_some_iff.1 h).1
    refine addR_stay ?_ fun z hz => hy z (by simp [hz])
    unfold addStep
    split
    · rw [List.getElem?_append_left hi]; exact h
    · rename_i hneg
      have := hy y (by simp)
      split
      · rw [List.getElem?_set_ne (by omega)]; exact h
      · exact h
theorem add_same {a : List Sm} : ∀ (ys out : List Sm), (∀ y ∈ ys, isSumB y = true) → (ys.Pairwise fun x y => keyOf x ≠ keyOf y) → (∀ x ∈ out, isSumB x = true) → a.length ≤ out.length → (match addP a ys out with
    | some o => (o, (0 : Int))
    | none => ([], 10)) = if (addR a ys out).all good4 = true then (addR a ys out, 0) else ([], 10)
  | [], out, _, _, ho, _ => by
    have : out.all good4 = true := List.all_eq_true.2 fun x hx => sum_good (ho x hx)
    simp [addP, addR, this]
  | y :: ys, out, hy, hp, ho, hl => by
    have hp' := List.pairwise_cons.1 hp
    have e : addR a (y :: ys) out = addR a ys (addStep a out y) := rfl
    rw [e]
    unfold addP addStep
    rcases findS_cases a (keyOf y) with hf | ⟨j, hj, hf⟩
    · have hneg : findS a (keyOf y) < 0 := by omega
      simp only [if_pos hneg]
      refine add_same ys _ (fun z hz => hy z (by simp [hz])) hp'.2 (fun x hx => ?_) (by simp; omega)
      rcases List.mem_append.1 hx with h | h
      · exact ho x h
      · obtain rfl := List.mem_singleton.1 h
        exact hy x (by simp)
    · obtain ⟨x, hx⟩ : ∃ x, out[j]? = some x := ⟨_, List.getElem?_eq_getElem (by omega)⟩
      have hneg : ¬ (j : Int) < 0 := by omega
      simp only [hf, if_neg hneg, Int.toNat_natCast, hx]
      have hxs := ho x (List.mem_of_getElem? hx)
      by_cases hs : isSumB (addS x y) = true
      · rw [if_pos hs]
        refine add_same ys _ (fun z hz => hy z (by simp [hz])) hp'.2 (fun z hz => ?_) (by simpa using hl)
        rcases List.mem_or_eq_of_mem_set hz with h | h
        · exact ho z h
        · rw [h]; exact hs
      · rw [if_neg hs]
        rw [Bool.not_eq_true, add_good hxs (hy y (by simp))] at hs
        have hst := addR_stay (a := a) (i := j) (ys := ys) (out := out.set j (addS x y)) (x := addS x y) (by rw [List.getElem?_set_self (by omega)]) fun z hz h => by
          obtain ⟨w, h1, h2⟩ := findS_key h
          obtain ⟨w', h3, h4⟩ := findS_key hf
          rw [h1] at h3
          injection h3 with h3
          subst h3
          exact hp'.1 z hz (h4.symm.trans h2)
        have : (addR a ys (out.set j (addS x y))).all good4 = false := List.all_eq_false.2 ⟨_, List.mem_of_getElem? hst, by simp [hs]⟩
        rw [this]; rfl
theorem res_same {a b : List Sm} (ha : a.length ≤ 200) (hb : b.length ≤ 200) : resP a b = resR a b := by
  unfold resP resR
  rw [if_neg (by omega : ¬ (200 < a.length ∨ 200 < b.length))]
  have ea : askS a = if okTo a a.length = true then 0 else 1 := by
    unfold askS
    rw [if_neg (by omega), okAll_eq]
  have eb : askS b = if okTo b b.length = true then 0 else 1 := by
    unfold askS
    rw [if_neg (by omega), okAll_eq]
  have es : sumsE [a, b] = if okTo a a.length = true ∧ okTo b b.length = true then 0 else 1 := by
    unfold sumsE
    rw [if_neg (by simp; omega)]
    simp
  rw [ea, eb, es]
  by_cases h1 : okTo a a.length = true
  · by_cases h2 : okTo b b.length = true
    · simp only [h1, h2, and_self, if_true]
      obtain ⟨a1, -⟩ := okTo_all h1
      obtain ⟨b1, b2⟩ := okTo_all h2
      exact add_same b a b1 b2 a1 (Nat.le_refl _)
    · simp [h1, h2]
  · simp [h1]
end Go.Proofs.Ytdpdlobaabcjjaa
