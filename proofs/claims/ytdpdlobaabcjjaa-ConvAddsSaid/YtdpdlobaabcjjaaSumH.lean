/-
  Two conversations added, and the search for one: walked. No statement of the seat stands here.
-/
import Derived.Test.YtdpdlobaabcjjaaSumG
namespace Go.Proofs.Ytdpdlobaabcjjaa
open Go Go.Am
set_option maxRecDepth 4000
set_option linter.unusedSimpArgs false
set_option linter.unusedVariables false

def addS (x y : Sm) : Sm := ⟨x.a, x.ap, x.b, x.bp, x.proto, w64 (x.go + y.go), w64 (x.gb + y.gb), w64 (x.back + y.back), w64 (x.bb + y.bb), if y.first < x.first then y.first else x.first, if x.last < y.last then y.last else x.last⟩
theorem fn43 (x y : Sm) (H : Hp) : callL Try.prog pr 43 [.agg (smC x), .agg (smC y)] H = some (.agg (smC (addS x y)), H) := by
  refine flat_of (run43 (Nat.le_of_ble_eq_true rfl) ?_) rfl rfl
  simp (config := { maxSteps := 1000000 }) (disch := first | exact lt_new _ | exact len_snoc _ _ _ | omega | (simp only [List.length_append, List.length_singleton, List.length_set]; done) | (simp only [List.length_append, List.length_singleton, List.length_set]; omega)) only [c43, r43_0, r43_1, r43_2, r43_3, r43_4, r43_5, r43_6, rs43, ↓reduceIte, go_sem, Nat.reduceLT, Nat.reduceEqDiff, Nat.reduceAdd, Nat.reduceMul, Nat.reduceLeDiff, Int.reduceLT, Int.reduceLE, Int.reduceEq, Int.reduceNeg, Int.reduceToNat]
  exact ⟨rfl, _, by rw [List.append_assoc, List.append_assoc]⟩
theorem fn41 (x y : Sm) (id : Nat) (H : Hp) (hid : id < H.length) (hl : loadV Try.prog 50 H (.ptr id 0 0) = some (.agg (smC y))) : callL Try.prog pr 41 [.agg (smC x), .ptr id 0 0] H = some (.bool (keyEq (keyOf x) (keyOf y)), H) := by
  refine flat_of (run41 (Nat.le_of_ble_eq_true rfl) ?_) rfl rfl
  simp (config := { maxSteps := 1000000 }) (disch := first | exact lt_new _ | exact len_snoc _ _ _ | omega | (simp only [List.length_append, List.length_singleton, List.length_set]; done) | (simp only [List.length_append, List.length_singleton, List.length_set]; omega)) only [c41, r41_0, r41_1, rs41, ↓reduceIte, go_sem, Nat.reduceLT, Nat.reduceEqDiff, Nat.reduceAdd, Nat.reduceMul, Nat.reduceLeDiff, Int.reduceLT, Int.reduceLE, Int.reduceEq, Int.reduceNeg, Int.reduceToNat, hl, fn42]
  exact ⟨rfl, _, rfl⟩
theorem fn40 {α : Type} (enc : α → List V) (H : Hp) (s : V) (xs : List α) (hs : Sl H s 11 (xs.map enc)) (hlen : xs.length < 2 ^ 63) (p : α → Bool) (f : Nat) (ca cb : List V) (hf : ∀ x ∈ xs, callL Try.prog pr f (ca ++ [.agg (enc x)] ++ cb) H = some (.bool (p x), H)) : callL Try.prog pr 40 [s, .fn f ca cb] H = some (.int .i64 (findI p xs 0), H) := by
  have hl : (xs.map enc).length = xs.length := List.length_map _
  have hlenS := fun H' => hs.len (P := Try.prog) (H' := H') s40
  rw [hl] at hlenS
  refine flat_of (run40 (Nat.le_of_ble_eq_true rfl) ?_) rfl rfl
  simp (disch := omega) only [c40, r40_0, r40_1, rs40, ↓reduceIte, go_sem, Nat.reduceLT, Nat.reduceEqDiff, Nat.reduceAdd, Nat.reduceMul, Nat.reduceLeDiff, Int.reduceLT, Int.reduceLE, Int.reduceEq, Int.reduceNeg, Int.reduceToNat, hlenS]
  refine Wp_loop (fun m T D H' => ∃ i, m = xs.length - i ∧ i ≤ xs.length ∧ D = [] ∧ H' = H ∧ get T 0 = s ∧ get T 1 = .fn f ca cb ∧ get T 7 = .int .i64 xs.length ∧ get T 8 = .int .i64 i ∧ findI p xs 0 = findI p (xs.drop i) i) ?_ xs.length _ _ _ ?_
  · rintro m T D H' ⟨i, rfl, hi, rfl, rfl, h0, h1, h7, h8, hp⟩
    by_cases hlt : i < xs.length
    · obtain ⟨x, hx⟩ : ∃ x, xs[i]? = some x := ⟨_, List.getElem?_eq_getElem hlt⟩
      have hx' : (xs.map enc)[i]? = some (enc x) := by rw [List.getElem?_map, hx]; rfl
      have hfx := hf x (List.mem_of_getElem? hx)
      have hlt' : (i : Int) < xs.length := by omega
      have hi2 := fun k => hs.idx (P := Try.prog) (k := k) s40 (i := i) (by omega)
      rw [findI_drop p hx] at hp
      by_cases hb : p x = true
      · rw [if_pos hb] at hp
        simp (disch := omega) only [l40_7, r40_2, r40_3, r40_4, r40_5, r40_6, ↓reduceIte, go_sem, Nat.reduceLT, Nat.reduceEqDiff, Nat.reduceAdd, Nat.reduceMul, Nat.reduceLeDiff, Int.reduceLT, Int.reduceLE, Int.reduceEq, Int.reduceNeg, Int.reduceToNat, h0, h1, h7, h8, hlt', hi2, hs.agg g50 z50 hx', hfx, hb, IntWalk.i64_in]
        exact ⟨by rw [hp], [], by simp⟩
      · rw [if_neg hb] at hp
        rw [Bool.not_eq_true] at hb
        simp (disch := omega) only [l40_7, r40_2, r40_3, r40_4, r40_5, r40_6, ↓reduceIte, go_sem, Nat.reduceLT, Nat.reduceEqDiff, Nat.reduceAdd, Nat.reduceMul, Nat.reduceLeDiff, Int.reduceLT, Int.reduceLE, Int.reduceEq, Int.reduceNeg, Int.reduceToNat, h0, h1, h7, h8, hlt', hi2, hs.agg g50 z50 hx', hfx, hb, IntWalk.i64_in]
        exact ⟨_, by omega, i + 1, rfl, hlt, rfl, hp⟩
    · obtain rfl : i = xs.length := by omega
      simp (disch := omega) only [l40_7, r40_2, r40_8, ↓reduceIte, go_sem, Nat.reduceLT, Nat.reduceEqDiff, Nat.reduceAdd, Nat.reduceMul, Nat.reduceLeDiff, Int.reduceLT, Int.reduceLE, Int.reduceEq, Int.reduceNeg, Int.reduceToNat, h0, h1, h7, h8, Int.lt_irrefl]
      refine ⟨?_, [], by simp⟩
      rw [hp, List.drop_length]
      rfl
  · exact ⟨0, by simp [go_sem]⟩

end Go.Proofs.Ytdpdlobaabcjjaa
