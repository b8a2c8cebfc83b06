/-
  Which pieces have a place in common, as the program tells it: the walk. No statement of the seat stands here.
-/
import Derived.Test.YtdpdlobaabcjjabFragA
namespace Go.Proofs.Ytdpdlobaabcjjab
open Go Go.Am
set_option maxRecDepth 4000
set_option linter.unusedSimpArgs false
set_option linter.unusedVariables false

theorem fn10 (H : Hp) (s : V) (l : List Pc) (hs : Sl H s 5 (l.map pcC)) (hok : ∀ p ∈ l, PcOk p) (hlen : l.length ≤ 9223372036854775807) : ∃ b, callL Try.prog pr 10 [s] H = some (.bool b, H) := by
  have hl : (l.map pcC).length = l.length := List.length_map _
  have hlenS := fun H' => hs.len (P := Try.prog) (H' := H') s22
  rw [hl] at hlenS
  suffices h : ∃ v' H', ((∃ b, v' = .bool b) ∧ H' = H) ∧ callL Try.prog pr 10 [s] H = some (gcC H (v', H')) by
    obtain ⟨v', H', ⟨⟨b, rfl⟩, rfl⟩, h⟩ := h
    exact ⟨b, by rw [h, gc_old (by simp) rfl (by simp [refR, refA, refB])]⟩
  refine run10 (Nat.le_of_ble_eq_true rfl) ?_
  simp (disch := omega) only [c10, r10_0, r10_1, r10_2, rs10, ↓reduceIte, go_sem, Nat.reduceLT, Nat.reduceEqDiff, Nat.reduceAdd, Nat.reduceMul, Nat.reduceLeDiff, Int.reduceLT, Int.reduceLE, Int.reduceEq, Int.reduceNeg, hlenS]
  refine Wp_loop (fun m T D H' => ∃ i n, m = l.length - i ∧ i ≤ l.length ∧ D = [] ∧ H' = H ∧ get T 0 = s ∧ get T 4 = .int .i64 i ∧ get T 3 = .int .i64 n) ?_ l.length _ _ _ ?_
  · rintro m T D H' ⟨i, n, rfl, hi, rfl, rfl, t0, t4, t3⟩
    by_cases hlt : i < l.length
    · obtain ⟨p, hp⟩ : ∃ p, l[i]? = some p := ⟨_, List.getElem?_eq_getElem hlt⟩
      have hx : (l.map pcC)[i]? = some (pcC p) := by rw [List.getElem?_map, hp]; rfl
      have hpo := hok p (List.mem_of_getElem? hp)
      have hpl := hpo.len
      have hlt' : (i : Int) < l.length := by omega
      have hi2 := fun k => hs.idx (P := Try.prog) (k := k) s22 (i := i) (by omega)
      have hc := hs.cell (P := Try.prog) g25 hx (j := 3) (by omega)
      simp (disch := omega) only [l10_6, r10_3, r10_4, r10_5, ↓reduceIte, go_sem, Nat.reduceLT, Nat.reduceEqDiff, Nat.reduceAdd, Nat.reduceMul, Nat.reduceLeDiff, Int.reduceLT, Int.reduceLE, Int.reduceEq, Int.reduceNeg, t0, t4, t3, hlt', hlenS, hi2, hc, hpl, IntWalk.i64_in]
      exact ⟨_, by omega, i + 1, _, rfl, hlt, rfl, rfl⟩
    · obtain rfl : i = l.length := by omega
      simp (disch := omega) only [l10_6, r10_3, r10_7, ↓reduceIte, go_sem, Nat.reduceLT, Nat.reduceEqDiff, Nat.reduceAdd, Nat.reduceMul, Nat.reduceLeDiff, Int.reduceLT, Int.reduceLE, Int.reduceEq, Int.reduceNeg, t0, t4, t3, Int.lt_irrefl, hlenS]
      exact ⟨_, rfl⟩
  · exact ⟨0, _, by simp [go_sem]; rfl⟩

/-- Two numbers' cells. -/
abbrev prC (p : Nat × Nat) : List V := [.int .i64 p.1, .int .i64 p.2]
def ovl (p q : Pc) : Bool := decide (p.id = q.id) && decide ((if q.at_ > p.at_ then q.at_ else p.at_) < (if pcEnd q < pcEnd p then pcEnd q else pcEnd p))
def ovlAt (l : List Pc) (i k : Nat) : Bool := match l[i]?, l[k]? with
  | some p, some q => ovl p q
  | _, _ => false
def ovRow (l : List Pc) (i k : Nat) : List (Nat × Nat) := ((List.range k).filter fun j => decide (i < j) && ovlAt l i j).map fun j => (i, j)
def ovAll (l : List Pc) (i : Nat) : List (Nat × Nat) := (List.range i).flatMap fun j => ovRow l j l.length
theorem ovRow_next (l : List Pc) {i k : Nat} (h : i < k) : ovRow l i (k + 1) = if ovlAt l i k = true then ovRow l i k ++ [(i, k)] else ovRow l i k := by
  unfold ovRow
  rw [List.range_succ, List.filter_append, List.map_append]
  by_cases hb : ovlAt l i k = true
  · rw [if_pos hb, List.filter_cons_of_pos (by simp [h, hb])]; rfl
  · rw [if_neg hb, List.filter_cons_of_neg (by simp [hb])]; simp
theorem ovRow_first (l : List Pc) (i : Nat) : ovRow l i (i + 1) = [] := by
  unfold ovRow
  rw [List.filter_eq_nil_iff.2 fun j hj => by have := List.mem_range.1 hj; simp; omega]
  rfl
theorem ovAll_next (l : List Pc) (i : Nat) : ovAll l (i + 1) = ovAll l i ++ ovRow l i l.length := by
  unfold ovAll
  rw [List.range_succ, List.flatMap_append]
  simp
theorem ovRow_len (l : List Pc) (i k : Nat) : (ovRow l i k).length ≤ k := by
  unfold ovRow
  rw [List.length_map]
  exact Nat.le_trans (List.length_filter_le _ _) (by simp)
theorem ovAll_len (l : List Pc) : ∀ i, (ovAll l i).length ≤ i * l.length
  | 0 => by simp [ovAll]
  | i + 1 => by
    rw [ovAll_next, List.length_append, Nat.succ_mul]
    have := ovAll_len l i
    have := ovRow_len l i l.length
    omega
theorem prs_snoc (ps : List (Nat × Nat)) (i k : Nat) : ((ps ++ [(i, k)]).map prC).flatten = (ps.map prC).flatten ++ [.int .i64 i, .int .i64 k] := by simp
theorem prs_len (ps : List (Nat × Nat)) : (ps.map prC).flatten.length = ps.length * 2 := by
  rw [flat_len (sz := 2) (by simp; rintro x a b _ rfl; rfl), List.length_map]
theorem prs_leaf (ps : List (Nat × Nat)) : (ps.map prC).flatten.all V.leaf = true := by
  simp [V.leaf]
/-- What is told at the end. -/
def ovE (l : List Pc) : Int := if l.any (fun p => !isPieceB p) = true then 1 else if l.any isFarB = true ∨ 200 < l.length then 3 else 0
def ovL (l : List Pc) : List (Nat × Nat) := if ovE l = 0 then ovAll l l.length else []
end Go.Proofs.Ytdpdlobaabcjjab
