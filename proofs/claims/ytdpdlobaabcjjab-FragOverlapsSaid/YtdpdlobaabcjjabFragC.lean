/-
  Which pieces have a place in common, as the program tells it: the program's function, walked. No statement of the seat stands here.
-/
import Derived.Test.YtdpdlobaabcjjabFragB
namespace Go.Proofs.Ytdpdlobaabcjjab
open Go Go.Am
set_option maxRecDepth 4000
set_option linter.unusedSimpArgs false
set_option linter.unusedVariables false

theorem near_bounds {p : Pc} (h1 : isPieceB p = true) (h2 : isFarB p = false) : 0 ≤ p.at_ ∧ p.at_ ≤ 4000 ∧ p.at_ + p.data.length ≤ 4000 := by
  simp [isPieceB] at h1
  simp only [isFarB, Bool.or_eq_false_iff, decide_eq_false_iff_not] at h2
  have h3 := h2.2
  unfold pcEnd at h3
  omega

set_option maxHeartbeats 1000000 in
theorem fn14 (H : Hp) (s : V) (l : List Pc) (hs : Sl H s 5 (l.map pcC)) (hok : ∀ p ∈ l, PcOk p) (hlen : l.length ≤ 9223372036854775807) :
    ∃ v H2, callL Try.prog pr 14 [s] H = some (.tup [v, .int .i64 (ovE l)], H2) ∧ Own H2 v 2 ((ovL l).map prC).flatten ∧ (∃ G, H2 = H ++ G) ∧ ∀ id, At v id → H.length ≤ id := by
  have hl : (l.map pcC).length = l.length := List.length_map _
  have hlenS := fun H' => hs.len (P := Try.prog) (H' := H') s22
  rw [hl] at hlenS
  have c1 := fn29 pcC H s l hs (by omega) (fun p => !isPieceB p) 33 [] [] fun p hp => fn33 p (hok p hp) H
  have c2 := fn29 pcC H s l hs (by omega) isFarB 35 [] [] fun p hp => fn35 p (hok p hp) H
  refine own_of (run14 (Nat.le_of_ble_eq_true rfl) ?_) (prs_leaf _) rfl
  by_cases h1 : l.any (fun p => !isPieceB p) = true
  · simp (disch := omega) only [c14, r14_0, r14_1, r14_2, rs14, ↓reduceIte, go_sem, Nat.reduceLT, Nat.reduceEqDiff, Nat.reduceAdd, Nat.reduceMul, Nat.reduceLeDiff, Int.reduceLT, Int.reduceLE, Int.reduceEq, Int.reduceNeg, c1, h1]
    exact ⟨.nilslice, by simp [ovE, h1], by simp [ovL, ovE, h1, own_nil], by simp, by rintro id ⟨_, _, _, _, _, e⟩; cases e⟩
  · rw [Bool.not_eq_true] at h1
    by_cases h2 : l.any isFarB = true
    · simp (disch := omega) only [c14, r14_0, r14_1, r14_3, r14_4, rs14, ↓reduceIte, go_sem, Nat.reduceLT, Nat.reduceEqDiff, Nat.reduceAdd, Nat.reduceMul, Nat.reduceLeDiff, Int.reduceLT, Int.reduceLE, Int.reduceEq, Int.reduceNeg, c1, c2, h1, h2]
      exact ⟨.nilslice, by simp [ovE, h1, h2], by simp [ovL, ovE, h1, h2, own_nil], by simp, by rintro id ⟨_, _, _, _, _, e⟩; cases e⟩
    · rw [Bool.not_eq_true] at h2
      by_cases h3 : 200 < l.length
      · have h3' : (200 : Int) < l.length := by omega
        simp (disch := omega) only [c14, r14_0, r14_1, r14_3, r14_4, rs14, ↓reduceIte, go_sem, Nat.reduceLT, Nat.reduceEqDiff, Nat.reduceAdd, Nat.reduceMul, Nat.reduceLeDiff, Int.reduceLT, Int.reduceLE, Int.reduceEq, Int.reduceNeg, c1, c2, h1, h2, h3', hlenS]
        exact ⟨.nilslice, by simp [ovE, h1, h2, h3], by simp [ovL, ovE, h1, h2, h3, own_nil], by simp, by rintro id ⟨_, _, _, _, _, e⟩; cases e⟩
      · have h3' : ¬ (200 : Int) < l.length := by omega
        have eE : ovE l = 0 := by simp [ovE, h1, h2, h3]
        have eL : ovL l = ovAll l l.length := by simp [ovL, eE]
        have hnear : ∀ p ∈ l, 0 ≤ p.at_ ∧ p.at_ ≤ 4000 ∧ p.at_ + p.data.length ≤ 4000 := fun p hp => near_bounds (by simpa using List.any_eq_false.1 h1 p hp) (by simpa using List.any_eq_false.1 h2 p hp)
        simp (disch := omega) only [c14, r14_0, r14_1, r14_3, r14_5, r14_6, rs14, ↓reduceIte, go_sem, Nat.reduceLT, Nat.reduceEqDiff, Nat.reduceAdd, Nat.reduceMul, Nat.reduceLeDiff, Int.reduceLT, Int.reduceLE, Int.reduceEq, Int.reduceNeg, c1, c2, h1, h2, h3', hlenS]
        refine Wp_loop (fun m T D H' => ∃ i out, m = l.length - i ∧ i ≤ l.length ∧ D = [] ∧ get T 0 = s ∧ get T 18 = s ∧ get T 19 = .int .i64 l.length ∧ get T 20 = .int .i64 i ∧ get T 4 = out ∧
            H.length ≤ H'.length ∧ (∀ id, id < H.length → H'[id]? = H[id]?) ∧ Own H' out 2 ((ovAll l i).map prC).flatten ∧ ∀ id, At out id → H.length ≤ id) ?_ l.length _ _ _ ?_
        · rintro m T D H' ⟨i, out, rfl, hi, rfl, t0, t18, t19, t20, t4, hle, hfr, ho, hf⟩
          by_cases hlt : i < l.length
          · have hlt' : (i : Int) < l.length := by omega
            obtain ⟨p, hp⟩ : ∃ p, l[i]? = some p := ⟨_, List.getElem?_eq_getElem hlt⟩
            have hpo := hok p (List.mem_of_getElem? hp)
            have hpn := hnear p (List.mem_of_getElem? hp)
            have hpc := hpo.giv.1
            have hpl := hpo.len
            have hx : (l.map pcC)[i]? = some (pcC p) := by rw [List.getElem?_map, hp]; rfl
            have hi2 := fun k => hs.idx (P := Try.prog) (k := k) s22 (i := i) (by omega)
            have hs1 : Sl H' s 5 (l.map pcC) := hs.frame fun h => hfr _ h
            have hag := hs1.agg (P := Try.prog) g37 z37 hx
            simp (disch := omega) only [l14_17, r14_7, r14_8, r14_9, ↓reduceIte, go_sem, Nat.reduceLT, Nat.reduceEqDiff, Nat.reduceAdd, Nat.reduceMul, Nat.reduceLeDiff, Int.reduceLT, Int.reduceLE, Int.reduceEq, Int.reduceNeg, t0, t18, t19, t20, t4, hlt', hi2, hag, hpc, IntWalk.i64_in]
            refine Wp_loop (fun m T D H2 => ∃ k out, m = l.length - k ∧ i < k ∧ k ≤ l.length ∧ D = [] ∧ get T 0 = s ∧ get T 18 = s ∧ get T 19 = .int .i64 l.length ∧ get T 20 = .int .i64 i ∧ get T 5 = .int .i64 i ∧ get T 7 = .int .i64 k ∧ get T 6 = .ptr H'.length 0 0 ∧ get T 4 = out ∧
                H'.length < H2.length ∧ (∀ id, id < H.length → H2[id]? = H[id]?) ∧ getRow H2 H'.length 0 = some (pcC p, true) ∧ Own H2 out 2 ((ovAll l i ++ ovRow l i k).map prC).flatten ∧ ∀ id, At out id → H.length ≤ id ∧ id ≠ H'.length) ?_ (l.length - (i + 1)) _ _ _ ?_
            · rintro m T D H2 ⟨k, out, rfl, hik, hk, rfl, t0, t18, t19, t20, t5, t7, t6, t4, hle2, hfr2, hrow, ho, hf⟩
              have lo0 : loadV Try.prog 3 H2 (.ptr H'.length 0 0) = some (.int .i64 p.id) := by rw [loadV_ptr, hrow]; simp only [↓reduceIte, go_sem, Nat.reduceLT, Nat.reduceEqDiff, Nat.reduceAdd, Nat.reduceMul, Nat.reduceLeDiff, Int.reduceLT, Int.reduceLE, Int.reduceEq, Int.reduceNeg]
              have lo1 : loadV Try.prog 3 H2 (.ptr H'.length 0 1) = some (.int .i64 p.at_) := by rw [loadV_ptr, hrow]; simp only [↓reduceIte, go_sem, Nat.reduceLT, Nat.reduceEqDiff, Nat.reduceAdd, Nat.reduceMul, Nat.reduceLeDiff, Int.reduceLT, Int.reduceLE, Int.reduceEq, Int.reduceNeg]
              have lo3 : loadV Try.prog 25 H2 (.ptr H'.length 0 3) = some p.d := by rw [loadV_ptr, hrow]; simp only [↓reduceIte, go_sem, Nat.reduceLT, Nat.reduceEqDiff, Nat.reduceAdd, Nat.reduceMul, Nat.reduceLeDiff, Int.reduceLT, Int.reduceLE, Int.reduceEq, Int.reduceNeg]
              by_cases hlk : k < l.length
              · have hlk' : (k : Int) < l.length := by omega
                obtain ⟨q, hq⟩ : ∃ q, l[k]? = some q := ⟨_, List.getElem?_eq_getElem hlk⟩
                have hqo := hok q (List.mem_of_getElem? hq)
                have hqn := hnear q (List.mem_of_getElem? hq)
                have hqc := hqo.giv.1
                have hql := hqo.len
                have hy : (l.map pcC)[k]? = some (pcC q) := by rw [List.getElem?_map, hq]; rfl
                have hk2 := fun j => hs.idx (P := Try.prog) (k := j) s22 (i := k) (by omega)
                have hs2 : Sl H2 s 5 (l.map pcC) := hs.frame fun h => hfr2 _ h
                have hag2 := hs2.agg (P := Try.prog) g37 z37 hy
                have hat : ovlAt l i k = ovl p q := by simp [ovlAt, hp, hq]
                by_cases hid : p.id = q.id
                · by_cases hov : (if q.at_ > p.at_ then q.at_ else p.at_) < (if q.at_ + q.data.length < p.at_ + p.data.length then q.at_ + q.data.length else p.at_ + (p.data.length : Int))
                  · have hnx : ovRow l i (k + 1) = ovRow l i k ++ [(i, k)] := by
                      rw [ovRow_next l hik, hat, if_pos]
                      simp only [ovl, hid, pcEnd, decide_true, Bool.true_and]
                      exact decide_eq_true hov
                    have hl1 := ovAll_len l i
                    have hl2 := ovRow_len l i k
                    have hl3 : i * l.length ≤ 200 * 200 := Nat.mul_le_mul (by omega) (by omega)
                    have hl4 := prs_len (ovAll l i ++ ovRow l i k)
                    rw [List.length_append] at hl4
                    obtain ⟨o', H3, e1, o1, f1, le1, at1⟩ := (ho.app (L := [.row 0 (pcC q) true])).push (by_ := 16) (ys := [.int .i64 i, .int .i64 k]) rfl rfl (by omega) (by omega) (by omega)
                    simp (disch := omega) only [l14_15, r14_10, r14_11, r14_12, r14_13, r14_14, ↓reduceIte, go_sem, Nat.reduceLT, Nat.reduceEqDiff, Nat.reduceAdd, Nat.reduceMul, Nat.reduceLeDiff, Int.reduceLT, Int.reduceLE, Int.reduceEq, Int.reduceNeg, t0, t18, t19, t20, t5, t7, t6, t4, hlenS, hlk', hk2, hag2, hqc, hid, hov, lo0, lo1, lo3, hpl, hql, e1, IntWalk.i64_in]
                    refine ⟨_, by omega, k + 1, o', rfl, by omega, hlk, rfl, rfl, ?_, fun id hid => ?_, ?_, ?_, fun id hat => ?_⟩
                    · rw [List.length_append] at le1; omega
                    · rw [f1 id (by rw [List.length_append]; omega) fun h => by have := (hf id h).1; omega, List.getElem?_append_left (by omega)]
                      exact hfr2 id hid
                    · refine row_frame hrow ?_
                      rw [f1 _ (by rw [List.length_append]; omega) fun h => (hf _ h).2 rfl, List.getElem?_append_left (by omega)]
                    · rw [hnx, ← List.append_assoc, prs_snoc]
                      exact o1
                    · rcases at1 id hat with h | h
                      · exact hf id h
                      · rw [List.length_append] at h
                        omega
                  · have hnx : ovRow l i (k + 1) = ovRow l i k := by
                      rw [ovRow_next l hik, hat, if_neg]
                      simp only [ovl, hid, pcEnd, decide_true, Bool.true_and]
                      exact fun h => hov (of_decide_eq_true h)
                    simp (disch := omega) only [l14_15, r14_10, r14_11, r14_12, r14_13, r14_14, ↓reduceIte, go_sem, Nat.reduceLT, Nat.reduceEqDiff, Nat.reduceAdd, Nat.reduceMul, Nat.reduceLeDiff, Int.reduceLT, Int.reduceLE, Int.reduceEq, Int.reduceNeg, t0, t18, t19, t20, t5, t7, t6, t4, hlenS, hlk', hk2, hag2, hqc, hid, hov, lo0, lo1, lo3, hpl, hql, IntWalk.i64_in]
                    refine ⟨_, by omega, k + 1, out, rfl, by omega, hlk, rfl, rfl, by rw [List.length_append]; omega, fun id hid => ?_, row_app hrow, ?_, hf⟩
                    · rw [List.getElem?_append_left (by omega)]
                      exact hfr2 id hid
                    · rw [hnx]
                      exact ho.app
                · have hnx : ovRow l i (k + 1) = ovRow l i k := by
                    rw [ovRow_next l hik, hat, if_neg]
                    simp [ovl, hid]
                  simp (disch := omega) only [l14_15, r14_10, r14_11, r14_12, r14_13, r14_14, ↓reduceIte, go_sem, Nat.reduceLT, Nat.reduceEqDiff, Nat.reduceAdd, Nat.reduceMul, Nat.reduceLeDiff, Int.reduceLT, Int.reduceLE, Int.reduceEq, Int.reduceNeg, t0, t18, t19, t20, t5, t7, t6, t4, hlenS, hlk', hk2, hag2, hqc, hid, lo0, lo1, lo3, hpl, hql, IntWalk.i64_in]
                  refine ⟨_, by omega, k + 1, out, rfl, by omega, hlk, rfl, rfl, by rw [List.length_append]; omega, fun id hid => ?_, row_app hrow, ?_, hf⟩
                  · rw [List.getElem?_append_left (by omega)]
                    exact hfr2 id hid
                  · rw [hnx]
                    exact ho.app
              · obtain rfl : k = l.length := by omega
                simp (disch := omega) only [l14_15, r14_10, r14_16, ↓reduceIte, go_sem, Nat.reduceLT, Nat.reduceEqDiff, Nat.reduceAdd, Nat.reduceMul, Nat.reduceLeDiff, Int.reduceLT, Int.reduceLE, Int.reduceEq, Int.reduceNeg, t0, t18, t19, t20, t5, t7, t6, t4, hlenS, Int.lt_irrefl, IntWalk.i64_in]
                refine ⟨_, by omega, i + 1, out, rfl, hlt, rfl, rfl, by omega, hfr2, ?_, fun id h => (hf id h).1⟩
                rw [ovAll_next]
                exact ho
            · have hne : ∀ id, At out id → id < H'.length := fun id h => ho.lt h
              refine ⟨i + 1, out, rfl, by omega, by omega, rfl, ?_, ?_, ?_, ?_, ?_, ?_, ?_, ?_, by simp, fun id hid => ?_, ?_, ?_, fun id h => ⟨hf id h, by have := hne id h; omega⟩⟩
              · simp [go_sem, t0]
              · simp [go_sem, t18]
              · simp [go_sem, t19]
              · simp [go_sem, t20]
              · simp [go_sem]
              · simp [go_sem]
              · simp [go_sem]
              · simp [go_sem, t4]
              · rw [List.getElem?_append_left (by omega)]
                exact hfr id hid
              · exact getRow_last ..
              · rw [ovRow_first, List.append_nil]
                exact ho.app
          · obtain rfl : i = l.length := by omega
            simp (disch := omega) only [l14_17, r14_7, r14_18, ↓reduceIte, go_sem, Nat.reduceLT, Nat.reduceEqDiff, Nat.reduceAdd, Nat.reduceMul, Nat.reduceLeDiff, Int.reduceLT, Int.reduceLE, Int.reduceEq, Int.reduceNeg, t0, t18, t19, t20, t4, hlenS, Int.lt_irrefl, IntWalk.i64_in, ho.nt]
            exact ⟨out, by rw [eE], by rw [eL]; exact ho, hfr, hf⟩
        · exact ⟨0, .nilslice, by simp [go_sem, ovAll, own_nil, At]⟩
end Go.Proofs.Ytdpdlobaabcjjab
