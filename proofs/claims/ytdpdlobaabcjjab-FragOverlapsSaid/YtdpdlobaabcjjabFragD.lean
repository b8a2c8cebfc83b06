/-
  Which pieces have a place in common, as the document tells it: the function, walked; lists of pairs compared. No statement of the seat stands here.
-/
import Derived.Test.YtdpdlobaabcjjabFragC
namespace Go.Proofs.Ytdpdlobaabcjjab
open Go Go.Am
set_option maxRecDepth 4000
set_option linter.unusedSimpArgs false
set_option linter.unusedVariables false

set_option maxHeartbeats 1000000 in
theorem fn15 (H : Hp) (s : V) (l : List Pc) (hs : Sl H s 5 (l.map pcC)) (hok : ∀ p ∈ l, PcOk p) (hlen : l.length ≤ 9223372036854775807) :
    ∃ v H2, callL Try.prog pr 15 [s] H = some (.tup [v, .int .i64 (ovE l)], H2) ∧ Own H2 v 2 ((ovL l).map prC).flatten ∧ (∃ G, H2 = H ++ G) ∧ ∀ id, At v id → H.length ≤ id := by
  have hl : (l.map pcC).length = l.length := List.length_map _
  have hlenS := fun H' => hs.len (P := Try.prog) (H' := H') s22
  rw [hl] at hlenS
  refine own_of (run15 (Nat.le_of_ble_eq_true rfl) ?_) (prs_leaf _) rfl
  simp (disch := omega) only [c15, r15_0, r15_1, rs15, ↓reduceIte, go_sem, Nat.reduceLT, Nat.reduceEqDiff, Nat.reduceAdd, Nat.reduceMul, Nat.reduceLeDiff, Int.reduceLT, Int.reduceLE, Int.reduceEq, Int.reduceNeg]
  refine Wp_loop (fun m T D H' => ∃ i, m = l.length - i ∧ i ≤ l.length ∧ D = [] ∧ H' = H ∧ get T 0 = s ∧ get T 4 = .int .i64 i ∧ ∀ p ∈ l.take i, isPieceB p = true) ?_ l.length _ _ _ ?_
  · rintro m T D H' ⟨i, rfl, hi, rfl, rfl, t0, t4, hpre⟩
    by_cases hlt : i < l.length
    · have hlt' : (i : Int) < l.length := by omega
      obtain ⟨p, hp⟩ : ∃ p, l[i]? = some p := ⟨_, List.getElem?_eq_getElem hlt⟩
      have hpo := hok p (List.mem_of_getElem? hp)
      have hx : (l.map pcC)[i]? = some (pcC p) := by rw [List.getElem?_map, hp]; rfl
      have hi2 := fun k => hs.idx (P := Try.prog) (k := k) s22 (i := i) (by omega)
      have hag := hs.agg (P := Try.prog) g37 z37 hx
      by_cases hb : isPieceB p = true
      · have ha : ¬ askedI p = 1 := by
          unfold askedI
          rw [if_pos hb]
          split <;> decide
        simp (disch := omega) only [l15_6, r15_2, r15_3, r15_4, r15_5, ↓reduceIte, go_sem, Nat.reduceLT, Nat.reduceEqDiff, Nat.reduceAdd, Nat.reduceMul, Nat.reduceLeDiff, Int.reduceLT, Int.reduceLE, Int.reduceEq, Int.reduceNeg, t0, t4, hlt', hi2, hag, hlenS, fn36 p hpo, ha, IntWalk.i64_in]
        refine ⟨_, by omega, i + 1, rfl, hlt, rfl, fun x hx => ?_⟩
        rw [take_snoc hp, List.mem_append] at hx
        rcases hx with hx | hx
        · exact hpre x hx
        · rw [List.mem_singleton.1 hx]; exact hb
      · have ha : askedI p = 1 := by unfold askedI; rw [if_neg hb]
        simp (disch := omega) only [l15_6, r15_2, r15_3, r15_4, r15_5, ↓reduceIte, go_sem, Nat.reduceLT, Nat.reduceEqDiff, Nat.reduceAdd, Nat.reduceMul, Nat.reduceLeDiff, Int.reduceLT, Int.reduceLE, Int.reduceEq, Int.reduceNeg, t0, t4, hlt', hi2, hag, hlenS, fn36 p hpo, ha, IntWalk.i64_in]
        have h1 : l.any (fun p => !isPieceB p) = true := List.any_eq_true.2 ⟨p, List.mem_of_getElem? hp, by simp [hb]⟩
        exact ⟨.nilslice, by simp [ovE, h1], by simp [ovL, ovE, h1, own_nil], by simp, by rintro id ⟨_, _, _, _, _, e⟩; cases e⟩
    · obtain rfl : i = l.length := by omega
      rw [List.take_length] at hpre
      have h1 : l.any (fun p => !isPieceB p) = false := List.any_eq_false.2 fun p hp => by simp [hpre p hp]
      simp (disch := omega) only [l15_6, r15_2, r15_7, ↓reduceIte, go_sem, Nat.reduceLT, Nat.reduceEqDiff, Nat.reduceAdd, Nat.reduceMul, Nat.reduceLeDiff, Int.reduceLT, Int.reduceLE, Int.reduceEq, Int.reduceNeg, t0, t4, hlenS, Int.lt_irrefl]
      clear t4 hi hlt
      have t0' := t0
      clear t0
      refine Wp_loop (fun m T D H2 => ∃ i, m = l.length - i ∧ i ≤ l.length ∧ D = [] ∧ H2 = H' ∧ get T 0 = s ∧ get T 5 = .int .i64 i ∧ ∀ p ∈ l.take i, isFarB p = false) ?_ l.length _ _ _ ?_
      · rintro m T D H' ⟨i, rfl, hi, rfl, rfl, t0, t5, hfar⟩
        by_cases hlt : i < l.length
        · have hlt' : (i : Int) < l.length := by omega
          obtain ⟨p, hp⟩ : ∃ p, l[i]? = some p := ⟨_, List.getElem?_eq_getElem hlt⟩
          have hpo := hok p (List.mem_of_getElem? hp)
          have hx : (l.map pcC)[i]? = some (pcC p) := by rw [List.getElem?_map, hp]; rfl
          have hi2 := fun k => hs.idx (P := Try.prog) (k := k) s22 (i := i) (by omega)
          have hag := hs.agg (P := Try.prog) g37 z37 hx
          have hb := hpre p (List.mem_of_getElem? hp)
          by_cases hf : isFarB p = true
          · have ha : askedI p = 3 := by unfold askedI; rw [if_pos hb, if_pos hf]
            simp (disch := omega) only [l15_12, r15_8, r15_9, r15_10, r15_11, ↓reduceIte, go_sem, Nat.reduceLT, Nat.reduceEqDiff, Nat.reduceAdd, Nat.reduceMul, Nat.reduceLeDiff, Int.reduceLT, Int.reduceLE, Int.reduceEq, Int.reduceNeg, t0, t5, hlt', hi2, hag, hlenS, fn36 p hpo, ha, IntWalk.i64_in]
            have h2 : l.any isFarB = true := List.any_eq_true.2 ⟨p, List.mem_of_getElem? hp, hf⟩
            exact ⟨.nilslice, by simp [ovE, h1, h2], by simp [ovL, ovE, h1, h2, own_nil], by simp, by rintro id ⟨_, _, _, _, _, e⟩; cases e⟩
          · have ha : askedI p = 0 := by unfold askedI; rw [if_pos hb, if_neg hf]
            simp (disch := omega) only [l15_12, r15_8, r15_9, r15_10, r15_11, ↓reduceIte, go_sem, Nat.reduceLT, Nat.reduceEqDiff, Nat.reduceAdd, Nat.reduceMul, Nat.reduceLeDiff, Int.reduceLT, Int.reduceLE, Int.reduceEq, Int.reduceNeg, t0, t5, hlt', hi2, hag, hlenS, fn36 p hpo, ha, IntWalk.i64_in]
            refine ⟨_, by omega, i + 1, rfl, hlt, rfl, fun x hx => ?_⟩
            rw [take_snoc hp, List.mem_append] at hx
            rcases hx with hx | hx
            · exact hfar x hx
            · rw [List.mem_singleton.1 hx]; simpa using hf
        · obtain rfl : i = l.length := by omega
          rw [List.take_length] at hfar
          have h2 : l.any isFarB = false := List.any_eq_false.2 fun p hp => by simp [hfar p hp]
          clear hi hlt
          by_cases h3 : 200 < l.length
          · have h3' : (200 : Int) < l.length := by omega
            simp (disch := omega) only [l15_12, r15_8, r15_13, r15_14, ↓reduceIte, go_sem, Nat.reduceLT, Nat.reduceEqDiff, Nat.reduceAdd, Nat.reduceMul, Nat.reduceLeDiff, Int.reduceLT, Int.reduceLE, Int.reduceEq, Int.reduceNeg, t0, t5, hlenS, Int.lt_irrefl, h3']
            exact ⟨.nilslice, by simp [ovE, h1, h2, h3], by simp [ovL, ovE, h1, h2, h3, own_nil], by simp, by rintro id ⟨_, _, _, _, _, e⟩; cases e⟩
          · have h3' : ¬ (200 : Int) < l.length := by omega
            have eE : ovE l = 0 := by simp [ovE, h1, h2, h3]
            have eL : ovL l = ovAll l l.length := by simp [ovL, eE]
            have hnear : ∀ p ∈ l, 0 ≤ p.at_ ∧ p.at_ ≤ 4000 ∧ p.at_ + p.data.length ≤ 4000 := fun p hp => near_bounds (hpre p hp) (hfar p hp)
            simp (disch := omega) only [l15_12, r15_8, r15_13, r15_15, r15_16, ↓reduceIte, go_sem, Nat.reduceLT, Nat.reduceEqDiff, Nat.reduceAdd, Nat.reduceMul, Nat.reduceLeDiff, Int.reduceLT, Int.reduceLE, Int.reduceEq, Int.reduceNeg, t0, t5, hlenS, Int.lt_irrefl, h3']
            clear t0'
            have t0' := t0
            clear t0 t5
            refine Wp_loop (fun m T D H2 => ∃ i out, m = l.length - i ∧ i ≤ l.length ∧ D = [] ∧ get T 0 = s ∧ get T 7 = .int .i64 i ∧ get T 6 = out ∧
                H'.length ≤ H2.length ∧ (∀ id, id < H'.length → H2[id]? = H'[id]?) ∧ Own H2 out 2 ((ovAll l i).map prC).flatten ∧ ∀ id, At out id → H'.length ≤ id) ?_ l.length _ _ _ ?_
            · rintro m T D H1 ⟨i, out, rfl, hi, rfl, t0, t7, t6, hle, hfr, ho, hf⟩
              by_cases hlt : i < l.length
              · have hlt' : (i : Int) < l.length := by omega
                obtain ⟨p, hp⟩ : ∃ p, l[i]? = some p := ⟨_, List.getElem?_eq_getElem hlt⟩
                have hpo := hok p (List.mem_of_getElem? hp)
                have hpn := hnear p (List.mem_of_getElem? hp)
                have hpc := hpo.giv.2.2.1
                have hx : (l.map pcC)[i]? = some (pcC p) := by rw [List.getElem?_map, hp]; rfl
                have hi2 := fun k => hs.idx (P := Try.prog) (k := k) s22 (i := i) (by omega)
                have hpe := fn37 p hpo (by omega)
                simp (disch := omega) only [l15_25, r15_17, r15_18, ↓reduceIte, go_sem, Nat.reduceLT, Nat.reduceEqDiff, Nat.reduceAdd, Nat.reduceMul, Nat.reduceLeDiff, Int.reduceLT, Int.reduceLE, Int.reduceEq, Int.reduceNeg, t0, t7, t6, hlt', hlenS, IntWalk.i64_in]
                refine Wp_loop (fun m T D H2 => ∃ k out, m = l.length - k ∧ i < k ∧ k ≤ l.length ∧ D = [] ∧ get T 0 = s ∧ get T 7 = .int .i64 i ∧ get T 8 = .int .i64 k ∧ get T 6 = out ∧
                    H'.length ≤ H2.length ∧ (∀ id, id < H'.length → H2[id]? = H'[id]?) ∧ Own H2 out 2 ((ovAll l i ++ ovRow l i k).map prC).flatten ∧ ∀ id, At out id → H'.length ≤ id) ?_ (l.length - (i + 1)) _ _ _ ?_
                · rintro m T D H2 ⟨k, out, rfl, hik, hk, rfl, t0, t7, t8, t6, hle2, hfr2, ho, hf⟩
                  by_cases hlk : k < l.length
                  · have hlk' : (k : Int) < l.length := by omega
                    obtain ⟨q, hq⟩ : ∃ q, l[k]? = some q := ⟨_, List.getElem?_eq_getElem hlk⟩
                    have hqo := hok q (List.mem_of_getElem? hq)
                    have hqn := hnear q (List.mem_of_getElem? hq)
                    have hqc := hqo.giv.2.2.1
                    have hy : (l.map pcC)[k]? = some (pcC q) := by rw [List.getElem?_map, hq]; rfl
                    have hk2 := fun j => hs.idx (P := Try.prog) (k := j) s22 (i := k) (by omega)
                    have hqe := fn37 q hqo (by omega)
                    have hs2 : Sl H2 s 5 (l.map pcC) := hs.frame fun h => hfr2 _ h
                    have hagi := hs2.agg (P := Try.prog) g37 z37 hx
                    have hagk := hs2.agg (P := Try.prog) g37 z37 hy
                    have hci := hs2.cell0 (P := Try.prog) g3 hx (by omega)
                    have hck := hs2.cell0 (P := Try.prog) g3 hy (by omega)
                    have hci1 := hs2.cell (P := Try.prog) g3 hx (j := 1) (by omega)
                    have hck1 := hs2.cell (P := Try.prog) g3 hy (j := 1) (by omega)
                    have hat : ovlAt l i k = ovl p q := by simp [ovlAt, hp, hq]
                    by_cases hid : p.id = q.id
                    · by_cases hov : (if q.at_ > p.at_ then q.at_ else p.at_) < (if pcEnd q < pcEnd p then pcEnd q else pcEnd p)
                      · have hnx : ovRow l i (k + 1) = ovRow l i k ++ [(i, k)] := by
                          rw [ovRow_next l hik, hat, if_pos]
                          simp only [ovl, hid, decide_true, Bool.true_and]
                          exact decide_eq_true hov
                        have hl1 := ovAll_len l i
                        have hl2 := ovRow_len l i k
                        have hl3 : i * l.length ≤ 200 * 200 := Nat.mul_le_mul (by omega) (by omega)
                        have hl4 := prs_len (ovAll l i ++ ovRow l i k)
                        rw [List.length_append] at hl4
                        obtain ⟨o', H3, e1, o1, f1, le1, at1⟩ := ho.push (by_ := 16) (ys := [.int .i64 i, .int .i64 k]) rfl rfl (by omega) (by omega) (by omega)
                        simp (disch := omega) only [l15_23, r15_19, r15_20, r15_21, r15_22, ↓reduceIte, go_sem, Nat.reduceLT, Nat.reduceEqDiff, Nat.reduceAdd, Nat.reduceMul, Nat.reduceLeDiff, Int.reduceLT, Int.reduceLE, Int.reduceEq, Int.reduceNeg, t0, t7, t8, t6, hlenS, hlk', hi2, hk2, hagi, hagk, hci, hck, hci1, hck1, hpc, hqc, hid, hov, hpe, hqe, e1, IntWalk.i64_in, Nat.add_zero]
                        refine ⟨_, by omega, k + 1, o', rfl, by omega, hlk, rfl, rfl, by omega, fun id hid => ?_, ?_, fun id hat => ?_⟩
                        · rw [f1 id (by omega) fun h => by have := hf id h; omega]
                          exact hfr2 id hid
                        · rw [hnx, ← List.append_assoc, prs_snoc]
                          exact o1
                        · rcases at1 id hat with h | h
                          · exact hf id h
                          · omega
                      · have hnx : ovRow l i (k + 1) = ovRow l i k := by
                          rw [ovRow_next l hik, hat, if_neg]
                          simp only [ovl, hid, decide_true, Bool.true_and]
                          exact fun h => hov (of_decide_eq_true h)
                        simp (disch := omega) only [l15_23, r15_19, r15_20, r15_21, r15_22, ↓reduceIte, go_sem, Nat.reduceLT, Nat.reduceEqDiff, Nat.reduceAdd, Nat.reduceMul, Nat.reduceLeDiff, Int.reduceLT, Int.reduceLE, Int.reduceEq, Int.reduceNeg, t0, t7, t8, t6, hlenS, hlk', hi2, hk2, hagi, hagk, hci, hck, hci1, hck1, hpc, hqc, hid, hov, hpe, hqe, IntWalk.i64_in, Nat.add_zero]
                        exact ⟨_, by omega, k + 1, out, rfl, by omega, hlk, rfl, rfl, hle2, hfr2, by rw [hnx]; exact ho, hf⟩
                    · have hnx : ovRow l i (k + 1) = ovRow l i k := by
                        rw [ovRow_next l hik, hat, if_neg]
                        simp [ovl, hid]
                      simp (disch := omega) only [l15_23, r15_19, r15_20, r15_21, r15_22, ↓reduceIte, go_sem, Nat.reduceLT, Nat.reduceEqDiff, Nat.reduceAdd, Nat.reduceMul, Nat.reduceLeDiff, Int.reduceLT, Int.reduceLE, Int.reduceEq, Int.reduceNeg, t0, t7, t8, t6, hlenS, hlk', hi2, hk2, hagi, hagk, hci, hck, hci1, hck1, hpc, hqc, hid, hpe, hqe, IntWalk.i64_in, Nat.add_zero]
                      exact ⟨_, by omega, k + 1, out, rfl, by omega, hlk, rfl, rfl, hle2, hfr2, by rw [hnx]; exact ho, hf⟩
                  · obtain rfl : k = l.length := by omega
                    simp (disch := omega) only [l15_23, r15_19, r15_24, ↓reduceIte, go_sem, Nat.reduceLT, Nat.reduceEqDiff, Nat.reduceAdd, Nat.reduceMul, Nat.reduceLeDiff, Int.reduceLT, Int.reduceLE, Int.reduceEq, Int.reduceNeg, t0, t7, t8, t6, hlenS, Int.lt_irrefl, IntWalk.i64_in]
                    refine ⟨_, by omega, i + 1, out, rfl, hlt, rfl, rfl, hle2, hfr2, ?_, hf⟩
                    rw [ovAll_next]
                    exact ho
                · refine ⟨i + 1, out, rfl, by omega, by omega, rfl, ?_, ?_, ?_, ?_, hle, hfr, ?_, hf⟩
                  · simp [go_sem, t0]
                  · simp [go_sem, t7]
                  · simp [go_sem]
                  · simp [go_sem, t6]
                  · rw [ovRow_first, List.append_nil]
                    exact ho
              · obtain rfl : i = l.length := by omega
                simp (disch := omega) only [l15_25, r15_17, r15_26, ↓reduceIte, go_sem, Nat.reduceLT, Nat.reduceEqDiff, Nat.reduceAdd, Nat.reduceMul, Nat.reduceLeDiff, Int.reduceLT, Int.reduceLE, Int.reduceEq, Int.reduceNeg, t0, t7, t6, hlenS, Int.lt_irrefl, IntWalk.i64_in, ho.nt]
                exact ⟨out, by rw [eE], by rw [eL]; exact ho, hfr, hf⟩
            · exact ⟨0, .nilslice, by simp [go_sem, ovAll, own_nil, At, t0']⟩
      · exact ⟨0, by simp [go_sem, t0']⟩
  · exact ⟨0, by simp [go_sem]⟩
/-- Two equal lists of pairs. -/
theorem fn16 (H : Hp) (a b : V) (ps : List (Nat × Nat)) (ha : Sl H a 2 (ps.map prC)) (hb : Sl H b 2 (ps.map prC)) (hlen : ps.length < 2 ^ 62) : callL Try.prog pr 16 [a, b] H = some (.bool true, H) := by
  have hl : (ps.map prC).length = ps.length := List.length_map _
  have hlA := fun H' => ha.len (P := Try.prog) (H' := H') s30
  have hlB := fun H' => hb.len (P := Try.prog) (H' := H') s30
  rw [hl] at hlA hlB
  refine flat_of (run16 (Nat.le_of_ble_eq_true rfl) ?_) rfl rfl
  simp (disch := omega) only [c16, r16_0, r16_1, r16_3, rs16, ↓reduceIte, go_sem, Nat.reduceLT, Nat.reduceEqDiff, Nat.reduceAdd, Nat.reduceMul, Nat.reduceLeDiff, Int.reduceLT, Int.reduceLE, Int.reduceEq, Int.reduceNeg, hlA, hlB, eq_self]
  refine Wp_loop (fun m T D H' => ∃ i, m = ps.length - i ∧ i ≤ ps.length ∧ D = [] ∧ H' = H ∧ get T 0 = a ∧ get T 1 = b ∧ get T 5 = .int .i64 i) ?_ ps.length _ _ _ ?_
  · rintro m T D H' ⟨i, rfl, hi, rfl, rfl, t0, t1, t5⟩
    by_cases hlt : i < ps.length
    · have hlt' : (i : Int) < ps.length := by omega
      obtain ⟨p, hp⟩ : ∃ p, ps[i]? = some p := ⟨_, List.getElem?_eq_getElem hlt⟩
      have hx : (ps.map prC)[i]? = some (prC p) := by rw [List.getElem?_map, hp]; rfl
      have hia := fun k => ha.idx (P := Try.prog) (k := k) s30 (i := i) (by omega)
      have hib := fun k => hb.idx (P := Try.prog) (k := k) s30 (i := i) (by omega)
      simp (disch := omega) only [l16_8, r16_4, r16_5, r16_6, r16_7, ↓reduceIte, go_sem, Nat.reduceLT, Nat.reduceEqDiff, Nat.reduceAdd, Nat.reduceMul, Nat.reduceLeDiff, Int.reduceLT, Int.reduceLE, Int.reduceEq, Int.reduceNeg, t0, t1, t5, hlt', hlA, hlB, hia, hib, ha.agg g39 z39 hx, hb.agg g39 z39 hx, eq_self, IntWalk.i64_in]
      exact ⟨_, by omega, i + 1, rfl, hlt, rfl⟩
    · obtain rfl : i = ps.length := by omega
      simp (disch := omega) only [l16_8, r16_4, r16_9, ↓reduceIte, go_sem, Nat.reduceLT, Nat.reduceEqDiff, Nat.reduceAdd, Nat.reduceMul, Nat.reduceLeDiff, Int.reduceLT, Int.reduceLE, Int.reduceEq, Int.reduceNeg, t0, t1, t5, hlA, hlB, Int.lt_irrefl]
      exact ⟨[], by simp⟩
  · exact ⟨0, by simp [go_sem]⟩
theorem fn4 (H : Hp) (s : V) (l : List Pc) (hs : Sl H s 5 (l.map pcC)) (hok : ∀ p ∈ l, PcOk p) (hlen : l.length ≤ 9223372036854775807) : callL Try.prog pr 4 [s] H = some (.bool true, H) := by
  obtain ⟨b, h10⟩ := fn10 H s l hs hok hlen
  refine flat_of (run4 (Nat.le_of_ble_eq_true rfl) ?_) rfl rfl
  cases b with
  | true =>
    simp (disch := omega) only [c4, r4_0, r4_1, r4_2, rs4, ↓reduceIte, go_sem, Nat.reduceLT, Nat.reduceEqDiff, Nat.reduceAdd, Nat.reduceMul, Nat.reduceLeDiff, Int.reduceLT, Int.reduceLE, Int.reduceEq, Int.reduceNeg, h10, known_call]
    exact ⟨[], by simp⟩
  | false =>
    obtain ⟨v1, H1, e1, o1, ⟨G1, rfl⟩, f1⟩ := fn14 H s l hs hok hlen
    obtain ⟨v2, H2, e2, o2, ⟨G2, rfl⟩, f2⟩ := fn15 (H ++ G1) s l hs.app hok hlen
    have hz : ∀ x ∈ (ovL l).map prC, x.length = 2 := by
      intro x hx
      obtain ⟨p, _, rfl⟩ := List.mem_map.1 hx
      rfl
    have hb : (ovL l).length < 2 ^ 62 := by
      unfold ovL
      split
      · rename_i he
        have h3 : ¬ 200 < l.length := by
          intro h3
          unfold ovE at he
          split at he
          · cases he
          · rw [if_pos (.inr h3)] at he; cases he
        have := ovAll_len l l.length
        have h4 : l.length * l.length ≤ 200 * 200 := Nat.mul_le_mul (by omega) (by omega)
        omega
      · simp
    have h16 := fn16 (H ++ G1 ++ G2) v1 v2 (ovL l) ((o1.sl hz (by omega)).app) (o2.sl hz (by omega)) hb
    simp (disch := omega) only [c4, r4_0, r4_1, r4_3, r4_4, r4_5, rs4, ↓reduceIte, go_sem, Nat.reduceLT, Nat.reduceEqDiff, Nat.reduceAdd, Nat.reduceMul, Nat.reduceLeDiff, Int.reduceLT, Int.reduceLE, Int.reduceEq, Int.reduceNeg, h10, known_call, e1, e2, h16, eq_self]
    exact ⟨_, List.append_assoc ..⟩
end Go.Proofs.Ytdpdlobaabcjjab
