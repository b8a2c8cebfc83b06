/-
  Into which pieces bytes are cut: the statement's own code, walked. No statement of the seat stands here.
-/
import Derived.Test.YtdpdlobaabcjjabFragG
namespace Go.Proofs.Ytdpdlobaabcjjab
open Go Go.Am
set_option maxRecDepth 4000
set_option linter.unusedSimpArgs false
set_option linter.unusedVariables false

theorem cuts_at {H : Hp} {v : V} {id time : Int} {qs : List (Int × Bool × List UInt8)} (h : Cuts H v id time qs) : ∃ ps : List Pc, Sl H v 5 (ps.map pcC) ∧ ps.length = qs.length ∧ ∀ (i : Nat) (q : Int × Bool × List UInt8), qs[i]? = some q → ∃ p : Pc, ps[i]? = some p ∧ p.id = id ∧ p.at_ = q.1 ∧ p.more = q.2.1 ∧ p.data = q.2.2 ∧ p.time = time ∧ Nice p.d ∧ Sl H p.d 1 (q.2.2.map byC) := by
  obtain ⟨ps, h1, h2, h3⟩ := h
  have hl : ps.length = qs.length := by simpa using congrArg List.length h2
  refine ⟨ps, h1.sl ?_ (by omega), hl, fun i q hq => ?_⟩
  · intro x hx
    obtain ⟨p, _, rfl⟩ := List.mem_map.1 hx
    rfl
  · have hi : i < ps.length := by rw [hl]; exact (List.getElem?_eq_some_iff.1 hq).1
    obtain ⟨p, hp⟩ : ∃ p, ps[i]? = some p := ⟨_, List.getElem?_eq_getElem hi⟩
    have h4 : (ps.map (fun p => (p.id, p.at_, p.more, p.data, p.time)))[i]? = (qs.map (fun q => (id, q.1, q.2.1, q.2.2, time)))[i]? := by rw [h2]
    rw [List.getElem?_map, List.getElem?_map, hp, hq] at h4
    simp only [Option.map_some, Option.some.injEq, Prod.mk.injEq] at h4
    obtain ⟨e1, e2, e3, e4, e5⟩ := h4
    have h5 := h3 p (List.mem_of_getElem? hp)
    exact ⟨p, hp, e1, e2, e3, e4, e5, h5.1, by rw [← e4]; exact h5.2.1⟩

set_option maxHeartbeats 1000000 in
theorem fn6 (H : Hp) (id z time : Int) (s : V) (B : List UInt8) (hs : Sl H s 1 (B.map byC)) (hid : Inx id) (ht : Inx time) (hB : B.length ≤ 140737488355328) : callL Try.prog pr 6 [.int .i64 id, s, .agg [.int .i64 z, .int .i64 time]] H = some (.bool true, H) := by
  have hl : (B.map byC).length = B.length := List.length_map _
  have hlenS := fun H' => hs.len (P := Try.prog) (H' := H') s25
  rw [hl] at hlenS
  refine flat_of (run6 (Nat.le_of_ble_eq_true rfl) ?_) rfl rfl
  by_cases h1 : 32768 < B.length
  · have h1' : (32768 : Int) < B.length := by omega
    simp (disch := omega) only [c6, r6_0, r6_1, r6_2, rs6, ↓reduceIte, go_sem, Nat.reduceLT, Nat.reduceEqDiff, Nat.reduceAdd, Nat.reduceMul, Nat.reduceLeDiff, Int.reduceLT, Int.reduceLE, Int.reduceEq, Int.reduceNeg, Int.reduceToNat, hlenS, h1', known_call]
    exact ⟨_, rfl⟩
  · have h1' : ¬ (32768 : Int) < B.length := by omega
    obtain ⟨v1, H1, e1, q1, ⟨G1, rfl⟩⟩ := fn18 (H ++ [.row 0 [.int .i64 z, .int .i64 time] true]) id z time s B hs.app hid ht hB
    obtain ⟨v2, H2, e2, q2, ⟨G2, rfl⟩⟩ := fn19 (H ++ [.row 0 [.int .i64 z, .int .i64 time] true] ++ G1) id z time s B hs.app.app hid ht hB
    obtain ⟨ps1, s1, n1, a1⟩ := cuts_at (q1.app (L := G2))
    obtain ⟨ps2, s2, n2, a2⟩ := cuts_at q2
    have l1 := fun H' => s1.len (P := Try.prog) (H' := H') s22
    have l2 := fun H' => s2.len (P := Try.prog) (H' := H') s22
    rw [List.length_map, n1] at l1
    rw [List.length_map, n2] at l2
    have hqs : (cutQ B id z time).length ≤ 300 := by
      unfold cutQ
      split
      · rename_i he
        have hz : 1 ≤ z ∧ z ≤ 4000 := by
          unfold cutE at he
          split at he
          · cases he
          · omega
        have h4 : ¬ 200 < ((B.length : Int) + z - 1) / z := by
          intro h4
          unfold cutE at he
          rw [if_neg (by omega), if_pos (.inr h4)] at he
          cases he
        obtain ⟨zn, rfl⟩ : ∃ zn : Nat, z = zn := ⟨z.toNat, by omega⟩
        rw [Int.toNat_natCast]
        have h6 : ((B.length : Int) + zn - 1) / zn = (((B.length + zn - 1) / zn : Nat) : Int) := by
          rw [Int.natCast_ediv]; congr 1; omega
        have := qsAt_len B zn (cutN B zn)
        unfold cutN at this ⊢
        omega
      · simp
    generalize cutQ B id z time = qs at *
    have hlt0 : H.length < (H ++ [AB.row 0 [V.int .i64 z, V.int .i64 time] true]).length := lt_new _
    simp (disch := first | exact lt_new _ | omega) only [c6, r6_0, r6_1, r6_3, r6_4, r6_5, r6_7, rs6, ↓reduceIte, go_sem, Nat.reduceLT, Nat.reduceEqDiff, Nat.reduceAdd, Nat.reduceMul, Nat.reduceLeDiff, Int.reduceLT, Int.reduceLE, Int.reduceEq, Int.reduceNeg, Int.reduceToNat, hlenS, h1', e1, e2, l1, l2, eq_self]
    generalize hX : H ++ [AB.row 0 [V.int .i64 z, V.int .i64 time] true] ++ G1 ++ G2 = X at *
    refine Wp_loop (fun m T D H' => ∃ i, m = qs.length - i ∧ i ≤ qs.length ∧ D = [] ∧ (∃ G, H' = X ++ G) ∧ get T 7 = v1 ∧ get T 9 = v2 ∧ get T 11 = .int .i64 i) ?_ qs.length _ _ _ ?_
    · rintro m T D H' ⟨i, rfl, hi, rfl, ⟨G, rfl⟩, t7, t9, t11⟩
      by_cases hlt : i < qs.length
      · have hlt' : (i : Int) < qs.length := by omega
        obtain ⟨q, hq⟩ : ∃ q, qs[i]? = some q := ⟨_, List.getElem?_eq_getElem hlt⟩
        obtain ⟨p1, hp1, i1, b1, m1, d1, z1, k1, w1⟩ := a1 i q hq
        obtain ⟨p2, hp2, i2, b2, m2, d2, z2, k2, w2⟩ := a2 i q hq
        have hx1 : (ps1.map pcC)[i]? = some (pcC p1) := by rw [List.getElem?_map, hp1]; rfl
        have hx2 : (ps2.map pcC)[i]? = some (pcC p2) := by rw [List.getElem?_map, hp2]; rfl
        have j1 := fun k => s1.idx (P := Try.prog) (k := k) s22 (i := i) (by rw [List.length_map]; omega)
        have j2 := fun k => s2.idx (P := Try.prog) (k := k) s22 (i := i) (by rw [List.length_map]; omega)
        have g1 := (s1.app (L := G)).agg (P := Try.prog) g37 z37 hx1
        have g2 := (s2.app (L := G)).agg (P := Try.prog) g37 z37 hx2
        have g1' := s1.agg (P := Try.prog) g37 z37 hx1
        have u1 := fun (L1 L2 : Hp) => (((w1.app (L := G)).app (L := L1)).app (L := L2)).str x25_9
        have u2 := fun (L1 L2 : Hp) => (((w2.app (L := G)).app (L := L1)).app (L := L2)).str x25_9
        have y1 := k1.cell
        have y2 := k2.cell
        have y3 := k1.self
        have y4 := k2.self
        simp (disch := first | exact lt_new _ | exact len_snoc _ _ _ | omega) only [l6_13, r6_8, r6_9, r6_10, r6_11, r6_12, ↓reduceIte, go_sem, Nat.reduceLT, Nat.reduceEqDiff, Nat.reduceAdd, Nat.reduceMul, Nat.reduceLeDiff, Int.reduceLT, Int.reduceLE, Int.reduceEq, Int.reduceNeg, Int.reduceToNat, t7, t9, t11, hlt', l1, l2, j1, j2, g1, g2, y1, y2, y3, y4, i1, i2, b1, b2, m1, m2, z1, z2, u1, u2, eq_self, beq_self_eq_true, IntWalk.i64_in]
        exact ⟨_, by omega, i + 1, rfl, hlt, ⟨_, by rw [List.append_assoc, List.append_assoc]⟩, rfl⟩
      · obtain rfl : i = qs.length := by omega
        simp (disch := omega) only [l6_13, r6_8, r6_14, ↓reduceIte, go_sem, Nat.reduceLT, Nat.reduceEqDiff, Nat.reduceAdd, Nat.reduceMul, Nat.reduceLeDiff, Int.reduceLT, Int.reduceLE, Int.reduceEq, Int.reduceNeg, Int.reduceToNat, t7, t9, t11, l1, Int.lt_irrefl, known_call]
        subst hX
        exact ⟨[AB.row 0 [.int .i64 z, .int .i64 time] true] ++ (G1 ++ (G2 ++ G)), by simp⟩
    · exact ⟨0, rfl, by omega, rfl, ⟨[], by simp⟩, by simp [go_sem]⟩
end Go.Proofs.Ytdpdlobaabcjjab
