/-
  Into which pieces bytes are cut: the document's function, walked. No statement of the seat stands here.
-/
import Derived.Test.YtdpdlobaabcjjabFragF
namespace Go.Proofs.Ytdpdlobaabcjjab
open Go Go.Am
set_option maxRecDepth 4000
set_option linter.unusedSimpArgs false
set_option linter.unusedVariables false

set_option maxHeartbeats 1000000 in
theorem fn19 (H : Hp) (id z time : Int) (s : V) (B : List UInt8) (hs : Sl H s 1 (B.map byC)) (hid : Inx id) (ht : Inx time) (hB : B.length ≤ 140737488355328) :
    ∃ v H2, callL Try.prog pr 19 [.int .i64 id, s, .int .i64 z, .int .i64 time] H = some (.tup [v, .int .i64 (cutE B id z time)], H2) ∧ Cuts H2 v id time (cutQ B id z time) ∧ (∃ G, H2 = H ++ G) := by
  have hl : (B.map byC).length = B.length := List.length_map _
  have hlenS := fun H' => hs.len (P := Try.prog) (H' := H') s25
  rw [hl] at hlenS
  have h36 := fn36 (zeroPc id time) (zero_ok hid ht)
  have hfar : isFarB (zeroPc id time) = false := by simp [isFarB, pcEnd, zeroPc]
  simp only [zeroPc] at h36
  refine cuts_of (run19 (Nat.le_of_ble_eq_true rfl) ?_)
  by_cases h1 : z < 1
  · simp (disch := omega) only [c19, r19_0, r19_1, r19_2, rs19, ↓reduceIte, go_sem, Nat.reduceLT, Nat.reduceEqDiff, Nat.reduceAdd, Nat.reduceMul, Nat.reduceLeDiff, Int.reduceLT, Int.reduceLE, Int.reduceEq, Int.reduceNeg, Int.reduceToNat, h1]
    exact ⟨.nilslice, by simp [cutE, h1], by simp [cutQ, cutE, h1, cuts_nil], by simp, by simp [At]⟩
  · by_cases h2 : 4000 < z
    · simp (disch := omega) only [c19, r19_0, r19_1, r19_2, rs19, ↓reduceIte, go_sem, Nat.reduceLT, Nat.reduceEqDiff, Nat.reduceAdd, Nat.reduceMul, Nat.reduceLeDiff, Int.reduceLT, Int.reduceLE, Int.reduceEq, Int.reduceNeg, Int.reduceToNat, h1, h2]
      exact ⟨.nilslice, by simp [cutE, h1, h2], by simp [cutQ, cutE, h1, h2, cuts_nil], by simp, by simp [At]⟩
    · by_cases h3 : 4000 < B.length
      · have h3' : (4000 : Int) < B.length := by omega
        simp (disch := omega) only [c19, r19_0, r19_1, r19_3, r19_4, rs19, ↓reduceIte, go_sem, Nat.reduceLT, Nat.reduceEqDiff, Nat.reduceAdd, Nat.reduceMul, Nat.reduceLeDiff, Int.reduceLT, Int.reduceLE, Int.reduceEq, Int.reduceNeg, Int.reduceToNat, h1, h2, h3', hlenS]
        exact ⟨.nilslice, by simp [cutE, h1, h2, h3], by simp [cutQ, cutE, h1, h2, h3, cuts_nil], by simp, by simp [At]⟩
      · have h3' : ¬ (4000 : Int) < B.length := by omega
        have hz0 : ¬ z = 0 := by omega
        by_cases h4 : 200 < ((B.length : Int) + z - 1) / z
        · simp (disch := omega) only [c19, r19_0, r19_1, r19_3, r19_4, rs19, ↓reduceIte, go_sem, Nat.reduceLT, Nat.reduceEqDiff, Nat.reduceAdd, Nat.reduceMul, Nat.reduceLeDiff, Int.reduceLT, Int.reduceLE, Int.reduceEq, Int.reduceNeg, Int.reduceToNat, h1, h2, h3', hlenS, hz0, IntWalk.i64_in, IntWalk.i64_quo, h4]
          exact ⟨.nilslice, by simp [cutE, h1, h2, h3, h4], by simp [cutQ, cutE, h1, h2, h3, h4, cuts_nil], by simp, by simp [At]⟩
        · by_cases h5 : isPieceB (zeroPc id time) = true
          · have h5' : askedI (zeroPc id time) = 0 := by simp [askedI, h5, hfar]
            simp only [zeroPc] at h5'
            have eE : cutE B id z time = 0 := by simp [cutE, h1, h2, h3, h4, h5]
            have eQ : cutQ B id z time = qsAt B z.toNat (cutN B z.toNat) := by simp [cutQ, eE]
            rw [eE, eQ]
            obtain ⟨zn, rfl⟩ : ∃ zn : Nat, z = zn := ⟨z.toNat, by omega⟩
            rw [Int.toNat_natCast]
            have hzn : 0 < zn := by omega
            have hn200 : cutN B zn ≤ 200 := by
              unfold cutN
              have h6 : ((B.length : Int) + zn - 1) / zn = (((B.length + zn - 1) / zn : Nat) : Int) := by
                rw [Int.natCast_ediv]; congr 1; omega
              omega
            simp (disch := omega) only [c19, r19_0, r19_1, r19_3, r19_5, r19_7, r19_8, rs19, ↓reduceIte, go_sem, Nat.reduceLT, Nat.reduceEqDiff, Nat.reduceAdd, Nat.reduceMul, Nat.reduceLeDiff, Int.reduceLT, Int.reduceLE, Int.reduceEq, Int.reduceNeg, Int.reduceToNat, h1, h2, h3', hlenS, hz0, IntWalk.i64_in, IntWalk.i64_quo, h4, h36, h5']
            refine Wp_loop (fun m T D H' => ∃ j out, m = B.length + 1 - j ∧ D = [] ∧ get T 0 = .int .i64 id ∧ get T 1 = s ∧ get T 2 = .int .i64 (zn : Int) ∧ get T 3 = .int .i64 time ∧ get T 11 = .int .i64 ((j * zn : Nat) : Int) ∧ get T 10 = out ∧ (j = 0 ∨ (j - 1) * zn < B.length) ∧
                H.length ≤ H'.length ∧ (∀ i, i < H.length → H'[i]? = H[i]?) ∧ Cuts H' out id time (qsAt B zn j) ∧ ∀ i, At out i → H.length ≤ i) ?_ (B.length + 1) _ _ _ ?_
            · rintro m T D H' ⟨j, out, rfl, rfl, t0, t1, t2, t3, t11, t10, hj, hle, hfr, hq, hat⟩
              by_cases hlt : j * zn < B.length
              · have hlt' : ((j * zn : Nat) : Int) < B.length := by omega
                have hjl : j ≤ j * zn := Nat.le_mul_of_pos_right j hzn
                have hjn : j < cutN B zn := by
                  unfold cutN
                  rw [Nat.lt_div_iff_mul_lt hzn] <;> omega
                have hs1 : Sl H' s 1 (B.map byC) := hs.move fun i hi => hfr i (hs.at_lt hi)
                obtain ⟨e, he⟩ : ∃ e, e = min (j * zn + zn) B.length := ⟨_, rfl⟩
                have hmin : (if (B.length : Int) < ((j * zn : Nat) : Int) + (zn : Int) then (B.length : Int) else ((j * zn : Nat) : Int) + (zn : Int)) = (e : Int) := by split <;> omega
                obtain ⟨sub, esub, ssub, _⟩ := hs1.sub s25 (k := j * zn) (e := e) (by omega) (by rw [hl]; omega)
                have ssub' : Sl H' sub 1 (((B.drop (j * zn)).take zn).map byC) := by
                  rw [← List.map_drop, ← List.map_take, he, chunk_eq] at ssub
                  exact ssub
                have hne : (B.drop (j * zn)).take zn ≠ [] := by
                  intro h
                  have := congrArg List.length h
                  simp only [List.length_take, List.length_drop, List.length_nil] at this
                  omega
                have hmore : decide (((j * zn : Nat) : Int) + (zn : Int) < (B.length : Int)) = decide (j * zn + zn < B.length) := by
                  apply decide_eq_decide.2
                  omega
                obtain ⟨c1, c2, c3⟩ := byC_cells ((B.drop (j * zn)).take zn)
                have hcl : ((B.drop (j * zn)).take zn).length ≤ 4000 := by simp; omega
                have ea := app_nil' (by_ := 1) (H := H' ++ [.row 0 (pcC ⟨id, ((j * zn : Nat) : Int), decide (j * zn + zn < B.length), .nilslice, [], time⟩) true]) ssub'.app c1 (by simpa using hne) (by simp; omega) (by simp; omega)
                have hz1 : ∀ x ∈ (((B.drop (j * zn)).take zn).map byC), x.length = 1 := by
                  intro x hx
                  obtain ⟨b, _, rfl⟩ := List.mem_map.1 hx
                  rfl
                obtain ⟨d, hd⟩ : ∃ d, d = V.slice (H' ++ [AB.row 0 (pcC ⟨id, ((j * zn : Nat) : Int), decide (j * zn + zn < B.length), .nilslice, [], time⟩) true]).length 0 0 (((B.drop (j * zn)).take zn).map byC).length 1 .full := ⟨_, rfl⟩
                rw [← hd] at ea
                have hdn : Nice d := by rw [hd]; exact nice_slice _ _ _ _ _
                have hdc := hdn.cell
                have hdcs := hdn.cells
                obtain ⟨Hb, hHb⟩ : ∃ Hb, Hb = H' ++ [AB.row 0 (pcC ⟨id, ((j * zn : Nat) : Int), decide (j * zn + zn < B.length), d, (B.drop (j * zn)).take zn, time⟩) true] ++ [AB.row 0 (((B.drop (j * zn)).take zn).map byC).flatten true] := ⟨_, rfl⟩
                have od : Own Hb d 1 (((B.drop (j * zn)).take zn).map byC).flatten := by
                  rw [hd, hHb]
                  refine .inr ⟨_, 0, _, rfl, ?_, ?_, ?_⟩
                  · rw [c3, List.length_map, Nat.mul_one]
                  · rw [List.length_map]
                    exact Nat.pos_of_ne_zero fun h => hne (List.length_eq_zero_iff.1 h)
                  · simp
                have sd := od.sl hz1 (by omega)
                have hbl : Hb.length = H'.length + 2 := by rw [hHb]; simp
                have atd : ∀ i, At d i → H'.length < i := by
                  rintro i ⟨g', o, n, z, cp', e'⟩
                  rw [hd] at e'
                  injection e' with e1
                  rw [← e1]; simp
                have hqn := qsAt_len B zn j
                have key : ∀ out1, Cuts H' out1 id time (if j = 0 then [] else qsAt B zn j) → (∀ i, At out1 i → H.length ≤ i) →
                    ∃ o' H3, appOf 5 56 (Hb ++ [.row 0 (pcC ⟨id, ((j * zn : Nat) : Int), decide (j * zn + zn < B.length), d, (B.drop (j * zn)).take zn, time⟩) true]) out1 (.slice Hb.length 0 0 1 5 .full) = some (o', H3) ∧
                      H.length ≤ H3.length ∧ (∀ i, i < H.length → H3[i]? = H[i]?) ∧ Cuts H3 o' id time (qsAt B zn (j + 1)) ∧ ∀ i, At o' i → H.length ≤ i := by
                  intro out1 hq1 hat1
                  have hlen1 : (if j = 0 then [] else qsAt B zn j).length ≤ 300 := by
                    split
                    · simp
                    · omega
                  have hq2 : Cuts Hb out1 id time (if j = 0 then [] else qsAt B zn j) := by rw [hHb]; exact hq1.app.app
                  obtain ⟨o', H3, k1, k2, k3, k4, k5⟩ := hq2.push ((j * zn : Nat) : Int) (decide (j * zn + zn < B.length)) d _ hdn sd (fun i hi ho => by
                      have h1 := atd i hi
                      obtain ⟨ps, hp1, _⟩ := hq1
                      have h2 := hp1.lt ho
                      omega) hlen1
                  refine ⟨o', H3, k1, by omega, fun i hi => ?_, ?_, fun i hi => ?_⟩
                  · rw [k3 i (by omega) fun h => by have := hat1 i h; omega]
                    rw [hHb, List.getElem?_append_left (by rw [List.length_append]; omega), List.getElem?_append_left (by omega)]
                    exact hfr i hi
                  · rw [qsAt_next]; exact k2
                  · rcases k5 i hi with h | h
                    · exact hat1 i h
                    · omega
                by_cases h0 : j = 0
                · have h0' : decide (((j * zn : Nat) : Int) = 0) = true := decide_eq_true (by subst h0; simp)
                  obtain ⟨o', H3, k1, k2, k3, k4, k5⟩ := key .nilslice (by rw [if_pos h0]; exact cuts_nil ..) (fun i h => absurd h (nilNot i))
                  rw [hHb] at k1
                  simp (disch := first | exact lt_new _ | omega) only [l19_16, r19_9, r19_10, r19_11, r19_12, r19_13, r19_14, r19_15, ↓reduceIte, go_sem, Nat.reduceLT, Nat.reduceEqDiff, Nat.reduceAdd, Nat.reduceMul, Nat.reduceLeDiff, Int.reduceLT, Int.reduceLE, Int.reduceEq, Int.reduceNeg, Int.reduceToNat, t0, t1, t2, t3, t11, t10, hlt', hlenS, hmin, esub, ea, hdc, hdcs, hmore, h0', k1, IntWalk.i64_in]
                  exact ⟨_, by omega, j + 1, o', rfl, by rw [Nat.succ_mul]; rfl, rfl, .inr hlt, k2, k3, k4, k5⟩
                · have h0' : decide (((j * zn : Nat) : Int) = 0) = false := decide_eq_false (by
                    intro h
                    have h7 : j * zn = 0 := by omega
                    rcases Nat.mul_eq_zero.1 h7 with h | h <;> omega)
                  obtain ⟨o', H3, k1, k2, k3, k4, k5⟩ := key out (by rw [if_neg h0]; exact hq) hat
                  rw [hHb] at k1
                  simp (disch := first | exact lt_new _ | omega) only [l19_16, r19_9, r19_10, r19_11, r19_12, r19_13, r19_14, r19_15, ↓reduceIte, go_sem, Nat.reduceLT, Nat.reduceEqDiff, Nat.reduceAdd, Nat.reduceMul, Nat.reduceLeDiff, Int.reduceLT, Int.reduceLE, Int.reduceEq, Int.reduceNeg, Int.reduceToNat, t0, t1, t2, t3, t11, t10, hlt', hlenS, hmin, esub, ea, hdc, hdcs, hmore, h0', k1, IntWalk.i64_in]
                  exact ⟨_, by omega, j + 1, o', rfl, by rw [Nat.succ_mul]; rfl, rfl, .inr hlt, k2, k3, k4, k5⟩
              · have hlt' : ¬ ((j * zn : Nat) : Int) < B.length := by omega
                obtain rfl := cutN_eq hzn (by omega) hj
                simp (disch := omega) only [l19_16, r19_9, r19_17, ↓reduceIte, go_sem, Nat.reduceLT, Nat.reduceEqDiff, Nat.reduceAdd, Nat.reduceMul, Nat.reduceLeDiff, Int.reduceLT, Int.reduceLE, Int.reduceEq, Int.reduceNeg, Int.reduceToNat, t0, t1, t2, t3, t11, t10, hlt', hlenS, hq.nt]
                exact ⟨out, rfl, hq, hfr, hat⟩
            · exact ⟨0, _, by omega, rfl, by simp [go_sem], by simp [go_sem], by simp [go_sem], by simp [go_sem], by simp [go_sem], rfl, .inl rfl, by simp, fun i hi => List.getElem?_append_left hi, by simpa [go_sem, qsAt] using cuts_one H id time, by simp [go_sem, At]⟩
          · rw [Bool.not_eq_true] at h5
            have h5' : askedI (zeroPc id time) = 1 := by simp [askedI, h5]
            simp only [zeroPc] at h5'
            simp (disch := omega) only [c19, r19_0, r19_1, r19_3, r19_5, r19_6, rs19, ↓reduceIte, go_sem, Nat.reduceLT, Nat.reduceEqDiff, Nat.reduceAdd, Nat.reduceMul, Nat.reduceLeDiff, Int.reduceLT, Int.reduceLE, Int.reduceEq, Int.reduceNeg, Int.reduceToNat, h1, h2, h3', hlenS, hz0, IntWalk.i64_in, IntWalk.i64_quo, h4, h36, h5']
            exact ⟨.nilslice, by simp [cutE, h1, h2, h3, h4, h5], by simp [cutQ, cutE, h1, h2, h3, h4, h5, cuts_nil], by simp, by simp [At]⟩
end Go.Proofs.Ytdpdlobaabcjjab
