/-
  What two lists of conversations are together: the statement's function, walked. No statement of the seat stands here.
-/
import Derived.Test.YtdpdlobaabcjjaaSumM
namespace Go.Proofs.Ytdpdlobaabcjjaa
open Go Go.Am
set_option maxRecDepth 4000
set_option linter.unusedSimpArgs false
set_option linter.unusedVariables false

theorem rd_talk {H : Hp} {m : Nat} {x : List V} (h : RdT Try.prog H (m + 2) 58 x) : ∃ t : Tk, x = tkC t ∧ True := by
  obtain ⟨xss, rfl, k0⟩ := rd_parts (ts := [3, 3, 3, 3, 3, 3, 3]) (by kernel_rfl) h
  clear h
  obtain ⟨x1, l1, rfl, h1, k1⟩ := rdTs_cons k0
  obtain ⟨x2, l2, rfl, h2, k2⟩ := rdTs_cons k1
  obtain ⟨x3, l3, rfl, h3, k3⟩ := rdTs_cons k2
  obtain ⟨x4, l4, rfl, h4, k4⟩ := rdTs_cons k3
  obtain ⟨x5, l5, rfl, h5, k5⟩ := rdTs_cons k4
  obtain ⟨x6, l6, rfl, h6, k6⟩ := rdTs_cons k5
  obtain ⟨x7, l7, rfl, h7, k7⟩ := rdTs_cons k6
  obtain rfl := rdTs_nil k7
  obtain ⟨a1, rfl, -⟩ := rd_i64 (m := m) u3 h1
  obtain ⟨a2, rfl, -⟩ := rd_i64 (m := m) u3 h2
  obtain ⟨a3, rfl, -⟩ := rd_i64 (m := m) u3 h3
  obtain ⟨a4, rfl, -⟩ := rd_i64 (m := m) u3 h4
  obtain ⟨a5, rfl, -⟩ := rd_i64 (m := m) u3 h5
  obtain ⟨a6, rfl, -⟩ := rd_i64 (m := m) u3 h6
  obtain ⟨a7, rfl, -⟩ := rd_i64 (m := m) u3 h7
  exact ⟨⟨a1, a2, a3, a4, a5, a6, a7⟩, rfl, trivial⟩
theorem arg_talks {H : Hp} {m : Nat} {x : V} (h : ArgT Try.prog H (m + 3) 34 x) : ∃ l : List Tk, Sl H x 7 (l.map tkC) ∧ l.length ≤ 9223372036854775807 := by
  obtain ⟨l, _, h2, _, _, h4⟩ := arg_list (m := m + 2) (enc := tkC) (Ok := fun _ => True) u34 (sz := 7) (by kernel_rfl) (fun _ => rfl) (fun x hx => rd_talk hx) h
  exact ⟨l, h2, h4⟩
theorem valE_cases (l : List Tk) : valE l = 0 ∧ l.length ≤ 200 ∨ valE l ≠ 0 := by
  unfold valE
  by_cases h : 200 < l.length
  · rw [if_pos h]; exact .inr (by omega)
  · rw [if_neg h]
    split
    · exact .inl ⟨rfl, by omega⟩
    · exact .inr (by omega)
theorem convsOf_le (l : List Tk) : (convsOf l).length ≤ l.length := by
  have := convsOf_len l l.length
  rwa [List.take_length] at this
theorem addR_len (a : List Sm) : ∀ (ys out : List Sm), (addR a ys out).length ≤ out.length + ys.length
  | [], out => by simp [addR]
  | y :: ys, out => by
    show (addR a ys (addStep a out y)).length ≤ _
    have h := addR_len a ys (addStep a out y)
    have : (addStep a out y).length ≤ out.length + 1 := by
      unfold addStep
      split
      · simp
      · split <;> simp
    simp only [List.length_cons]
    omega
theorem resR_len {a b : List Sm} (ha : a.length ≤ 200) (hb : b.length ≤ 200) : (resR a b).1.length ≤ 400 := by
  have := addR_len a b a
  unfold resR
  split
  · simp
  · split
    · split
      · simp only; omega
      · simp
    · simp
set_option maxHeartbeats 1000000 in
theorem fn4 (H : Hp) (s1 s2 : V) (l1 l2 : List Tk) (a b c : Int) (hs1 : Sl H s1 7 (l1.map tkC)) (hs2 : Sl H s2 7 (l2.map tkC)) : callL Try.prog pr 4 [s1, s2, .agg [.int .i64 a, .int .i64 b, .int .i64 c]] H = some (.bool true, H) := by
  have hl1 : (l1.map tkC).length = l1.length := List.length_map _
  have hl2 : (l2.map tkC).length = l2.length := List.length_map _
  have hlenA := fun H' => hs1.len (P := Try.prog) (H' := H') s34
  have hlenB := fun H' => hs2.len (P := Try.prog) (H' := H') s34
  rw [hl1] at hlenA
  rw [hl2] at hlenB
  have v1 := fn13 (H ++ [.row 0 [.int .i64 a, .int .i64 b, .int .i64 c] true]) s1 l1 hs1.app
  have v2 := fn13 (H ++ [.row 0 [.int .i64 a, .int .i64 b, .int .i64 c] true]) s2 l2 hs2.app
  refine flat_of (run4 (Nat.le_of_ble_eq_true rfl) ?_) rfl rfl
  by_cases q1 : (800 : Int) < l1.length
  · simp (disch := first | exact lt_new _ | exact len_snoc _ _ _ | omega | (simp only [List.length_append, List.length_singleton, List.length_set]; done) | (simp only [List.length_append, List.length_singleton, List.length_set]; omega)) only [c4, r4_0, r4_1, r4_2, rs4, ↓reduceIte, go_sem, Nat.reduceLT, Nat.reduceEqDiff, Nat.reduceAdd, Nat.reduceMul, Nat.reduceLeDiff, Int.reduceLT, Int.reduceLE, Int.reduceEq, Int.reduceNeg, Int.reduceToNat, hlenA, q1, known_call]
    exact ⟨_, rfl⟩
  by_cases q2 : (800 : Int) < l2.length
  · simp (disch := first | exact lt_new _ | exact len_snoc _ _ _ | omega | (simp only [List.length_append, List.length_singleton, List.length_set]; done) | (simp only [List.length_append, List.length_singleton, List.length_set]; omega)) only [c4, r4_0, r4_1, r4_2, rs4, ↓reduceIte, go_sem, Nat.reduceLT, Nat.reduceEqDiff, Nat.reduceAdd, Nat.reduceMul, Nat.reduceLeDiff, Int.reduceLT, Int.reduceLE, Int.reduceEq, Int.reduceNeg, Int.reduceToNat, hlenA, hlenB, q1, q2, known_call]
    exact ⟨_, rfl⟩
  rcases valE_cases l1 with ⟨e1, n1⟩ | e1
  · rcases valE_cases l2 with ⟨e2, n2⟩ | e2
    · rw [e1] at v1
      rw [e2] at v2
      have m1 := convsOf_le l1
      have m2 := convsOf_le l2
      obtain ⟨o1, K1, c1, w1, ⟨G1, rfl⟩, -⟩ := fn15 (H ++ [.row 0 [.int .i64 a, .int .i64 b, .int .i64 c] true]) s1 l1 hs1.app n1
      obtain ⟨ks, hk, o2, K2, c2, w2, ⟨G2, rfl⟩, -⟩ := fn14 _ o1 (convsOf l1) a b c (w1.sl (sm_all _) (by omega)) (by omega)
      obtain ⟨o3, K3, c3, w3, ⟨G3, rfl⟩, -⟩ := fn15 _ s2 l2 (((hs2.app (L := [.row 0 [.int .i64 a, .int .i64 b, .int .i64 c] true])).app (L := G1)).app (L := G2)) n2
      have w2a := w2.app (L := G3)
      have fA := sm_flat ks
      have fB := sm_flat (convsOf l2)
      have x2 := w2a.sl (sm_all ks) (by omega)
      have x3 := w3.sl (sm_all (convsOf l2)) (by omega)
      obtain ⟨o4, K4, c4', w4, ⟨G4, rfl⟩, -⟩ := fn17 _ o2 ks x2 (by omega)
      obtain ⟨o5, K5, c5', w5, ⟨G5, rfl⟩, -⟩ := fn17 _ o3 (convsOf l2) (x3.app (L := G4)) (by omega)
      have x5 := w5.sl (sm_all (convsOf l2)) (by omega)
      obtain ⟨o6, K6, c6', w6, ⟨G6, rfl⟩, -⟩ := fn16 _ o4 o5 ks (convsOf l2) (w4.app (L := G5)) x5 (by omega) (by omega)
      obtain ⟨o7, K7, c7', w7, ⟨G7, rfl⟩, -⟩ := fn18 _ o2 o3 ks (convsOf l2) (((x2.app (L := G4)).app (L := G5)).app (L := G6)) (((x3.app (L := G4)).app (L := G5)).app (L := G6))
      obtain ⟨o8, K8, c8', w8, ⟨G8, rfl⟩, -⟩ := fn17 _ o3 (convsOf l2) ((((x3.app (L := G4)).app (L := G5)).app (L := G6)).app (L := G7)) (by omega)
      obtain ⟨o9, K9, c9', w9, ⟨G9, rfl⟩, -⟩ := fn17 _ o2 ks (((((x2.app (L := G4)).app (L := G5)).app (L := G6)).app (L := G7)).app (L := G8)) (by omega)
      have x9 := w9.sl (sm_all ks) (by omega)
      obtain ⟨p1, J1, d1, y1, ⟨G10, rfl⟩, -⟩ := fn16 _ o8 o9 (convsOf l2) ks (w8.app (L := G9)) x9 (by omega) (by omega)
      obtain ⟨p2, J2, d2, y2, ⟨G11, rfl⟩, -⟩ := fn18 _ o3 o2 (convsOf l2) ks (((((((x3.app (L := G4)).app (L := G5)).app (L := G6)).app (L := G7)).app (L := G8)).app (L := G9)).app (L := G10)) (((((((x2.app (L := G4)).app (L := G5)).app (L := G6)).app (L := G7)).app (L := G8)).app (L := G9)).app (L := G10))
      have r1 := res_same (a := ks) (b := convsOf l2) (by omega) (by omega)
      have r2 := res_same (a := convsOf l2) (b := ks) (by omega) (by omega)
      rw [r1] at c6' w6
      rw [r2] at d1 y1
      have g1 : (resR ks (convsOf l2)).1.length ≤ 400 := resR_len (by omega) (by omega)
      have g2 : (resR (convsOf l2) ks).1.length ≤ 400 := resR_len (by omega) (by omega)
      have u1 := (((((w6.sl (sm_all _) (by omega)).app (L := G7)).app (L := G8)).app (L := G9)).app (L := G10)).app (L := G11)
      have u2 := ((((w7.sl (sm_all _) (by omega)).app (L := G8)).app (L := G9)).app (L := G10)).app (L := G11)
      have u3 := (y1.sl (sm_all _) (by omega)).app (L := G11)
      have u4 := y2.sl (sm_all _) (by omega)
      have t1 := fn19 _ o6 o7 _ u1 u2 (by omega)
      have t2 := fn19 _ p1 p2 _ u3 u4 (by omega)
      simp (config := { maxSteps := 1000000 }) (disch := first | exact lt_new _ | exact len_snoc _ _ _ | omega | (simp only [List.length_append, List.length_singleton, List.length_set]; done) | (simp only [List.length_append, List.length_singleton, List.length_set]; omega)) only [c4, r4_0, r4_1, r4_3, r4_4, r4_5, r4_6, r4_7, r4_8, rs4, ↓reduceIte, go_sem, Nat.reduceLT, Nat.reduceEqDiff, Nat.reduceAdd, Nat.reduceMul, Nat.reduceLeDiff, Int.reduceLT, Int.reduceLE, Int.reduceEq, Int.reduceNeg, Int.reduceToNat, hlenA, hlenB, q1, q2, v1, v2, c1, c2, c3, c4', c5', c6', c7', c8', c9', d1, d2, t1, t2, eq_self, known_call]
      exact ⟨_, by repeat rw [List.append_assoc]⟩
    · rw [e1] at v1
      simp (disch := first | exact lt_new _ | exact len_snoc _ _ _ | omega | (simp only [List.length_append, List.length_singleton, List.length_set]; done) | (simp only [List.length_append, List.length_singleton, List.length_set]; omega)) only [c4, r4_0, r4_1, r4_2, rs4, ↓reduceIte, go_sem, Nat.reduceLT, Nat.reduceEqDiff, Nat.reduceAdd, Nat.reduceMul, Nat.reduceLeDiff, Int.reduceLT, Int.reduceLE, Int.reduceEq, Int.reduceNeg, Int.reduceToNat, hlenA, hlenB, q1, q2, v1, v2, e2, known_call]
      exact ⟨_, rfl⟩
  · simp (disch := first | exact lt_new _ | exact len_snoc _ _ _ | omega | (simp only [List.length_append, List.length_singleton, List.length_set]; done) | (simp only [List.length_append, List.length_singleton, List.length_set]; omega)) only [c4, r4_0, r4_1, r4_2, rs4, ↓reduceIte, go_sem, Nat.reduceLT, Nat.reduceEqDiff, Nat.reduceAdd, Nat.reduceMul, Nat.reduceLeDiff, Int.reduceLT, Int.reduceLE, Int.reduceEq, Int.reduceNeg, Int.reduceToNat, hlenA, hlenB, q1, q2, v1, e1, known_call]
    exact ⟨_, rfl⟩
end Go.Proofs.Ytdpdlobaabcjjaa
