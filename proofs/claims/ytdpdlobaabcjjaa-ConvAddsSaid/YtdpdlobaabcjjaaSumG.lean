/-
  Lists of conversations asked, by the document's function: walked. No statement of the seat stands here.
-/
import Derived.Test.YtdpdlobaabcjjaaSumF
namespace Go.Proofs.Ytdpdlobaabcjjaa
open Go Go.Am
set_option maxRecDepth 4000
set_option linter.unusedSimpArgs false
set_option linter.unusedVariables false

def okAt (l : List Sm) (i : Nat) : Bool := match l[i]? with
  | some s => numsOk s && (endsOk s && decide (findS l (keyOf s) = (i : Int)))
  | none => true
def okAll (l : List Sm) (n : Nat) : Bool := (List.range n).all (okAt l)
def askS (l : List Sm) : Int := if 200 < l.length then 3 else if okAll l l.length = true then 0 else 1
theorem okAll_next (l : List Sm) (i : Nat) : okAll l (i + 1) = (okAll l i && okAt l i) := by
  unfold okAll
  rw [List.range_succ, List.all_append]
  simp
theorem okAll_bad {l : List Sm} {i : Nat} (h : i < l.length) (hb : okAt l i = false) : okAll l l.length = false := by
  unfold okAll
  exact List.all_eq_false.2 ⟨i, by simpa using h, by simp [hb]⟩
theorem all_take {p : Int → Bool} {l : List Int} {k : Nat} {x : Int} (h : l[k]? = some x) : (l.take (k + 1)).all p = ((l.take k).all p && p x) := by
  rw [take_snoc h, List.all_append]; simp

set_option maxHeartbeats 1000000 in
theorem fn45 (H : Hp) (s : V) (l : List Sm) (hs : Sl H s 11 (l.map smC)) : callL Try.prog pr 45 [s] H = some (.int .i64 (askS l), H) := by
  have hl : (l.map smC).length = l.length := List.length_map _
  have hlenS := fun H' => hs.len (P := Try.prog) (H' := H') s37
  rw [hl] at hlenS
  refine flat_of (run45 (Nat.le_of_ble_eq_true rfl) ?_) rfl rfl
  by_cases h1 : 200 < l.length
  · have h1' : (200 : Int) < l.length := by omega
    simp (disch := omega) only [c45, r45_0, r45_1, r45_2, rs45, ↓reduceIte, go_sem, Nat.reduceLT, Nat.reduceEqDiff, Nat.reduceAdd, Nat.reduceMul, Nat.reduceLeDiff, Int.reduceLT, Int.reduceLE, Int.reduceEq, Int.reduceNeg, Int.reduceToNat, hlenS, h1']
    exact ⟨by simp [askS, h1], [], by simp⟩
  · have h1' : ¬ (200 : Int) < l.length := by omega
    simp (disch := omega) only [c45, r45_0, r45_1, r45_3, rs45, ↓reduceIte, go_sem, Nat.reduceLT, Nat.reduceEqDiff, Nat.reduceAdd, Nat.reduceMul, Nat.reduceLeDiff, Int.reduceLT, Int.reduceLE, Int.reduceEq, Int.reduceNeg, Int.reduceToNat, hlenS, h1']
    refine Wp_loop (fun m T D H' => ∃ i, m = l.length - i ∧ i ≤ l.length ∧ D = [] ∧ (∃ G, H' = H ++ G) ∧ get T 0 = s ∧ get T 3 = .int .i64 i ∧ okAll l i = true) ?_ l.length _ _ _ ?_
    · rintro m T D H' ⟨i, rfl, hi, rfl, ⟨G, rfl⟩, t0, t3, hp⟩
      by_cases hlt : i < l.length
      · have hlt' : (i : Int) < l.length := by omega
        obtain ⟨x, hx⟩ : ∃ x, l[i]? = some x := ⟨_, List.getElem?_eq_getElem hlt⟩
        have hx' : (l.map smC)[i]? = some (smC x) := by rw [List.getElem?_map, hx]; rfl
        have hi2 := fun k => hs.idx (P := Try.prog) (k := k) s37 (i := i) (by omega)
        have hag := hs.app (L := G) |>.agg (P := Try.prog) g80 z80 hx'
        obtain ⟨v, H2, e72, o72, ⟨G2, rfl⟩, f72⟩ := fn72 x (H ++ G)
        have sn := o72.sl (ints_all _) (by omega)
        have hlenN := fun H' => sn.len (P := Try.prog) (H' := H') s22
        have hnl : ((nums x).map intC).length = 11 := rfl
        rw [hnl] at hlenN
        have hbad : numsOk x = false ∨ endsOk x = false ∨ findS l (keyOf x) ≠ (i : Int) → askS l = 1 := by
          intro h
          have : okAt l i = false := by
            unfold okAt
            rw [hx]
            simp only
            rcases h with h | h | h
            · simp [h]
            · simp [h]
            · simp [h]
          simp [askS, h1, okAll_bad hlt this]
        simp (disch := omega) only [l45_16, r45_4, r45_5, r45_6, ↓reduceIte, go_sem, Nat.reduceLT, Nat.reduceEqDiff, Nat.reduceAdd, Nat.reduceMul, Nat.reduceLeDiff, Int.reduceLT, Int.reduceLE, Int.reduceEq, Int.reduceNeg, Int.reduceToNat, t0, t3, hlt', hlenS, hi2, hag, e72, IntWalk.i64_in]
        refine Wp_loop (fun m T D H' => ∃ k, m = 11 - k ∧ k ≤ 11 ∧ D = [] ∧ H' = H ++ G ++ G2 ∧ get T 0 = s ∧ get T 3 = .int .i64 i ∧ get T 4 = v ∧ get T 5 = .int .i64 k ∧ ((nums x).take k).all (fun n => inB n 4503599627370496) = true) ?_ 11 _ _ _ ?_
        · rintro m T D H' ⟨k, rfl, hk, rfl, rfl, t0, t3, t4, t5, hq⟩
          by_cases hlk : k < 11
          · have hlk' : (k : Int) < 11 := by omega
            obtain ⟨n, hn⟩ : ∃ n, (nums x)[k]? = some n := ⟨_, List.getElem?_eq_getElem (by simpa [nums] using hlk)⟩
            have hn' : ((nums x).map intC)[k]? = some (intC n) := by rw [List.getElem?_map, hn]; rfl
            have hk2 := fun j => sn.idx (P := Try.prog) (k := j) s22 (i := k) (by rw [hnl]; exact hlk)
            have hc := sn.cell0 (P := Try.prog) g3 hn' (by omega)
            by_cases hb : inB n 4503599627370496 = true
            · simp (disch := omega) only [l45_11, r45_7, r45_8, r45_9, r45_10, ↓reduceIte, go_sem, Nat.reduceLT, Nat.reduceEqDiff, Nat.reduceAdd, Nat.reduceMul, Nat.reduceLeDiff, Int.reduceLT, Int.reduceLE, Int.reduceEq, Int.reduceNeg, Int.reduceToNat, t0, t3, t4, t5, hlk', hlenN, hk2, hc, intC, fn34, hb, IntWalk.i64_in]
              refine ⟨_, by omega, k + 1, rfl, hlk, rfl, ?_⟩
              rw [all_take hn, hq, hb]; rfl
            · rw [Bool.not_eq_true] at hb
              simp (disch := omega) only [l45_11, r45_7, r45_8, r45_9, r45_10, ↓reduceIte, go_sem, Nat.reduceLT, Nat.reduceEqDiff, Nat.reduceAdd, Nat.reduceMul, Nat.reduceLeDiff, Int.reduceLT, Int.reduceLE, Int.reduceEq, Int.reduceNeg, Int.reduceToNat, t0, t3, t4, t5, hlk', hlenN, hk2, hc, intC, fn34, hb, IntWalk.i64_in]
              refine ⟨?_, _, List.append_assoc ..⟩
              rw [hbad (.inl ?_)]
              unfold numsOk
              exact List.all_eq_false.2 ⟨n, List.mem_of_getElem? hn, by simp [hb]⟩
          · obtain rfl : k = 11 := by omega
            have hno : numsOk x = true := hq
            have hlk' : ¬ (11 : Int) < 11 := by omega
            have hag2 := ((hs.app (L := G)).app (L := G2)).agg (P := Try.prog) g80 z80 hx'
            have h37 := fn37 (H ++ G ++ G2 ++ [.row 0 (smC x) true]) s l (keyOf x) ((hs.app.app).app) (by omega)
            have hfin : endsOk x = true → findS l (keyOf x) = (i : Int) → ∃ m', m' < l.length - i ∧ ∃ i_1, m' = l.length - i_1 ∧ i_1 ≤ l.length ∧ (∃ G_1, H ++ G ++ G2 ++ [AB.row 0 (smC x) true] = H ++ G_1) ∧ V.int .i64 ((i : Int) + 1) = V.int .i64 (i_1 : Int) ∧ okAll l i_1 = true := by
              intro h2 h3
              refine ⟨_, by omega, i + 1, rfl, hlt, ⟨_, by rw [List.append_assoc, List.append_assoc]⟩, rfl, ?_⟩
              rw [okAll_next, hp]
              unfold okAt
              rw [hx]
              simp [hno, h2, h3]
            by_cases c1 : x.b < x.a
            · simp (config := { maxSteps := 1000000 }) (disch := first | exact lt_new _ | omega) only [l45_11, r45_7, r45_12, r45_13, r45_14, r45_15, ↓reduceIte, go_sem, Nat.reduceLT, Nat.reduceEqDiff, Nat.reduceAdd, Nat.reduceMul, Nat.reduceLeDiff, Int.reduceLT, Int.reduceLE, Int.reduceEq, Int.reduceNeg, Int.reduceToNat, t0, t3, t4, t5, hlk', hlenN, hi2, hag2, c1, IntWalk.i64_in]
              refine ⟨?_, _, by rw [List.append_assoc, List.append_assoc]⟩
              rw [hbad (.inr (.inl (by simp [endsOk, c1])))]
            · by_cases c2 : x.a = x.b
              · have c2' : decide (x.a = x.b) = true := decide_eq_true c2
                by_cases c3 : x.bp < x.ap
                · simp (config := { maxSteps := 1000000 }) (disch := first | exact lt_new _ | omega) only [l45_11, r45_7, r45_12, r45_13, r45_14, r45_15, ↓reduceIte, go_sem, Nat.reduceLT, Nat.reduceEqDiff, Nat.reduceAdd, Nat.reduceMul, Nat.reduceLeDiff, Int.reduceLT, Int.reduceLE, Int.reduceEq, Int.reduceNeg, Int.reduceToNat, t0, t3, t4, t5, hlk', hlenN, hi2, hag2, c1, c2, c3, Int.lt_irrefl, eq_self, IntWalk.i64_in]
                  refine ⟨?_, _, by rw [List.append_assoc, List.append_assoc]⟩
                  rw [hbad (.inr (.inl (by simp [endsOk, c2, c3])))]
                · have he : endsOk x = true := by simp [endsOk, c2, c3]
                  by_cases c4 : findS l (keyOf x) = (i : Int)
                  · have c4' : findI (fun x_1 => keyEq (keyOf x_1) (keyOf x)) l 0 = (i : Int) := c4
                    simp (config := { maxSteps := 1000000 }) (disch := first | exact lt_new _ | omega) only [l45_11, r45_7, r45_12, r45_13, r45_14, r45_15, ↓reduceIte, go_sem, Nat.reduceLT, Nat.reduceEqDiff, Nat.reduceAdd, Nat.reduceMul, Nat.reduceLeDiff, Int.reduceLT, Int.reduceLE, Int.reduceEq, Int.reduceNeg, Int.reduceToNat, t0, t3, t4, t5, hlk', hlenN, hi2, hag2, c1, c2', c3, fn46, h37, c4', eq_self, IntWalk.i64_in]
                    exact hfin he c4
                  · have c4' : ¬ findI (fun x_1 => keyEq (keyOf x_1) (keyOf x)) l 0 = (i : Int) := c4
                    simp (config := { maxSteps := 1000000 }) (disch := first | exact lt_new _ | omega) only [l45_11, r45_7, r45_12, r45_13, r45_14, r45_15, ↓reduceIte, go_sem, Nat.reduceLT, Nat.reduceEqDiff, Nat.reduceAdd, Nat.reduceMul, Nat.reduceLeDiff, Int.reduceLT, Int.reduceLE, Int.reduceEq, Int.reduceNeg, Int.reduceToNat, t0, t3, t4, t5, hlk', hlenN, hi2, hag2, c1, c2', c3, fn46, h37, c4', IntWalk.i64_in]
                    refine ⟨?_, _, by rw [List.append_assoc, List.append_assoc]⟩
                    rw [hbad (.inr (.inr c4))]
              · have he : endsOk x = true := by simp [endsOk, c1, c2]
                by_cases c4 : findS l (keyOf x) = (i : Int)
                · have c4' : findI (fun x_1 => keyEq (keyOf x_1) (keyOf x)) l 0 = (i : Int) := c4
                  simp (config := { maxSteps := 1000000 }) (disch := first | exact lt_new _ | omega) only [l45_11, r45_7, r45_12, r45_13, r45_14, r45_15, ↓reduceIte, go_sem, Nat.reduceLT, Nat.reduceEqDiff, Nat.reduceAdd, Nat.reduceMul, Nat.reduceLeDiff, Int.reduceLT, Int.reduceLE, Int.reduceEq, Int.reduceNeg, Int.reduceToNat, t0, t3, t4, t5, hlk', hlenN, hi2, hag2, c1, c2, fn46, h37, c4', eq_self, IntWalk.i64_in]
                  exact hfin he c4
                · have c4' : ¬ findI (fun x_1 => keyEq (keyOf x_1) (keyOf x)) l 0 = (i : Int) := c4
                  simp (config := { maxSteps := 1000000 }) (disch := first | exact lt_new _ | omega) only [l45_11, r45_7, r45_12, r45_13, r45_14, r45_15, ↓reduceIte, go_sem, Nat.reduceLT, Nat.reduceEqDiff, Nat.reduceAdd, Nat.reduceMul, Nat.reduceLeDiff, Int.reduceLT, Int.reduceLE, Int.reduceEq, Int.reduceNeg, Int.reduceToNat, t0, t3, t4, t5, hlk', hlenN, hi2, hag2, c1, c2, fn46, h37, c4', IntWalk.i64_in]
                  refine ⟨?_, _, by rw [List.append_assoc, List.append_assoc]⟩
                  rw [hbad (.inr (.inr c4))]
        · refine ⟨0, rfl, by omega, rfl, rfl, ?_⟩
          simp [go_sem, t0, t3]
      · obtain rfl : i = l.length := by omega
        simp (disch := omega) only [l45_16, r45_4, r45_17, ↓reduceIte, go_sem, Nat.reduceLT, Nat.reduceEqDiff, Nat.reduceAdd, Nat.reduceMul, Nat.reduceLeDiff, Int.reduceLT, Int.reduceLE, Int.reduceEq, Int.reduceNeg, Int.reduceToNat, t0, t3, hlenS, Int.lt_irrefl]
        exact ⟨by simp [askS, h1, hp], _, rfl⟩
    · exact ⟨0, by simp [go_sem, okAll]⟩
end Go.Proofs.Ytdpdlobaabcjjaa
