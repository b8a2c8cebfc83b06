/-
  Messages asked, conversations made of them, and copied: walked. No statement of the seat stands here.
-/
import Derived.Test.YtdpdlobaabcjjaaSumA
namespace Go.Proofs.Ytdpdlobaabcjjaa
open Go Go.Am
set_option maxRecDepth 4000
set_option linter.unusedSimpArgs false
set_option linter.unusedVariables false

def okTalk (t : Tk) : Bool := inB t.time 1000000000000000 && (inB t.src 4294967295 && (inB t.dst 4294967295 && (inB t.port 65535 && (inB t.dest 65535 && (inB t.proto 255 && inB t.size 1000000)))))
theorem fn35 (t : Tk) (H : Hp) : callL Try.prog pr 35 [.agg (tkC t)] H = some (.bool (okTalk t), H) := by
  refine flat_of (run35 (Nat.le_of_ble_eq_true rfl) ?_) rfl rfl
  unfold okTalk
  generalize e1 : inB t.time 1000000000000000 = b1
  generalize e2 : inB t.src 4294967295 = b2
  generalize e3 : inB t.dst 4294967295 = b3
  generalize e4 : inB t.port 65535 = b4
  generalize e5 : inB t.dest 65535 = b5
  generalize e6 : inB t.proto 255 = b6
  cases b1
  · simp only [c35, r35_0, r35_1, rs35, ↓reduceIte, go_sem, Nat.reduceLT, Nat.reduceEqDiff, Nat.reduceAdd, Nat.reduceMul, Nat.reduceLeDiff, Int.reduceLT, Int.reduceLE, Int.reduceEq, Int.reduceNeg, Int.reduceToNat, fn34, e1]; exact ⟨_, rfl⟩
  · cases b2
    · simp only [c35, r35_0, r35_1, rs35, ↓reduceIte, go_sem, Nat.reduceLT, Nat.reduceEqDiff, Nat.reduceAdd, Nat.reduceMul, Nat.reduceLeDiff, Int.reduceLT, Int.reduceLE, Int.reduceEq, Int.reduceNeg, Int.reduceToNat, fn34, e1, e2]; exact ⟨_, rfl⟩
    · cases b3
      · simp only [c35, r35_0, r35_1, rs35, ↓reduceIte, go_sem, Nat.reduceLT, Nat.reduceEqDiff, Nat.reduceAdd, Nat.reduceMul, Nat.reduceLeDiff, Int.reduceLT, Int.reduceLE, Int.reduceEq, Int.reduceNeg, Int.reduceToNat, fn34, e1, e2, e3]; exact ⟨_, rfl⟩
      · cases b4
        · simp only [c35, r35_0, r35_1, rs35, ↓reduceIte, go_sem, Nat.reduceLT, Nat.reduceEqDiff, Nat.reduceAdd, Nat.reduceMul, Nat.reduceLeDiff, Int.reduceLT, Int.reduceLE, Int.reduceEq, Int.reduceNeg, Int.reduceToNat, fn34, e1, e2, e3, e4]; exact ⟨_, rfl⟩
        · cases b5
          · simp only [c35, r35_0, r35_1, rs35, ↓reduceIte, go_sem, Nat.reduceLT, Nat.reduceEqDiff, Nat.reduceAdd, Nat.reduceMul, Nat.reduceLeDiff, Int.reduceLT, Int.reduceLE, Int.reduceEq, Int.reduceNeg, Int.reduceToNat, fn34, e1, e2, e3, e4, e5]; exact ⟨_, rfl⟩
          · cases b6
            · simp only [c35, r35_0, r35_1, rs35, ↓reduceIte, go_sem, Nat.reduceLT, Nat.reduceEqDiff, Nat.reduceAdd, Nat.reduceMul, Nat.reduceLeDiff, Int.reduceLT, Int.reduceLE, Int.reduceEq, Int.reduceNeg, Int.reduceToNat, fn34, e1, e2, e3, e4, e5, e6]; exact ⟨_, rfl⟩
            · simp only [c35, r35_0, r35_1, rs35, ↓reduceIte, go_sem, Nat.reduceLT, Nat.reduceEqDiff, Nat.reduceAdd, Nat.reduceMul, Nat.reduceLeDiff, Int.reduceLT, Int.reduceLE, Int.reduceEq, Int.reduceNeg, Int.reduceToNat, fn34, e1, e2, e3, e4, e5, e6]; exact ⟨_, rfl⟩
def valE (l : List Tk) : Int := if 200 < l.length then 3 else if l.all okTalk = true then 0 else 1
theorem fn13 (H : Hp) (s : V) (l : List Tk) (hs : Sl H s 7 (l.map tkC)) : callL Try.prog pr 13 [s] H = some (.int .i64 (valE l), H) := by
  have hl : (l.map tkC).length = l.length := List.length_map _
  have hlenS := fun H' => hs.len (P := Try.prog) (H' := H') s34
  rw [hl] at hlenS
  refine flat_of (run13 (Nat.le_of_ble_eq_true rfl) ?_) rfl rfl
  by_cases h1 : 200 < l.length
  · have h1' : (200 : Int) < l.length := by omega
    simp (disch := omega) only [c13, r13_0, r13_1, r13_2, rs13, ↓reduceIte, go_sem, Nat.reduceLT, Nat.reduceEqDiff, Nat.reduceAdd, Nat.reduceMul, Nat.reduceLeDiff, Int.reduceLT, Int.reduceLE, Int.reduceEq, Int.reduceNeg, Int.reduceToNat, hlenS, h1']
    exact ⟨by simp [valE, h1], [], by simp⟩
  · have h1' : ¬ (200 : Int) < l.length := by omega
    simp (disch := omega) only [c13, r13_0, r13_1, r13_3, rs13, ↓reduceIte, go_sem, Nat.reduceLT, Nat.reduceEqDiff, Nat.reduceAdd, Nat.reduceMul, Nat.reduceLeDiff, Int.reduceLT, Int.reduceLE, Int.reduceEq, Int.reduceNeg, Int.reduceToNat, hlenS, h1']
    refine Wp_loop (fun m T D H' => ∃ i, m = l.length - i ∧ i ≤ l.length ∧ D = [] ∧ H' = H ∧ get T 0 = s ∧ get T 3 = .int .i64 i ∧ (l.take i).all okTalk = true) ?_ l.length _ _ _ ?_
    · rintro m T D H' ⟨i, rfl, hi, rfl, rfl, t0, t3, hp⟩
      by_cases hlt : i < l.length
      · have hlt' : (i : Int) < l.length := by omega
        obtain ⟨x, hx⟩ : ∃ x, l[i]? = some x := ⟨_, List.getElem?_eq_getElem hlt⟩
        have hx' : (l.map tkC)[i]? = some (tkC x) := by rw [List.getElem?_map, hx]; rfl
        have hi2 := fun k => hs.idx (P := Try.prog) (k := k) s34 (i := i) (by omega)
        have hag := hs.agg (P := Try.prog) g58 z58 hx'
        by_cases hb : okTalk x = true
        · simp (disch := omega) only [l13_8, r13_4, r13_5, r13_6, r13_7, ↓reduceIte, go_sem, Nat.reduceLT, Nat.reduceEqDiff, Nat.reduceAdd, Nat.reduceMul, Nat.reduceLeDiff, Int.reduceLT, Int.reduceLE, Int.reduceEq, Int.reduceNeg, Int.reduceToNat, t0, t3, hlt', hlenS, hi2, hag, fn35, hb, IntWalk.i64_in]
          refine ⟨_, by omega, i + 1, rfl, hlt, rfl, ?_⟩
          rw [take_snoc hx, List.all_append, hp]
          simp [hb]
        · have hb' : okTalk x = false := by simpa using hb
          simp (disch := omega) only [l13_8, r13_4, r13_5, r13_6, r13_7, ↓reduceIte, go_sem, Nat.reduceLT, Nat.reduceEqDiff, Nat.reduceAdd, Nat.reduceMul, Nat.reduceLeDiff, Int.reduceLT, Int.reduceLE, Int.reduceEq, Int.reduceNeg, Int.reduceToNat, t0, t3, hlt', hlenS, hi2, hag, fn35, hb', IntWalk.i64_in]
          refine ⟨?_, [], by simp⟩
          have : l.all okTalk = false := List.all_eq_false.2 ⟨x, List.mem_of_getElem? hx, hb⟩
          simp [valE, h1, this]
      · obtain rfl : i = l.length := by omega
        rw [List.take_length] at hp
        simp (disch := omega) only [l13_8, r13_4, r13_9, ↓reduceIte, go_sem, Nat.reduceLT, Nat.reduceEqDiff, Nat.reduceAdd, Nat.reduceMul, Nat.reduceLeDiff, Int.reduceLT, Int.reduceLE, Int.reduceEq, Int.reduceNeg, Int.reduceToNat, t0, t3, hlenS, Int.lt_irrefl]
        exact ⟨by simp [valE, h1, hp], [], by simp⟩
    · exact ⟨0, by simp [go_sem]⟩
theorem sm_all (l : List Sm) : ∀ x ∈ l.map smC, x.length = 11 := by
  intro x hx
  obtain ⟨p, _, rfl⟩ := List.mem_map.1 hx
  rfl
theorem sm_flat (l : List Sm) : (l.map smC).flatten.length = l.length * 11 := by
  rw [flat_len (sm_all l), List.length_map]
theorem sm_leaf (l : List Sm) : (l.map smC).flatten.all V.leaf = true := by
  simp [V.leaf]
theorem sm_cell (l : List Sm) : (l.map smC).flatten.all V.isCell = true := by
  simp [V.isCell]
theorem sm_snoc {l : List Sm} {i : Nat} {x : Sm} (h : l[i]? = some x) : ((l.take (i + 1)).map smC).flatten = ((l.take i).map smC).flatten ++ smC x := by
  rw [take_snoc h, List.map_append, List.flatten_append]; simp
/-- A list copied, element by element. -/
theorem fn17 (H : Hp) (s : V) (l : List Sm) (hs : Sl H s 11 (l.map smC)) (hlen : l.length ≤ 1000) : ∃ v H2, callL Try.prog pr 17 [s] H = some (v, H2) ∧ Own H2 v 11 (l.map smC).flatten ∧ (∃ G, H2 = H ++ G) ∧ ∀ id, At v id → H.length ≤ id := by
  have hl : (l.map smC).length = l.length := List.length_map _
  have hlenS := fun H' => hs.len (P := Try.prog) (H' := H') s37
  rw [hl] at hlenS
  refine own1_of (run17 (Nat.le_of_ble_eq_true rfl) ?_) (sm_leaf l)
  simp (disch := omega) only [c17, r17_0, r17_1, r17_2, rs17, ↓reduceIte, go_sem, Nat.reduceLT, Nat.reduceEqDiff, Nat.reduceAdd, Nat.reduceMul, Nat.reduceLeDiff, Int.reduceLT, Int.reduceLE, Int.reduceEq, Int.reduceNeg, Int.reduceToNat]
  refine Wp_loop (fun m T D H' => ∃ i out, m = l.length - i ∧ i ≤ l.length ∧ D = [] ∧ get T 0 = s ∧ get T 4 = .int .i64 i ∧ get T 3 = out ∧ H.length ≤ H'.length ∧ (∀ id, id < H.length → H'[id]? = H[id]?) ∧ Own H' out 11 ((l.take i).map smC).flatten ∧ ∀ id, At out id → H.length ≤ id) ?_ l.length _ _ _ ?_
  · rintro m T D H' ⟨i, out, rfl, hi, rfl, t0, t4, t3, hle, hfr, ho, hat⟩
    by_cases hlt : i < l.length
    · have hlt' : (i : Int) < l.length := by omega
      obtain ⟨x, hx⟩ : ∃ x, l[i]? = some x := ⟨_, List.getElem?_eq_getElem hlt⟩
      have hx' : (l.map smC)[i]? = some (smC x) := by rw [List.getElem?_map, hx]; rfl
      have hi2 := fun k => hs.idx (P := Try.prog) (k := k) s37 (i := i) (by omega)
      have hs1 : Sl H' s 11 (l.map smC) := hs.move fun id h => hfr id (hs.at_lt h)
      have hag := hs1.agg (P := Try.prog) g80 z80 hx'
      have hfl := sm_flat (l.take i)
      rw [List.length_take, Nat.min_eq_left hi] at hfl
      obtain ⟨o', H1, e1, o1, f1, le1, at1⟩ := ho.push (by_ := 88) (ys := smC x) rfl rfl (by omega) (by omega) (by omega)
      simp (disch := omega) only [l17_6, r17_3, r17_4, r17_5, ↓reduceIte, go_sem, Nat.reduceLT, Nat.reduceEqDiff, Nat.reduceAdd, Nat.reduceMul, Nat.reduceLeDiff, Int.reduceLT, Int.reduceLE, Int.reduceEq, Int.reduceNeg, Int.reduceToNat, t0, t4, t3, hlt', hlenS, hi2, hag, e1, IntWalk.i64_in]
      refine ⟨_, by omega, i + 1, o', rfl, hlt, rfl, rfl, by omega, fun id hid => ?_, ?_, fun id h => ?_⟩
      · rw [f1 id (by omega) fun h => by have := hat id h; omega]
        exact hfr id hid
      · rw [sm_snoc hx]; exact o1
      · rcases at1 id h with h | h
        · exact hat id h
        · omega
    · obtain rfl : i = l.length := by omega
      rw [List.take_length] at ho
      simp (disch := omega) only [l17_6, r17_3, r17_7, ↓reduceIte, go_sem, Nat.reduceLT, Nat.reduceEqDiff, Nat.reduceAdd, Nat.reduceMul, Nat.reduceLeDiff, Int.reduceLT, Int.reduceLE, Int.reduceEq, Int.reduceNeg, Int.reduceToNat, t0, t4, t3, hlenS, Int.lt_irrefl]
      exact ⟨ho, hfr, hat⟩
  · exact ⟨0, .nilslice, by simp [go_sem, own_nil, At]⟩
end Go.Proofs.Ytdpdlobaabcjjaa
