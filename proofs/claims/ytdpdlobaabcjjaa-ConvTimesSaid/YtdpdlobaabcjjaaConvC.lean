/-
  The statement on times: its own code, walked. No statement of the seat stands here.
-/
import Derived.Test.YtdpdlobaabcjjaaConvB
namespace Go.Proofs.Ytdpdlobaabcjjaa
open Go Go.Am
set_option maxRecDepth 4000
set_option linter.unusedSimpArgs false
set_option linter.unusedVariables false

theorem timesA_five (l : List (Int × Int × Int)) : ∃ a b c d e, timesA l = five a b c d e := by
  unfold timesA
  split
  · exact ⟨_, _, _, _, _, rfl⟩
  · split
    · exact ⟨_, _, _, _, _, rfl⟩
    · split
      · exact ⟨_, _, _, _, _, rfl⟩
      · exact ⟨_, _, _, _, _, rfl⟩
def took (n : Int) : Int × Int × Int := (0, 0, n)
theorem pairs_snoc {l : List Int} {i : Nat} {n : Int} (h : l[i]? = some n) : ((l.take (i + 1)).map fun n => pairC (took n)).flatten = ((l.take i).map fun n => pairC (took n)).flatten ++ [.int .i64 0, .int .i64 0, .int .i64 n] := by
  rw [take_snoc h, List.map_append, List.flatten_append]
  simp [pairC, took]
theorem pairs_len (l : List Int) : (l.map fun n => pairC (took n)).flatten.length = l.length * 3 := by
  rw [flat_len (sz := 3) (by simp [pairC]), List.length_map]

theorem fn3 (H : Hp) (s : V) (l : List Int) (hs : Sl H s 1 (l.map intC)) : callL Try.prog pr 3 [s] H = some (.bool true, H) := by
  have hl : (l.map intC).length = l.length := List.length_map _
  have hlenS := fun H' => hs.len (P := Try.prog) (H' := H') s22
  rw [hl] at hlenS
  refine flat_of (run3 (Nat.le_of_ble_eq_true rfl) ?_) rfl rfl
  by_cases h1 : 800 < l.length
  · have h1' : (800 : Int) < l.length := by omega
    simp (disch := omega) only [c3, r3_0, r3_1, r3_2, rs3, ↓reduceIte, go_sem, Nat.reduceLT, Nat.reduceEqDiff, Nat.reduceAdd, Nat.reduceMul, Nat.reduceLeDiff, Int.reduceLT, Int.reduceLE, Int.reduceEq, Int.reduceNeg, hlenS, h1', known_call]
    exact ⟨[], by simp⟩
  · have h1' : ¬ (800 : Int) < l.length := by omega
    simp (disch := omega) only [c3, r3_0, r3_1, r3_3, r3_4, r3_5, rs3, ↓reduceIte, go_sem, Nat.reduceLT, Nat.reduceEqDiff, Nat.reduceAdd, Nat.reduceMul, Nat.reduceLeDiff, Int.reduceLT, Int.reduceLE, Int.reduceEq, Int.reduceNeg, hlenS, h1']
    refine Wp_loop (fun m T D H' => ∃ i a b, m = l.length - i ∧ i ≤ l.length ∧ D = [] ∧ get T 0 = s ∧ get T 5 = .int .i64 i ∧ get T 3 = a ∧ get T 4 = b ∧ H.length ≤ H'.length ∧ (∀ id, id < H.length → H'[id]? = H[id]?) ∧
        Own H' a 3 ((l.take i).map fun n => pairC (took n)).flatten ∧ Own H' b 3 ((l.take i).map fun n => pairC (took n)).flatten ∧ (∀ id, At a id → H.length ≤ id ∧ ¬ At b id) ∧ (∀ id, At b id → H.length ≤ id ∧ ¬ At a id)) ?_ l.length _ _ _ ?_
    · rintro m T D H' ⟨i, a, b, rfl, hi, rfl, t0, t5, t3, t4, hle, hfr, oa, ob, da, db⟩
      by_cases hlt : i < l.length
      · have hlt' : (i : Int) < l.length := by omega
        obtain ⟨n, hn⟩ : ∃ n, l[i]? = some n := ⟨_, List.getElem?_eq_getElem hlt⟩
        have hx : (l.map intC)[i]? = some (intC n) := by rw [List.getElem?_map, hn]; rfl
        have hi2 := fun k => hs.idx (P := Try.prog) (k := k) s22 (i := i) (by omega)
        have hs1 : Sl H' s 1 (l.map intC) := hs.frame fun h => hfr _ h
        have hc1 := hs1.cell0 (P := Try.prog) g3 hx (by omega)
        have hcl := pairs_len (l.take i)
        rw [List.length_take, Nat.min_eq_left hi] at hcl
        obtain ⟨a', H1, e1, oa', f1, le1, at1⟩ := oa.push (by_ := 24) (ys := [.int .i64 0, .int .i64 0, .int .i64 n]) rfl rfl (by omega) (by omega) (by omega)
        have hs2 : Sl H1 s 1 (l.map intC) := hs1.frame fun h => f1 _ h fun hat => by
          have h5 := (da _ hat).1
          have := hs.lt (i := i) (by omega)
          omega
        have hc2 := hs2.cell0 (P := Try.prog) g3 hx (by omega)
        have ob1 : Own H1 b 3 _ := ob.frame fun id hat => f1 id (ob.lt hat) (db id hat).2
        obtain ⟨b', H2, e2, ob', f2, le2, at2⟩ := ob1.push (by_ := 24) (ys := [.int .i64 0, .int .i64 0, .int .i64 n]) rfl rfl (by omega) (by omega) (by omega)
        simp (disch := omega) only [l3_10, r3_6, r3_7, r3_8, r3_9, ↓reduceIte, go_sem, Nat.reduceLT, Nat.reduceEqDiff, Nat.reduceAdd, Nat.reduceMul, Nat.reduceLeDiff, Int.reduceLT, Int.reduceLE, Int.reduceEq, Int.reduceNeg, t0, t5, t3, t4, hlt', hlenS, hi2, hc1, hc2, intC, e1, e2, IntWalk.i64_in]
        refine ⟨_, by omega, i + 1, a', b', rfl, hlt, rfl, rfl, rfl, by omega, fun id hid => ?_, ?_, ?_, fun id hat => ?_, fun id hat => ?_⟩
        · rw [f2 id (by omega) fun hat => by have := (db id hat).1; omega, f1 id (by omega) fun hat => by have := (da id hat).1; omega]
          exact hfr id hid
        · rw [pairs_snoc hn]
          refine oa'.frame fun id hat => f2 id (oa'.lt hat) fun hb => ?_
          rcases at1 id hat with h | h
          · exact (da id h).2 hb
          · have := ob.lt hb; omega
        · rw [pairs_snoc hn]
          exact ob'
        · refine ⟨?_, fun hb => ?_⟩
          · rcases at1 id hat with h | h
            · exact (da id h).1
            · omega
          · rcases at2 id hb with h | h
            · rcases at1 id hat with h' | h'
              · exact (da id h').2 h
              · have := ob.lt h; omega
            · have := oa'.lt hat; omega
        · refine ⟨?_, fun ha => ?_⟩
          · rcases at2 id hat with h | h
            · exact (db id h).1
            · omega
          · rcases at2 id hat with h | h
            · rcases at1 id ha with h' | h'
              · exact (da id h').2 h
              · have := ob.lt h; omega
            · have := oa'.lt ha; omega
      · obtain rfl : i = l.length := by omega
        rw [List.take_length] at oa ob
        have em : (l.map fun n => pairC (took n)) = (l.map took).map pairC := by rw [List.map_map]; rfl
        rw [em] at oa ob
        have hp : ∀ x ∈ (l.map took).map pairC, x.length = 3 := by
          intro x hx
          obtain ⟨t, _, rfl⟩ := List.mem_map.1 hx
          rfl
        have hA := fn11 H' a (l.map took) (oa.sl hp (by omega)) (by rw [List.length_map]; omega)
        have hB := fn12 H' b (l.map took) (ob.sl hp (by omega)) (by rw [List.length_map]; omega)
        obtain ⟨x1, x2, x3, x4, x5, e5⟩ := timesA_five (l.map took)
        rw [e5] at hA hB
        unfold five at hA hB
        simp (disch := omega) only [l3_10, r3_6, r3_11, r3_12, r3_13, ↓reduceIte, go_sem, Nat.reduceLT, Nat.reduceEqDiff, Nat.reduceAdd, Nat.reduceMul, Nat.reduceLeDiff, Int.reduceLT, Int.reduceLE, Int.reduceEq, Int.reduceNeg, t0, t5, t3, t4, hlenS, Int.lt_irrefl, hA, hB, known_call, eq_self]
        exact pre_of hfr
    · exact ⟨0, by simp [go_sem, own_nil, At]⟩
end Go.Proofs.Ytdpdlobaabcjjaa
