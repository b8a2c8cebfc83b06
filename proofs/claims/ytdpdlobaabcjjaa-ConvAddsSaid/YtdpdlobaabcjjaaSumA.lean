/-
  Conversations as plain data; the small functions on them, walked. No statement of the seat stands here.
-/
import Derived.Test.YtdpdlobaabcjjaaCodeA
namespace Go.Proofs.Ytdpdlobaabcjjaa
open Go Go.Am
set_option maxRecDepth 4000
set_option linter.unusedSimpArgs false
set_option linter.unusedVariables false

/-- A conversation. -/
structure Sm where
  a : Int
  ap : Int
  b : Int
  bp : Int
  proto : Int
  go : Int
  gb : Int
  back : Int
  bb : Int
  first : Int
  last : Int
abbrev smC (s : Sm) : List V := [.int .i64 s.a, .int .i64 s.ap, .int .i64 s.b, .int .i64 s.bp, .int .i64 s.proto, .int .i64 s.go, .int .i64 s.gb, .int .i64 s.back, .int .i64 s.bb, .int .i64 s.first, .int .i64 s.last]
theorem smC_len (s : Sm) : (smC s).length = 11 := rfl
structure Key where
  a : Int
  ap : Int
  b : Int
  bp : Int
  proto : Int
abbrev keyC (k : Key) : List V := [.int .i64 k.a, .int .i64 k.ap, .int .i64 k.b, .int .i64 k.bp, .int .i64 k.proto]
def keyOf (s : Sm) : Key := ⟨s.a, s.ap, s.b, s.bp, s.proto⟩
def keyEq (k l : Key) : Bool := decide (k.a = l.a) && (decide (k.ap = l.ap) && (decide (k.b = l.b) && (decide (k.bp = l.bp) && decide (k.proto = l.proto))))
theorem keyEq_iff (k l : Key) : keyEq k l = true ↔ k = l := by
  cases k; cases l
  simp [keyEq]
/-- A message. -/
structure Tk where
  time : Int
  src : Int
  dst : Int
  port : Int
  dest : Int
  proto : Int
  size : Int
abbrev tkC (t : Tk) : List V := [.int .i64 t.time, .int .i64 t.src, .int .i64 t.dst, .int .i64 t.port, .int .i64 t.dest, .int .i64 t.proto, .int .i64 t.size]

def inB (n m : Int) : Bool := decide (0 ≤ n) && decide (n ≤ m)
theorem fn33 (n m : Int) (H : Hp) : callL Try.prog pr 33 [.int .i64 n, .int .i64 m] H = some (.bool (inB n m), H) := by
  refine flat_of (run33 (Nat.le_of_ble_eq_true rfl) ?_) rfl rfl
  unfold inB
  by_cases h0 : 0 ≤ n <;> by_cases h1 : n ≤ m <;>
    simp only [c33, r33_0, r33_1, rs33, ↓reduceIte, go_sem, Nat.reduceLT, Nat.reduceEqDiff, Nat.reduceAdd, Nat.reduceMul, Nat.reduceLeDiff, Int.reduceLT, Int.reduceLE, Int.reduceEq, Int.reduceNeg, Int.reduceToNat, h0, h1] <;> exact ⟨[], by simp⟩
theorem fn34 (n m : Int) (H : Hp) : callL Try.prog pr 34 [.int .i64 n, .int .i64 m] H = some (.bool (inB n m), H) := by
  refine flat_of (run34 (Nat.le_of_ble_eq_true rfl) ?_) rfl rfl
  unfold inB
  by_cases h0 : 0 ≤ n <;> by_cases h1 : n ≤ m <;>
    simp only [c34, r34_0, r34_1, rs34, ↓reduceIte, go_sem, Nat.reduceLT, Nat.reduceEqDiff, Nat.reduceAdd, Nat.reduceMul, Nat.reduceLeDiff, Int.reduceLT, Int.reduceLE, Int.reduceEq, Int.reduceNeg, Int.reduceToNat, h0, h1] <;> exact ⟨[], by simp⟩
theorem fn46 (s : Sm) (H : Hp) : callL Try.prog pr 46 [.agg (smC s)] H = some (.agg (keyC (keyOf s)), H) := by
  refine flat_of (run46 (Nat.le_of_ble_eq_true rfl) ?_) rfl rfl
  simp (disch := exact lt_new _) only [c46, r46_0, r46_1, rs46, ↓reduceIte, go_sem, Nat.reduceLT, Nat.reduceEqDiff, Nat.reduceAdd, Nat.reduceMul, Nat.reduceLeDiff, Int.reduceLT, Int.reduceLE, Int.reduceEq, Int.reduceNeg, Int.reduceToNat, keyOf]
  exact ⟨_, by rw [List.append_assoc]⟩
theorem fn42 (s : Sm) (H : Hp) : callL Try.prog pr 42 [.agg (smC s)] H = some (.agg (keyC (keyOf s)), H) := by
  refine flat_of (run42 (Nat.le_of_ble_eq_true rfl) ?_) rfl rfl
  simp (disch := exact lt_new _) only [c42, r42_0, r42_1, rs42, ↓reduceIte, go_sem, Nat.reduceLT, Nat.reduceEqDiff, Nat.reduceAdd, Nat.reduceMul, Nat.reduceLeDiff, Int.reduceLT, Int.reduceLE, Int.reduceEq, Int.reduceNeg, Int.reduceToNat, keyOf]
  exact ⟨_, by rw [List.append_assoc]⟩
theorem fn74 (n : Int) (H : Hp) : callL Try.prog pr 74 [.int .i64 n] H = some (.bool false, H) := by
  refine flat_of (run74 (Nat.le_of_ble_eq_true rfl) ?_) rfl rfl
  simp only [c74, r74_0, r74_1, rs74, ↓reduceIte, go_sem, Nat.reduceLT, Nat.reduceEqDiff, Nat.reduceAdd, Nat.reduceMul, Nat.reduceLeDiff, Int.reduceLT, Int.reduceLE, Int.reduceEq, Int.reduceNeg, Int.reduceToNat, eq_self]
  exact ⟨[], by simp⟩
def cmpI (x y : Int) : Int := if x < y then -1 else if y < x then 1 else 0
theorem fn51 (x y : Int) (H : Hp) : callL Try.prog pr 51 [.int .i64 x, .int .i64 y] H = some (.int .i64 (cmpI x y), H) := by
  refine flat_of (run51 (Nat.le_of_ble_eq_true rfl) ?_) rfl rfl
  unfold cmpI
  by_cases h0 : x < y
  · simp only [c51, r51_0, r51_1, r51_2, r51_3, r51_4, r51_5, r51_6, r51_7, r51_8, r51_9, r51_10, r51_11, r51_12, r51_13, rs51, ↓reduceIte, go_sem, Nat.reduceLT, Nat.reduceEqDiff, Nat.reduceAdd, Nat.reduceMul, Nat.reduceLeDiff, Int.reduceLT, Int.reduceLE, Int.reduceEq, Int.reduceNeg, Int.reduceToNat, h0, fn74]
    exact ⟨[], by simp⟩
  · by_cases h1 : y < x
    · simp only [c51, r51_0, r51_1, r51_2, r51_3, r51_4, r51_5, r51_6, r51_7, r51_8, r51_9, r51_10, r51_11, r51_12, r51_13, rs51, ↓reduceIte, go_sem, Nat.reduceLT, Nat.reduceEqDiff, Nat.reduceAdd, Nat.reduceMul, Nat.reduceLeDiff, Int.reduceLT, Int.reduceLE, Int.reduceEq, Int.reduceNeg, Int.reduceToNat, h0, h1, fn74]
      exact ⟨[], by simp⟩
    · simp only [c51, r51_0, r51_1, r51_2, r51_3, r51_4, r51_5, r51_6, r51_7, r51_8, r51_9, r51_10, r51_11, r51_12, r51_13, rs51, ↓reduceIte, go_sem, Nat.reduceLT, Nat.reduceEqDiff, Nat.reduceAdd, Nat.reduceMul, Nat.reduceLeDiff, Int.reduceLT, Int.reduceLE, Int.reduceEq, Int.reduceNeg, Int.reduceToNat, h0, h1, fn74]
      exact ⟨[], by simp⟩
/-- The message's key, and its direction. -/
def goes (t : Tk) : Bool := decide (t.src < t.dst) || (decide (t.src = t.dst) && decide (t.port ≤ t.dest))
def tkKey (t : Tk) : Key := if goes t = true then ⟨t.src, t.port, t.dst, t.dest, t.proto⟩ else ⟨t.dst, t.dest, t.src, t.port, t.proto⟩
theorem fn36 (t : Tk) (H : Hp) : callL Try.prog pr 36 [.agg (tkC t)] H = some (.tup [.agg (keyC (tkKey t)), .bool (goes t)], H) := by
  refine flat_of (run36 (Nat.le_of_ble_eq_true rfl) ?_) rfl rfl
  unfold tkKey goes
  by_cases h0 : t.src < t.dst
  · simp (disch := exact lt_new _) only [c36, r36_0, r36_1, r36_2, rs36, ↓reduceIte, go_sem, Nat.reduceLT, Nat.reduceEqDiff, Nat.reduceAdd, Nat.reduceMul, Nat.reduceLeDiff, Int.reduceLT, Int.reduceLE, Int.reduceEq, Int.reduceNeg, Int.reduceToNat, h0, Bool.true_or]
    exact ⟨_, by rw [List.append_assoc]⟩
  · by_cases h1 : t.src = t.dst
    · by_cases h2 : t.port ≤ t.dest
      · simp (disch := exact lt_new _) only [c36, r36_0, r36_1, r36_2, rs36, ↓reduceIte, go_sem, Nat.reduceLT, Nat.reduceEqDiff, Nat.reduceAdd, Nat.reduceMul, Nat.reduceLeDiff, Int.reduceLT, Int.reduceLE, Int.reduceEq, Int.reduceNeg, Int.reduceToNat, h0, h1, h2, Bool.true_or, Bool.false_or, Int.lt_irrefl, eq_self]
        exact ⟨_, by rw [List.append_assoc]⟩
      · simp (disch := exact lt_new _) only [c36, r36_0, r36_1, r36_3, rs36, ↓reduceIte, go_sem, Nat.reduceLT, Nat.reduceEqDiff, Nat.reduceAdd, Nat.reduceMul, Nat.reduceLeDiff, Int.reduceLT, Int.reduceLE, Int.reduceEq, Int.reduceNeg, Int.reduceToNat, h0, h1, h2, Bool.true_or, Bool.false_or, Int.lt_irrefl, eq_self]
        exact ⟨_, by rw [List.append_assoc]⟩
    · simp (disch := exact lt_new _) only [c36, r36_0, r36_1, r36_3, rs36, ↓reduceIte, go_sem, Nat.reduceLT, Nat.reduceEqDiff, Nat.reduceAdd, Nat.reduceMul, Nat.reduceLeDiff, Int.reduceLT, Int.reduceLE, Int.reduceEq, Int.reduceNeg, Int.reduceToNat, h0, h1, Bool.true_or, Bool.false_or]
      exact ⟨_, by rw [List.append_assoc]⟩
/-- Where a conversation is. -/
theorem fn37 (H : Hp) (s : V) (l : List Sm) (k : Key) (hs : Sl H s 11 (l.map smC)) (hlen : l.length < 2 ^ 62) : callL Try.prog pr 37 [s, .agg (keyC k)] H = some (.int .i64 (findI (fun x => keyEq (keyOf x) k) l 0), H) := by
  have hl : (l.map smC).length = l.length := List.length_map _
  have hlenS := fun H' => hs.len (P := Try.prog) (H' := H') s37
  rw [hl] at hlenS
  refine flat_of (run37 (Nat.le_of_ble_eq_true rfl) ?_) rfl rfl
  simp only [c37, r37_0, r37_1, rs37, ↓reduceIte, go_sem, Nat.reduceLT, Nat.reduceEqDiff, Nat.reduceAdd, Nat.reduceMul, Nat.reduceLeDiff, Int.reduceLT, Int.reduceLE, Int.reduceEq, Int.reduceNeg, Int.reduceToNat]
  refine Wp_loop (fun m T D H' => ∃ i, m = l.length - i ∧ i ≤ l.length ∧ D = [] ∧ H' = H ++ [.row 0 (keyC k) true] ∧ get T 0 = s ∧ get T 3 = .ptr H.length 0 0 ∧ get T 5 = .int .i64 i ∧ findI (fun x => keyEq (keyOf x) k) l 0 = findI (fun x => keyEq (keyOf x) k) (l.drop i) i) ?_ l.length _ _ _ ?_
  · rintro m T D H' ⟨i, rfl, hi, rfl, rfl, t0, t3, t5, hp⟩
    by_cases hlt : i < l.length
    · have hlt' : (i : Int) < l.length := by omega
      obtain ⟨x, hx⟩ : ∃ x, l[i]? = some x := ⟨_, List.getElem?_eq_getElem hlt⟩
      have hx' : (l.map smC)[i]? = some (smC x) := by rw [List.getElem?_map, hx]; rfl
      have hi2 := fun k => hs.idx (P := Try.prog) (k := k) s37 (i := i) (by omega)
      have hag := (hs.app (L := [.row 0 (keyC k) true])).agg (P := Try.prog) g80 z80 hx'
      rw [findI_drop _ hx] at hp
      by_cases hb : keyEq (keyOf x) k = true
      · rw [if_pos hb] at hp
        have hb' := hb
        simp only [keyEq] at hb'
        simp (disch := omega) only [l37_6, r37_2, r37_3, r37_4, r37_5, ↓reduceIte, go_sem, Nat.reduceLT, Nat.reduceEqDiff, Nat.reduceAdd, Nat.reduceMul, Nat.reduceLeDiff, Int.reduceLT, Int.reduceLE, Int.reduceEq, Int.reduceNeg, Int.reduceToNat, t0, t3, t5, hlt', hlenS, hi2, hag, fn46, hb', IntWalk.i64_in]
        exact ⟨by rw [hp], _, rfl⟩
      · rw [if_neg hb] at hp
        rw [Bool.not_eq_true] at hb
        have hb' := hb
        simp only [keyEq] at hb'
        simp (disch := omega) only [l37_6, r37_2, r37_3, r37_4, r37_5, ↓reduceIte, go_sem, Nat.reduceLT, Nat.reduceEqDiff, Nat.reduceAdd, Nat.reduceMul, Nat.reduceLeDiff, Int.reduceLT, Int.reduceLE, Int.reduceEq, Int.reduceNeg, Int.reduceToNat, t0, t3, t5, hlt', hlenS, hi2, hag, fn46, hb', IntWalk.i64_in]
        exact ⟨_, by omega, i + 1, rfl, hlt, rfl, hp⟩
    · obtain rfl : i = l.length := by omega
      simp (disch := omega) only [l37_6, r37_2, r37_7, ↓reduceIte, go_sem, Nat.reduceLT, Nat.reduceEqDiff, Nat.reduceAdd, Nat.reduceMul, Nat.reduceLeDiff, Int.reduceLT, Int.reduceLE, Int.reduceEq, Int.reduceNeg, Int.reduceToNat, t0, t3, t5, hlenS, Int.lt_irrefl]
      refine ⟨?_, _, rfl⟩
      rw [hp, List.drop_length]
      rfl
  · exact ⟨0, by simp [go_sem]⟩
end Go.Proofs.Ytdpdlobaabcjjaa
