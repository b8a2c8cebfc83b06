/-
  Pieces as plain data; the small functions on one piece, walked. No statement of the seat stands here.
-/
import Derived.Test.YtdpdlobaabcjjabCodeA
namespace Go.Proofs.Ytdpdlobaabcjjab
open Go Go.Am
set_option maxRecDepth 4000
set_option linter.unusedSimpArgs false
set_option linter.unusedVariables false

/-- A piece: its numbers, the value of its bytes, the bytes. -/
structure Pc where
  id : Int
  at_ : Int
  more : Bool
  d : V
  data : List UInt8
  time : Int
abbrev pcC (p : Pc) : List V := [.int .i64 p.id, .int .i64 p.at_, .bool p.more, p.d, .int .i64 p.time]
structure PcOk (p : Pc) : Prop where
  giv : Given p.d
  len : ∀ H', lenV Try.prog 25 H' p.d = some (.int .i64 p.data.length)
  small : p.data.length ≤ 140737488355328
  rid : Inx p.id
  rat : Inx p.at_
  rtime : Inx p.time
def PcM (H : Hp) (p : Pc) : Prop := Sl H p.d 1 (p.data.map byC)
theorem pcC_len (p : Pc) : (pcC p).length = 5 := rfl

theorem rd_piece {H : Hp} {m : Nat} {x : List V} (h : RdT Try.prog H (m + 3) 37 x) : ∃ p : Pc, x = pcC p ∧ PcOk p ∧ PcM H p := by
  obtain ⟨xss, rfl, k0⟩ := rd_parts (ts := [3, 3, 4, 25, 3]) (by kernel_rfl) h
  clear h
  obtain ⟨x1, l1, rfl, h1, k1⟩ := rdTs_cons k0
  obtain ⟨x2, l2, rfl, h2, k2⟩ := rdTs_cons k1
  obtain ⟨x3, l3, rfl, h3, k3⟩ := rdTs_cons k2
  obtain ⟨x4, l4, rfl, h4, k4⟩ := rdTs_cons k3
  obtain ⟨x5, l5, rfl, h5, k5⟩ := rdTs_cons k4
  obtain rfl := rdTs_nil k5
  obtain ⟨i, rfl, hi⟩ := rd_i64 (m := m + 1) u3 h1
  obtain ⟨a, rfl, ha⟩ := rd_i64 (m := m + 1) u3 h2
  obtain ⟨b, rfl⟩ := rd_bool (m := m + 1) u4 h3
  obtain ⟨v, l, rfl, hg, hs, _, hb, _⟩ := rd_bytes (m := m) u25 u5 (by kernel_rfl) h4
  obtain ⟨t, rfl, ht⟩ := rd_i64 (m := m + 1) u3 h5
  have e : Try.prog.bytesOf 5 = 1 := by kernel_rfl
  rw [e] at hb
  refine ⟨⟨i, a, b, v, l, t⟩, rfl, ⟨hg, fun H' => ?_, ?_, hi, ha, ht⟩, hs⟩
  · have := hs.len (P := Try.prog) (H' := H') s25
    rwa [List.length_map] at this
  · simp only [Go.reachBytes] at hb
    show l.length ≤ _
    omega
theorem arg_pieces {H : Hp} {m : Nat} {x : V} (h : ArgT Try.prog H (m + 4) 22 x) : ∃ l : List Pc, Given x ∧ Sl H x 5 (l.map pcC) ∧ (∀ p ∈ l, PcOk p ∧ PcM H p) ∧ l.length ≤ 9223372036854775807 := by
  obtain ⟨l, h1, h2, h3, _, h4⟩ := arg_list (m := m + 3) (enc := pcC) (Ok := fun p => PcOk p ∧ PcM H p) u22 (sz := 5) (by kernel_rfl) pcC_len (fun x hx => rd_piece hx) h
  exact ⟨l, h1, h2, h3, h4⟩

def pcEnd (p : Pc) : Int := p.at_ + p.data.length
def okTime (n : Int) : Bool := decide (0 ≤ n) && decide (n ≤ 1000000000000000)
def isPieceB (p : Pc) : Bool := decide (0 ≤ p.id) && decide (p.id ≤ 4294967295) && decide (0 ≤ p.at_) && okTime p.time
def isFarB (p : Pc) : Bool := decide (4000 < p.at_) || decide (4000 < pcEnd p)
def askedI (p : Pc) : Int := if isPieceB p = true then (if isFarB p = true then 3 else 0) else 1

theorem fn48 (n : Int) (H : Hp) : callL Try.prog pr 48 [.int .i64 n] H = some (.bool (okTime n), H) := by
  refine flat_of (run48 (Nat.le_of_ble_eq_true rfl) ?_) rfl rfl
  unfold okTime
  by_cases h0 : 0 ≤ n <;> by_cases h1 : n ≤ 1000000000000000 <;>
    simp only [c48, r48_0, r48_1, rs48, ↓reduceIte, go_sem, Nat.reduceLT, Nat.reduceEqDiff, Nat.reduceAdd, Nat.reduceMul, Nat.reduceLeDiff, Int.reduceLT, Int.reduceLE, Int.reduceEq, Int.reduceNeg, Int.reduceToNat, h0, h1] <;> exact ⟨[], by simp⟩
theorem fn34 (p : Pc) (hp : PcOk p) (H : Hp) : callL Try.prog pr 34 [.agg (pcC p)] H = some (.bool (isPieceB p), H) := by
  have hc := hp.giv.1
  refine flat_of (run34 (Nat.le_of_ble_eq_true rfl) ?_) rfl rfl
  unfold isPieceB
  by_cases h0 : 0 ≤ p.id
  · by_cases h1 : p.id ≤ 4294967295
    · by_cases h2 : 0 ≤ p.at_
      · simp only [c34, r34_0, r34_1, rs34, ↓reduceIte, go_sem, Nat.reduceLT, Nat.reduceEqDiff, Nat.reduceAdd, Nat.reduceMul, Nat.reduceLeDiff, Int.reduceLT, Int.reduceLE, Int.reduceEq, Int.reduceNeg, Int.reduceToNat, h0, h1, h2, hc, fn48]
        exact ⟨_, rfl⟩
      · simp only [c34, r34_0, r34_1, rs34, ↓reduceIte, go_sem, Nat.reduceLT, Nat.reduceEqDiff, Nat.reduceAdd, Nat.reduceMul, Nat.reduceLeDiff, Int.reduceLT, Int.reduceLE, Int.reduceEq, Int.reduceNeg, Int.reduceToNat, h0, h1, h2, hc, fn48]
        exact ⟨_, rfl⟩
    · simp only [c34, r34_0, r34_1, rs34, ↓reduceIte, go_sem, Nat.reduceLT, Nat.reduceEqDiff, Nat.reduceAdd, Nat.reduceMul, Nat.reduceLeDiff, Int.reduceLT, Int.reduceLE, Int.reduceEq, Int.reduceNeg, Int.reduceToNat, h0, h1, hc, fn48]
      exact ⟨_, rfl⟩
  · simp only [c34, r34_0, r34_1, rs34, ↓reduceIte, go_sem, Nat.reduceLT, Nat.reduceEqDiff, Nat.reduceAdd, Nat.reduceMul, Nat.reduceLeDiff, Int.reduceLT, Int.reduceLE, Int.reduceEq, Int.reduceNeg, Int.reduceToNat, h0, hc, fn48]
    exact ⟨_, rfl⟩
theorem fn33 (p : Pc) (hp : PcOk p) (H : Hp) : callL Try.prog pr 33 [.agg (pcC p)] H = some (.bool (!isPieceB p), H) := by
  have hc := hp.giv.1
  refine flat_of (run33 (Nat.le_of_ble_eq_true rfl) ?_) rfl rfl
  simp only [c33, r33_0, r33_1, rs33, ↓reduceIte, go_sem, Nat.reduceLT, Nat.reduceEqDiff, Nat.reduceAdd, Nat.reduceMul, Nat.reduceLeDiff, Int.reduceLT, Int.reduceLE, Int.reduceEq, Int.reduceNeg, Int.reduceToNat, hc, fn34 p hp]
  exact ⟨_, rfl⟩
theorem fn35 (p : Pc) (hp : PcOk p) (H : Hp) : callL Try.prog pr 35 [.agg (pcC p)] H = some (.bool (isFarB p), H) := by
  have hc := hp.giv.1
  have hl := hp.len
  have hs := hp.small
  have hr := hp.rat
  refine flat_of (run35 (Nat.le_of_ble_eq_true rfl) ?_) rfl rfl
  unfold isFarB pcEnd
  unfold Inx at hr
  by_cases h0 : 4000 < p.at_
  · simp (disch := omega) only [c35, r35_0, r35_1, rs35, ↓reduceIte, go_sem, Nat.reduceLT, Nat.reduceEqDiff, Nat.reduceAdd, Nat.reduceMul, Nat.reduceLeDiff, Int.reduceLT, Int.reduceLE, Int.reduceEq, Int.reduceNeg, Int.reduceToNat, h0, hc, hl, Bool.true_or]
    exact ⟨_, rfl⟩
  · simp (disch := omega) only [c35, r35_0, r35_1, rs35, ↓reduceIte, go_sem, Nat.reduceLT, Nat.reduceEqDiff, Nat.reduceAdd, Nat.reduceMul, Nat.reduceLeDiff, Int.reduceLT, Int.reduceLE, Int.reduceEq, Int.reduceNeg, Int.reduceToNat, h0, hc, hl, IntWalk.i64_in, Bool.false_or]
    exact ⟨_, rfl⟩
theorem fn37 (p : Pc) (hp : PcOk p) (ha : p.at_ ≤ 9223231299366420479) (H : Hp) : callL Try.prog pr 37 [.agg (pcC p)] H = some (.int .i64 (pcEnd p), H) := by
  have hc := hp.giv.1
  have hl := hp.len
  have hs := hp.small
  have hr := hp.rat
  refine flat_of (run37 (Nat.le_of_ble_eq_true rfl) ?_) rfl rfl
  unfold pcEnd
  unfold Inx at hr
  simp (disch := omega) only [c37, r37_0, r37_1, rs37, ↓reduceIte, go_sem, Nat.reduceLT, Nat.reduceEqDiff, Nat.reduceAdd, Nat.reduceMul, Nat.reduceLeDiff, Int.reduceLT, Int.reduceLE, Int.reduceEq, Int.reduceNeg, Int.reduceToNat, hc, hl, IntWalk.i64_in]
  exact ⟨_, rfl⟩
theorem fn36 (p : Pc) (hp : PcOk p) (H : Hp) : callL Try.prog pr 36 [.agg (pcC p)] H = some (.int .i64 (askedI p), H) := by
  have hc := hp.giv.1
  refine flat_of (run36 (Nat.le_of_ble_eq_true rfl) ?_) rfl rfl
  unfold askedI isPieceB isFarB okTime
  by_cases h0 : p.id < 0
  · have h0' : ¬ 0 ≤ p.id := by omega
    simp only [c36, r36_0, r36_1, r36_2, rs36, ↓reduceIte, go_sem, Nat.reduceLT, Nat.reduceEqDiff, Nat.reduceAdd, Nat.reduceMul, Nat.reduceLeDiff, Int.reduceLT, Int.reduceLE, Int.reduceEq, Int.reduceNeg, Int.reduceToNat, h0, h0', hc]
    exact ⟨_, rfl⟩
  · have h0' : 0 ≤ p.id := by omega
    by_cases h1 : 4294967295 < p.id
    · have h1' : ¬ p.id ≤ 4294967295 := by omega
      simp only [c36, r36_0, r36_1, r36_2, rs36, ↓reduceIte, go_sem, Nat.reduceLT, Nat.reduceEqDiff, Nat.reduceAdd, Nat.reduceMul, Nat.reduceLeDiff, Int.reduceLT, Int.reduceLE, Int.reduceEq, Int.reduceNeg, Int.reduceToNat, h0, h0', h1, h1', hc]
      exact ⟨_, rfl⟩
    · have h1' : p.id ≤ 4294967295 := by omega
      by_cases h2 : p.at_ < 0
      · have h2' : ¬ 0 ≤ p.at_ := by omega
        simp only [c36, r36_0, r36_1, r36_2, rs36, ↓reduceIte, go_sem, Nat.reduceLT, Nat.reduceEqDiff, Nat.reduceAdd, Nat.reduceMul, Nat.reduceLeDiff, Int.reduceLT, Int.reduceLE, Int.reduceEq, Int.reduceNeg, Int.reduceToNat, h0, h0', h1, h1', h2, h2', hc]
        exact ⟨_, rfl⟩
      · have h2' : 0 ≤ p.at_ := by omega
        by_cases h3 : p.time < 0
        · have h3' : ¬ 0 ≤ p.time := by omega
          simp only [c36, r36_0, r36_1, r36_2, rs36, ↓reduceIte, go_sem, Nat.reduceLT, Nat.reduceEqDiff, Nat.reduceAdd, Nat.reduceMul, Nat.reduceLeDiff, Int.reduceLT, Int.reduceLE, Int.reduceEq, Int.reduceNeg, Int.reduceToNat, h0, h0', h1, h1', h2, h2', h3, h3', hc]
          exact ⟨_, rfl⟩
        · have h3' : 0 ≤ p.time := by omega
          by_cases h4 : 1000000000000000 < p.time
          · have h4' : ¬ p.time ≤ 1000000000000000 := by omega
            simp only [c36, r36_0, r36_1, r36_2, rs36, ↓reduceIte, go_sem, Nat.reduceLT, Nat.reduceEqDiff, Nat.reduceAdd, Nat.reduceMul, Nat.reduceLeDiff, Int.reduceLT, Int.reduceLE, Int.reduceEq, Int.reduceNeg, Int.reduceToNat, h0, h0', h1, h1', h2, h2', h3, h3', h4, h4', hc]
            exact ⟨_, rfl⟩
          · have h4' : p.time ≤ 1000000000000000 := by omega
            by_cases h5 : 4000 < p.at_
            · simp only [c36, r36_0, r36_1, r36_3, r36_4, rs36, ↓reduceIte, go_sem, Nat.reduceLT, Nat.reduceEqDiff, Nat.reduceAdd, Nat.reduceMul, Nat.reduceLeDiff, Int.reduceLT, Int.reduceLE, Int.reduceEq, Int.reduceNeg, Int.reduceToNat, h0, h0', h1, h1', h2, h2', h3, h3', h4, h4', h5, hc, Bool.true_or]
              exact ⟨_, rfl⟩
            · have h37 := fn37 p hp (by omega)
              by_cases h6 : 4000 < pcEnd p
              · simp only [c36, r36_0, r36_1, r36_3, r36_4, rs36, ↓reduceIte, go_sem, Nat.reduceLT, Nat.reduceEqDiff, Nat.reduceAdd, Nat.reduceMul, Nat.reduceLeDiff, Int.reduceLT, Int.reduceLE, Int.reduceEq, Int.reduceNeg, Int.reduceToNat, h0, h0', h1, h1', h2, h2', h3, h3', h4, h4', h5, h6, hc, h37, Bool.false_or]
                exact ⟨_, rfl⟩
              · simp only [c36, r36_0, r36_1, r36_3, r36_5, rs36, ↓reduceIte, go_sem, Nat.reduceLT, Nat.reduceEqDiff, Nat.reduceAdd, Nat.reduceMul, Nat.reduceLeDiff, Int.reduceLT, Int.reduceLE, Int.reduceEq, Int.reduceNeg, Int.reduceToNat, h0, h0', h1, h1', h2, h2', h3, h3', h4, h4', h5, h6, hc, h37, Bool.false_or]
                exact ⟨_, rfl⟩
theorem fn57 {α : Type} (enc : α → List V) (H : Hp) (s : V) (xs : List α) (hs : Sl H s 5 (xs.map enc)) (hlen : xs.length < 2 ^ 63) (p : α → Bool) (f : Nat) (ca cb : List V) (hf : ∀ x ∈ xs, callL Try.prog pr f (ca ++ [.agg (enc x)] ++ cb) H = some (.bool (p x), H)) : callL Try.prog pr 57 [s, .fn f ca cb] H = some (.int .i64 (findI p xs 0), H) := by
  have hl : (xs.map enc).length = xs.length := List.length_map _
  have hlenS := fun H' => hs.len (P := Try.prog) (H' := H') s22
  rw [hl] at hlenS
  refine flat_of (run57 (Nat.le_of_ble_eq_true rfl) ?_) rfl rfl
  simp (disch := omega) only [c57, r57_0, r57_1, rs57, ↓reduceIte, go_sem, Nat.reduceLT, Nat.reduceEqDiff, Nat.reduceAdd, Nat.reduceMul, Nat.reduceLeDiff, Int.reduceLT, Int.reduceLE, Int.reduceEq, Int.reduceNeg, Int.reduceToNat, hlenS]
  refine Wp_loop (fun m T D H' => ∃ i, m = xs.length - i ∧ i ≤ xs.length ∧ D = [] ∧ H' = H ∧ get T 0 = s ∧ get T 1 = .fn f ca cb ∧ get T 7 = .int .i64 xs.length ∧ get T 8 = .int .i64 i ∧ findI p xs 0 = findI p (xs.drop i) i) ?_ xs.length _ _ _ ?_
  · rintro m T D H' ⟨i, rfl, hi, rfl, rfl, h0, h1, h7, h8, hp⟩
    by_cases hlt : i < xs.length
    · obtain ⟨x, hx⟩ : ∃ x, xs[i]? = some x := ⟨_, List.getElem?_eq_getElem hlt⟩
      have hx' : (xs.map enc)[i]? = some (enc x) := by rw [List.getElem?_map, hx]; rfl
      have hfx := hf x (List.mem_of_getElem? hx)
      have hlt' : (i : Int) < xs.length := by omega
      have hi2 := fun k => hs.idx (P := Try.prog) (k := k) s22 (i := i) (by omega)
      rw [findI_drop p hx] at hp
      by_cases hb : p x = true
      · rw [if_pos hb] at hp
        simp (disch := omega) only [l57_7, r57_2, r57_3, r57_4, r57_5, r57_6, ↓reduceIte, go_sem, Nat.reduceLT, Nat.reduceEqDiff, Nat.reduceAdd, Nat.reduceMul, Nat.reduceLeDiff, Int.reduceLT, Int.reduceLE, Int.reduceEq, Int.reduceNeg, Int.reduceToNat, h0, h1, h7, h8, hlt', hi2, hs.agg g37 z37 hx', hfx, hb, IntWalk.i64_in]
        exact ⟨by rw [hp], [], by simp⟩
      · rw [if_neg hb] at hp
        rw [Bool.not_eq_true] at hb
        simp (disch := omega) only [l57_7, r57_2, r57_3, r57_4, r57_5, r57_6, ↓reduceIte, go_sem, Nat.reduceLT, Nat.reduceEqDiff, Nat.reduceAdd, Nat.reduceMul, Nat.reduceLeDiff, Int.reduceLT, Int.reduceLE, Int.reduceEq, Int.reduceNeg, Int.reduceToNat, h0, h1, h7, h8, hlt', hi2, hs.agg g37 z37 hx', hfx, hb, IntWalk.i64_in]
        exact ⟨_, by omega, i + 1, rfl, hlt, rfl, hp⟩
    · obtain rfl : i = xs.length := by omega
      simp (disch := omega) only [l57_7, r57_2, r57_8, ↓reduceIte, go_sem, Nat.reduceLT, Nat.reduceEqDiff, Nat.reduceAdd, Nat.reduceMul, Nat.reduceLeDiff, Int.reduceLT, Int.reduceLE, Int.reduceEq, Int.reduceNeg, Int.reduceToNat, h0, h1, h7, h8, Int.lt_irrefl]
      refine ⟨?_, [], by simp⟩
      rw [hp, List.drop_length]
      rfl
  · exact ⟨0, by simp [go_sem]⟩

theorem fn29 {α : Type} (enc : α → List V) (H : Hp) (s : V) (xs : List α) (hs : Sl H s 5 (xs.map enc)) (hlen : xs.length < 2 ^ 63) (p : α → Bool) (f : Nat) (ca cb : List V) (hf : ∀ x ∈ xs, callL Try.prog pr f (ca ++ [.agg (enc x)] ++ cb) H = some (.bool (p x), H)) : callL Try.prog pr 29 [s, .fn f ca cb] H = some (.bool (xs.any p), H) := by
  refine flat_of (run29 (Nat.le_of_ble_eq_true rfl) ?_) rfl rfl
  simp (disch := omega) only [c29, r29_0, r29_1, rs29, ↓reduceIte, go_sem, Nat.reduceLT, Nat.reduceEqDiff, Nat.reduceAdd, Nat.reduceMul, Nat.reduceLeDiff, Int.reduceLT, Int.reduceLE, Int.reduceEq, Int.reduceNeg, Int.reduceToNat, fn57 enc H s xs hs hlen p f ca cb hf]
  exact ⟨by rw [findI_any p xs 0 (by omega)], [], by simp⟩

end Go.Proofs.Ytdpdlobaabcjjab
