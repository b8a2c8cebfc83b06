/-
  Texts of this seat, laid together. No statement of the seat stands here.
-/
import Derived.Test.YtlkeomoleecfeaaP4
/-
  Segments; copies of bytes; whether a segment is right; the library's way through chunks; walked. No statement of the seat stands here.
-/
namespace Go.Proofs.Ytlkeomoleecfeaa
open Go Go.An
set_option maxRecDepth 4000
set_option linter.unusedSimpArgs false
set_option linter.unusedVariables false

structure Sg where
  dir : Int
  seq : Int
  ack : Int
  flags : Int
  dataN : Bool
  data : List UInt8
  time : Int
  deriving DecidableEq
def sgE : Enc Sg := ⟨fun p => [.int .i64 p.dir, .int .i64 p.seq, .int .i64 p.ack, .int .i64 p.flags, slV p.dataN byE p.data, .int .i64 p.time], 6, ⟨0, 0, 0, 0, true, [], 0⟩, fun _ => rfl, by decide, fun p => by simp only [immL, slV_imm]; rfl⟩
theorem sgE_f (p : Sg) : sgE.f p = [.int .i64 p.dir, .int .i64 p.seq, .int .i64 p.ack, .int .i64 p.flags, slV p.dataN byE p.data, .int .i64 p.time] := rfl
@[go_sem] theorem sgE_w : sgE.w = 6 := rfl
@[go_sem] theorem sgE_l (p : Sg) : (sgE.f p).length = 6 := rfl
@[go_sem] theorem sgE_t (p : Sg) : (sgE.f p).take 6 = sgE.f p := rfl
@[go_sem] theorem sgE_sa (p : Sg) : setAt [.int .i64 0, .int .i64 0, .int .i64 0, .int .i64 0, .nilslice, .int .i64 0] 0 (sgE.f p) = sgE.f p := rfl
@[go_sem] theorem sgE_pa (p : Sg) : partK (some true) (some 6) (sgE.f p) 0 = some (.agg (sgE.f p)) := rfl
@[go_sem] theorem sgE_0 (p : Sg) : (sgE.f p)[0]? = some (.int .i64 p.dir) := rfl
@[go_sem] theorem sgE_1 (p : Sg) : (sgE.f p)[1]? = some (.int .i64 p.seq) := rfl
@[go_sem] theorem sgE_2 (p : Sg) : (sgE.f p)[2]? = some (.int .i64 p.ack) := rfl
@[go_sem] theorem sgE_3 (p : Sg) : (sgE.f p)[3]? = some (.int .i64 p.flags) := rfl
@[go_sem] theorem sgE_4 (p : Sg) : (sgE.f p)[4]? = some (slV p.dataN byE p.data) := rfl
@[go_sem] theorem sgE_5 (p : Sg) : (sgE.f p)[5]? = some (.int .i64 p.time) := rfl
@[go_sem] theorem ld_sgE {l : List Sg} {i : Nat} {H : Hp} (h : i < l.length) : loadV Try.prog 38 H (.ipt (flatE sgE l) (i * 6)) = some (.agg (sgE.f (sgE.at l i))) := ld_agg g38 z38 rfl h
@[go_sem] theorem ld_sgE_0 {l : List Sg} {i : Nat} {H : Hp} (h : i < l.length) : loadV Try.prog 3 H (.ipt (flatE sgE l) (i * 6)) = some (.int .i64 (sgE.at l i).dir) := ld_cell0 g3 rfl h
@[go_sem] theorem ld_sgE_1 {l : List Sg} {i : Nat} {H : Hp} (h : i < l.length) : loadV Try.prog 3 H (.ipt (flatE sgE l) (i * 6 + 1)) = some (.int .i64 (sgE.at l i).seq) := ld_cell (j := 1) g3 rfl h (by omega)
@[go_sem] theorem ld_sgE_2 {l : List Sg} {i : Nat} {H : Hp} (h : i < l.length) : loadV Try.prog 3 H (.ipt (flatE sgE l) (i * 6 + 2)) = some (.int .i64 (sgE.at l i).ack) := ld_cell (j := 2) g3 rfl h (by omega)
@[go_sem] theorem ld_sgE_3 {l : List Sg} {i : Nat} {H : Hp} (h : i < l.length) : loadV Try.prog 3 H (.ipt (flatE sgE l) (i * 6 + 3)) = some (.int .i64 (sgE.at l i).flags) := ld_cell (j := 3) g3 rfl h (by omega)
@[go_sem] theorem ld_sgE_4 {l : List Sg} {i : Nat} {H : Hp} (h : i < l.length) : loadV Try.prog 22 H (.ipt (flatE sgE l) (i * 6 + 4)) = some (slV (sgE.at l i).dataN byE (sgE.at l i).data) := ld_cell (j := 4) g22 rfl h (by omega)
@[go_sem] theorem ld_sgE_5 {l : List Sg} {i : Nat} {H : Hp} (h : i < l.length) : loadV Try.prog 3 H (.ipt (flatE sgE l) (i * 6 + 5)) = some (.int .i64 (sgE.at l i).time) := ld_cell (j := 5) g3 rfl h (by omega)
def SgOk (p : Sg) : Prop := Inx p.dir ∧ Inx p.seq ∧ Inx p.ack ∧ Inx p.flags ∧ p.data.length ≤ 140737488355328 ∧ Inx p.time
theorem rd_sgE {m : Nat} {x : List V} (h : RdT Try.prog (m + 3) 38 x) : ∃ p : Sg, x = sgE.f p ∧ SgOk p := by
  obtain ⟨xss, rfl, k0⟩ := rd_parts (m := m + 2) (ts := [3, 3, 3, 3, 22, 3]) (by kernel_rfl) h
  obtain ⟨x0, l0, rfl, h0, k1⟩ := rdTs_cons k0
  obtain ⟨x1, l1, rfl, h1, k2⟩ := rdTs_cons k1
  obtain ⟨x2, l2, rfl, h2, k3⟩ := rdTs_cons k2
  obtain ⟨x3, l3, rfl, h3, k4⟩ := rdTs_cons k3
  obtain ⟨x4, l4, rfl, h4, k5⟩ := rdTs_cons k4
  obtain ⟨x5, l5, rfl, h5, k6⟩ := rdTs_cons k5
  obtain rfl := rdTs_nil k6
  obtain ⟨a0, rfl, b0⟩ := rd_i64 (m := m + 1) u3 h0
  obtain ⟨a1, rfl, b1⟩ := rd_i64 (m := m + 1) u3 h1
  obtain ⟨a2, rfl, b2⟩ := rd_i64 (m := m + 1) u3 h2
  obtain ⟨a3, rfl, b3⟩ := rd_i64 (m := m + 1) u3 h3
  obtain ⟨c4, a4, rfl, _, b4, _⟩ := rd_bytes (m := m + 0) u22 u5 (by kernel_rfl) h4
  rw [show Try.prog.bytesOf 5 = 1 by kernel_rfl, Nat.mul_one] at b4
  obtain ⟨a5, rfl, b5⟩ := rd_i64 (m := m + 1) u3 h5
  exact ⟨⟨a0, a1, a2, a3, c4, a4, a5⟩, rfl, ⟨b0, b1, b2, b3, (Nat.le_trans b4 (by decide)), b5⟩⟩
theorem fn13 {b : Bool} {l : List UInt8} (hl : l.length ≤ 2 ^ 30) (H : Hp) : callL Try.prog pr 13 [slV b byE l] H = some (slV b byE l, H) := by
  refine run13 (Nat.le_of_ble_eq_true rfl) ?_
  by_cases hb : b = true ∧ l = []
  · obtain ⟨rfl, rfl⟩ := hb
    simp (disch := first | rfl | omega | exact lt_new _ | assumption | decide | (simp [tk_here, tk_app, tk_0, tk_S, gr_here, gr_app, gr_0, gr_S] <;> omega) | fail) only [r13_0, r13_1, r13_2, r13_3, c13, rs13, gc13, go_sem, ↓reduceIte, Nat.reduceLT, Nat.reduceEqDiff, Nat.reduceAdd, Nat.reduceMul, Nat.reduceSub, Int.reduceAdd, Int.reduceSub, Nat.reduceLeDiff, Int.reduceLT, Int.reduceLE, Int.reduceEq, Int.reduceNeg, Int.reduceToNat, slV_nil]
    exact finQ_same (by simp (disch := first | rfl | omega | exact lt_new _ | assumption | decide | (simp [tk_here, tk_app, tk_0, tk_S, gr_here, gr_app, gr_0, gr_S] <;> omega) | fail) only [go_sem, ↓reduceIte, Nat.reduceLT, Nat.reduceEqDiff, Nat.reduceAdd, Nat.reduceMul, Nat.reduceSub, Int.reduceAdd, Int.reduceSub, Nat.reduceLeDiff, Int.reduceLT, Int.reduceLE, Int.reduceEq, Int.reduceNeg, Int.reduceToNat])
  · have hb2 : (b && decide (l.length = 0)) = false := by
      cases b with
      | false => rfl
      | true => simp only [true_and] at hb; simp [hb]
    obtain ⟨g, ha⟩ : ∃ g, appOf 1 1 (H ++ [.row 0 [] true]) (.slice H.length 0 0 0 1 .full) (slV b byE l) = some (.slice H.length g 0 l.length 1 .full, H ++ [.row g (flatE byE l) true]) := by
      have hw : byE.w = 1 := rfl
      have hfl := flatE_len (E := byE) (l := l)
      rw [hw] at hfl
      have hfc := flatE_cells byE l
      unfold appOf
      rw [src_slV]
      simp only [Option.bind_some]
      rw [if_pos ⟨hfl, hfc⟩]
      simp only [getRow_last, Option.bind_some]
      rw [if_pos ⟨trivial, by omega, by omega, by simp⟩]
      by_cases hz : l.length = 0
      · obtain rfl : l = [] := List.eq_nil_of_length_eq_zero hz
        exact ⟨0, by simp [flatE]⟩
      · refine ⟨1, ?_⟩
        rw [if_neg hz, if_pos trivial, if_neg (by simpa using fun h => hz (by rw [h]; rfl)), if_pos (by simp)]
        simp
    simp (disch := first | rfl | omega | exact lt_new _ | assumption | decide | (simp [tk_here, tk_app, tk_0, tk_S, gr_here, gr_app, gr_0, gr_S] <;> omega) | fail) only [r13_0, r13_1, r13_2, r13_3, c13, rs13, gc13, go_sem, ↓reduceIte, Nat.reduceLT, Nat.reduceEqDiff, Nat.reduceAdd, Nat.reduceMul, Nat.reduceSub, Int.reduceAdd, Int.reduceSub, Nat.reduceLeDiff, Int.reduceLT, Int.reduceLE, Int.reduceEq, Int.reduceNeg, Int.reduceToNat, hb2, ha]
    refine finQ_app ?_
    have hi : inlB H.length (H ++ [.row g (flatE byE l) true]) 8 (.slice H.length g 0 l.length 1 .full) = some (.isl (flatE byE l) l.length 1) := inlB_row (f := 6) (Nat.le_refl _) (by simp) (by rw [flatE_len]; rfl) flatE_imm
    refine ⟨_, hi, ?_⟩
    have : ¬ (b = true ∧ l = []) := hb
    unfold slV
    rw [if_neg this]
    rfl
/-- Whether the numbers of a cut are right. -/
def okC (dir seq time : Int) : Bool := decide (0 ≤ dir) && decide (dir ≤ 1) && decide (0 ≤ seq) && decide (seq ≤ 4294967295) && decide (0 ≤ time) && decide (time ≤ 1000000000000000)
theorem fn11 (dir seq time : Int) (H : Hp) : callL Try.prog pr 11 [.agg [.int .i64 dir, .int .i64 seq, .int .i64 0, .int .i64 0, .nilslice, .int .i64 time]] H = some (.int .i64 (if okC dir seq time = true then 0 else 1), H) := by
  refine run11 (Nat.le_of_ble_eq_true rfl) ?_
  by_cases h1 : dir < 0
  · have e : okC dir seq time = false := by simp [okC]; omega
    rw [e]
    simp (disch := first | rfl | omega | exact lt_new _ | assumption | decide | (simp [tk_here, tk_app, tk_0, tk_S, gr_here, gr_app, gr_0, gr_S] <;> omega) | fail) only [r11_0, r11_1, r11_2, r11_3, r11_4, r11_5, c11, rs11, gc11, h1, go_sem, ↓reduceIte, Nat.reduceLT, Nat.reduceEqDiff, Nat.reduceAdd, Nat.reduceMul, Nat.reduceSub, Int.reduceAdd, Int.reduceSub, Nat.reduceLeDiff, Int.reduceLT, Int.reduceLE, Int.reduceEq, Int.reduceNeg, Int.reduceToNat]
    repeat' ((first | refine guardB_dec (fun hy => ?_) (fun hy => ?_) | refine guardB_bool (fun hy => ?_) (fun hy => ?_) | refine guardQ_ite (fun hy => ?_) (fun hy => ?_) | refine brQ_dec (fun hy => ?_) (fun hy => ?_) | refine brQ_bool (fun hy => ?_) (fun hy => ?_)) <;> (try simp only [Bool.not_eq_true', Bool.not_eq_false', Bool.and_eq_true, Bool.or_eq_false_iff, decide_eq_true_eq, decide_eq_false_iff_not] at hy) <;> simp (disch := first | rfl | omega | exact lt_new _ | assumption | decide | (simp [tk_here, tk_app, tk_0, tk_S, gr_here, gr_app, gr_0, gr_S] <;> omega) | fail) only [r11_0, r11_1, r11_2, r11_3, r11_4, r11_5, c11, rs11, gc11, h1, go_sem, ↓reduceIte, Nat.reduceLT, Nat.reduceEqDiff, Nat.reduceAdd, Nat.reduceMul, Nat.reduceSub, Int.reduceAdd, Int.reduceSub, Nat.reduceLeDiff, Int.reduceLT, Int.reduceLE, Int.reduceEq, Int.reduceNeg, Int.reduceToNat, hy])
    all_goals (try ((first | refine finQ_same ?_ | refine finQ_app ?_ | (rw [List.append_assoc]; refine finQ_app ?_)) <;> simp (disch := first | rfl | omega | exact lt_new _ | assumption | decide | (simp [tk_here, tk_app, tk_0, tk_S, gr_here, gr_app, gr_0, gr_S] <;> omega) | fail) only [go_sem, ↓reduceIte, Nat.reduceLT, Nat.reduceEqDiff, Nat.reduceAdd, Nat.reduceMul, Nat.reduceSub, Int.reduceAdd, Int.reduceSub, Nat.reduceLeDiff, Int.reduceLT, Int.reduceLE, Int.reduceEq, Int.reduceNeg, Int.reduceToNat, List.append_assoc, List.cons_append, List.nil_append, *]))
    all_goals (try first | rfl | (simp [*]; done) | grind)
  by_cases h2 : 1 < dir
  · have e : okC dir seq time = false := by simp [okC]; omega
    rw [e]
    simp (disch := first | rfl | omega | exact lt_new _ | assumption | decide | (simp [tk_here, tk_app, tk_0, tk_S, gr_here, gr_app, gr_0, gr_S] <;> omega) | fail) only [r11_0, r11_1, r11_2, r11_3, r11_4, r11_5, c11, rs11, gc11, h1, h2, go_sem, ↓reduceIte, Nat.reduceLT, Nat.reduceEqDiff, Nat.reduceAdd, Nat.reduceMul, Nat.reduceSub, Int.reduceAdd, Int.reduceSub, Nat.reduceLeDiff, Int.reduceLT, Int.reduceLE, Int.reduceEq, Int.reduceNeg, Int.reduceToNat]
    repeat' ((first | refine guardB_dec (fun hy => ?_) (fun hy => ?_) | refine guardB_bool (fun hy => ?_) (fun hy => ?_) | refine guardQ_ite (fun hy => ?_) (fun hy => ?_) | refine brQ_dec (fun hy => ?_) (fun hy => ?_) | refine brQ_bool (fun hy => ?_) (fun hy => ?_)) <;> (try simp only [Bool.not_eq_true', Bool.not_eq_false', Bool.and_eq_true, Bool.or_eq_false_iff, decide_eq_true_eq, decide_eq_false_iff_not] at hy) <;> simp (disch := first | rfl | omega | exact lt_new _ | assumption | decide | (simp [tk_here, tk_app, tk_0, tk_S, gr_here, gr_app, gr_0, gr_S] <;> omega) | fail) only [r11_0, r11_1, r11_2, r11_3, r11_4, r11_5, c11, rs11, gc11, h1, h2, go_sem, ↓reduceIte, Nat.reduceLT, Nat.reduceEqDiff, Nat.reduceAdd, Nat.reduceMul, Nat.reduceSub, Int.reduceAdd, Int.reduceSub, Nat.reduceLeDiff, Int.reduceLT, Int.reduceLE, Int.reduceEq, Int.reduceNeg, Int.reduceToNat, hy])
    all_goals (try ((first | refine finQ_same ?_ | refine finQ_app ?_ | (rw [List.append_assoc]; refine finQ_app ?_)) <;> simp (disch := first | rfl | omega | exact lt_new _ | assumption | decide | (simp [tk_here, tk_app, tk_0, tk_S, gr_here, gr_app, gr_0, gr_S] <;> omega) | fail) only [go_sem, ↓reduceIte, Nat.reduceLT, Nat.reduceEqDiff, Nat.reduceAdd, Nat.reduceMul, Nat.reduceSub, Int.reduceAdd, Int.reduceSub, Nat.reduceLeDiff, Int.reduceLT, Int.reduceLE, Int.reduceEq, Int.reduceNeg, Int.reduceToNat, List.append_assoc, List.cons_append, List.nil_append, *]))
    all_goals (try first | rfl | (simp [*]; done) | grind)
  by_cases h3 : seq < 0
  · have e : okC dir seq time = false := by simp [okC]; omega
    rw [e]
    simp (disch := first | rfl | omega | exact lt_new _ | assumption | decide | (simp [tk_here, tk_app, tk_0, tk_S, gr_here, gr_app, gr_0, gr_S] <;> omega) | fail) only [r11_0, r11_1, r11_2, r11_3, r11_4, r11_5, c11, rs11, gc11, h1, h2, h3, go_sem, ↓reduceIte, Nat.reduceLT, Nat.reduceEqDiff, Nat.reduceAdd, Nat.reduceMul, Nat.reduceSub, Int.reduceAdd, Int.reduceSub, Nat.reduceLeDiff, Int.reduceLT, Int.reduceLE, Int.reduceEq, Int.reduceNeg, Int.reduceToNat]
    repeat' ((first | refine guardB_dec (fun hy => ?_) (fun hy => ?_) | refine guardB_bool (fun hy => ?_) (fun hy => ?_) | refine guardQ_ite (fun hy => ?_) (fun hy => ?_) | refine brQ_dec (fun hy => ?_) (fun hy => ?_) | refine brQ_bool (fun hy => ?_) (fun hy => ?_)) <;> (try simp only [Bool.not_eq_true', Bool.not_eq_false', Bool.and_eq_true, Bool.or_eq_false_iff, decide_eq_true_eq, decide_eq_false_iff_not] at hy) <;> simp (disch := first | rfl | omega | exact lt_new _ | assumption | decide | (simp [tk_here, tk_app, tk_0, tk_S, gr_here, gr_app, gr_0, gr_S] <;> omega) | fail) only [r11_0, r11_1, r11_2, r11_3, r11_4, r11_5, c11, rs11, gc11, h1, h2, h3, go_sem, ↓reduceIte, Nat.reduceLT, Nat.reduceEqDiff, Nat.reduceAdd, Nat.reduceMul, Nat.reduceSub, Int.reduceAdd, Int.reduceSub, Nat.reduceLeDiff, Int.reduceLT, Int.reduceLE, Int.reduceEq, Int.reduceNeg, Int.reduceToNat, hy])
    all_goals (try ((first | refine finQ_same ?_ | refine finQ_app ?_ | (rw [List.append_assoc]; refine finQ_app ?_)) <;> simp (disch := first | rfl | omega | exact lt_new _ | assumption | decide | (simp [tk_here, tk_app, tk_0, tk_S, gr_here, gr_app, gr_0, gr_S] <;> omega) | fail) only [go_sem, ↓reduceIte, Nat.reduceLT, Nat.reduceEqDiff, Nat.reduceAdd, Nat.reduceMul, Nat.reduceSub, Int.reduceAdd, Int.reduceSub, Nat.reduceLeDiff, Int.reduceLT, Int.reduceLE, Int.reduceEq, Int.reduceNeg, Int.reduceToNat, List.append_assoc, List.cons_append, List.nil_append, *]))
    all_goals (try first | rfl | (simp [*]; done) | grind)
  by_cases h4 : 4294967295 < seq
  · have e : okC dir seq time = false := by simp [okC]; omega
    rw [e]
    simp (disch := first | rfl | omega | exact lt_new _ | assumption | decide | (simp [tk_here, tk_app, tk_0, tk_S, gr_here, gr_app, gr_0, gr_S] <;> omega) | fail) only [r11_0, r11_1, r11_2, r11_3, r11_4, r11_5, c11, rs11, gc11, h1, h2, h3, h4, go_sem, ↓reduceIte, Nat.reduceLT, Nat.reduceEqDiff, Nat.reduceAdd, Nat.reduceMul, Nat.reduceSub, Int.reduceAdd, Int.reduceSub, Nat.reduceLeDiff, Int.reduceLT, Int.reduceLE, Int.reduceEq, Int.reduceNeg, Int.reduceToNat]
    repeat' ((first | refine guardB_dec (fun hy => ?_) (fun hy => ?_) | refine guardB_bool (fun hy => ?_) (fun hy => ?_) | refine guardQ_ite (fun hy => ?_) (fun hy => ?_) | refine brQ_dec (fun hy => ?_) (fun hy => ?_) | refine brQ_bool (fun hy => ?_) (fun hy => ?_)) <;> (try simp only [Bool.not_eq_true', Bool.not_eq_false', Bool.and_eq_true, Bool.or_eq_false_iff, decide_eq_true_eq, decide_eq_false_iff_not] at hy) <;> simp (disch := first | rfl | omega | exact lt_new _ | assumption | decide | (simp [tk_here, tk_app, tk_0, tk_S, gr_here, gr_app, gr_0, gr_S] <;> omega) | fail) only [r11_0, r11_1, r11_2, r11_3, r11_4, r11_5, c11, rs11, gc11, h1, h2, h3, h4, go_sem, ↓reduceIte, Nat.reduceLT, Nat.reduceEqDiff, Nat.reduceAdd, Nat.reduceMul, Nat.reduceSub, Int.reduceAdd, Int.reduceSub, Nat.reduceLeDiff, Int.reduceLT, Int.reduceLE, Int.reduceEq, Int.reduceNeg, Int.reduceToNat, hy])
    all_goals (try ((first | refine finQ_same ?_ | refine finQ_app ?_ | (rw [List.append_assoc]; refine finQ_app ?_)) <;> simp (disch := first | rfl | omega | exact lt_new _ | assumption | decide | (simp [tk_here, tk_app, tk_0, tk_S, gr_here, gr_app, gr_0, gr_S] <;> omega) | fail) only [go_sem, ↓reduceIte, Nat.reduceLT, Nat.reduceEqDiff, Nat.reduceAdd, Nat.reduceMul, Nat.reduceSub, Int.reduceAdd, Int.reduceSub, Nat.reduceLeDiff, Int.reduceLT, Int.reduceLE, Int.reduceEq, Int.reduceNeg, Int.reduceToNat, List.append_assoc, List.cons_append, List.nil_append, *]))
    all_goals (try first | rfl | (simp [*]; done) | grind)
  have h5 : binV Try.prog .andNot 3 (.int .i64 0) (.int .i64 23) = some (.int .i64 0) := by rfl
  by_cases h6 : time < 0
  · have e : okC dir seq time = false := by simp [okC]; omega
    rw [e]
    simp (disch := first | rfl | omega | exact lt_new _ | assumption | decide | (simp [tk_here, tk_app, tk_0, tk_S, gr_here, gr_app, gr_0, gr_S] <;> omega) | fail) only [r11_0, r11_1, r11_2, r11_3, r11_4, r11_5, c11, rs11, gc11, h1, h2, h3, h4, h5, h6, go_sem, ↓reduceIte, Nat.reduceLT, Nat.reduceEqDiff, Nat.reduceAdd, Nat.reduceMul, Nat.reduceSub, Int.reduceAdd, Int.reduceSub, Nat.reduceLeDiff, Int.reduceLT, Int.reduceLE, Int.reduceEq, Int.reduceNeg, Int.reduceToNat]
    repeat' ((first | refine guardB_dec (fun hy => ?_) (fun hy => ?_) | refine guardB_bool (fun hy => ?_) (fun hy => ?_) | refine guardQ_ite (fun hy => ?_) (fun hy => ?_) | refine brQ_dec (fun hy => ?_) (fun hy => ?_) | refine brQ_bool (fun hy => ?_) (fun hy => ?_)) <;> (try simp only [Bool.not_eq_true', Bool.not_eq_false', Bool.and_eq_true, Bool.or_eq_false_iff, decide_eq_true_eq, decide_eq_false_iff_not] at hy) <;> simp (disch := first | rfl | omega | exact lt_new _ | assumption | decide | (simp [tk_here, tk_app, tk_0, tk_S, gr_here, gr_app, gr_0, gr_S] <;> omega) | fail) only [r11_0, r11_1, r11_2, r11_3, r11_4, r11_5, c11, rs11, gc11, h1, h2, h3, h4, h5, h6, go_sem, ↓reduceIte, Nat.reduceLT, Nat.reduceEqDiff, Nat.reduceAdd, Nat.reduceMul, Nat.reduceSub, Int.reduceAdd, Int.reduceSub, Nat.reduceLeDiff, Int.reduceLT, Int.reduceLE, Int.reduceEq, Int.reduceNeg, Int.reduceToNat, hy])
    all_goals (try ((first | refine finQ_same ?_ | refine finQ_app ?_ | (rw [List.append_assoc]; refine finQ_app ?_)) <;> simp (disch := first | rfl | omega | exact lt_new _ | assumption | decide | (simp [tk_here, tk_app, tk_0, tk_S, gr_here, gr_app, gr_0, gr_S] <;> omega) | fail) only [go_sem, ↓reduceIte, Nat.reduceLT, Nat.reduceEqDiff, Nat.reduceAdd, Nat.reduceMul, Nat.reduceSub, Int.reduceAdd, Int.reduceSub, Nat.reduceLeDiff, Int.reduceLT, Int.reduceLE, Int.reduceEq, Int.reduceNeg, Int.reduceToNat, List.append_assoc, List.cons_append, List.nil_append, *]))
    all_goals (try first | rfl | (simp [*]; done) | grind)
  by_cases h7 : 1000000000000000 < time
  · have e : okC dir seq time = false := by simp [okC]; omega
    rw [e]
    simp (disch := first | rfl | omega | exact lt_new _ | assumption | decide | (simp [tk_here, tk_app, tk_0, tk_S, gr_here, gr_app, gr_0, gr_S] <;> omega) | fail) only [r11_0, r11_1, r11_2, r11_3, r11_4, r11_5, c11, rs11, gc11, h1, h2, h3, h4, h5, h6, h7, go_sem, ↓reduceIte, Nat.reduceLT, Nat.reduceEqDiff, Nat.reduceAdd, Nat.reduceMul, Nat.reduceSub, Int.reduceAdd, Int.reduceSub, Nat.reduceLeDiff, Int.reduceLT, Int.reduceLE, Int.reduceEq, Int.reduceNeg, Int.reduceToNat]
    repeat' ((first | refine guardB_dec (fun hy => ?_) (fun hy => ?_) | refine guardB_bool (fun hy => ?_) (fun hy => ?_) | refine guardQ_ite (fun hy => ?_) (fun hy => ?_) | refine brQ_dec (fun hy => ?_) (fun hy => ?_) | refine brQ_bool (fun hy => ?_) (fun hy => ?_)) <;> (try simp only [Bool.not_eq_true', Bool.not_eq_false', Bool.and_eq_true, Bool.or_eq_false_iff, decide_eq_true_eq, decide_eq_false_iff_not] at hy) <;> simp (disch := first | rfl | omega | exact lt_new _ | assumption | decide | (simp [tk_here, tk_app, tk_0, tk_S, gr_here, gr_app, gr_0, gr_S] <;> omega) | fail) only [r11_0, r11_1, r11_2, r11_3, r11_4, r11_5, c11, rs11, gc11, h1, h2, h3, h4, h5, h6, h7, go_sem, ↓reduceIte, Nat.reduceLT, Nat.reduceEqDiff, Nat.reduceAdd, Nat.reduceMul, Nat.reduceSub, Int.reduceAdd, Int.reduceSub, Nat.reduceLeDiff, Int.reduceLT, Int.reduceLE, Int.reduceEq, Int.reduceNeg, Int.reduceToNat, hy])
    all_goals (try ((first | refine finQ_same ?_ | refine finQ_app ?_ | (rw [List.append_assoc]; refine finQ_app ?_)) <;> simp (disch := first | rfl | omega | exact lt_new _ | assumption | decide | (simp [tk_here, tk_app, tk_0, tk_S, gr_here, gr_app, gr_0, gr_S] <;> omega) | fail) only [go_sem, ↓reduceIte, Nat.reduceLT, Nat.reduceEqDiff, Nat.reduceAdd, Nat.reduceMul, Nat.reduceSub, Int.reduceAdd, Int.reduceSub, Nat.reduceLeDiff, Int.reduceLT, Int.reduceLE, Int.reduceEq, Int.reduceNeg, Int.reduceToNat, List.append_assoc, List.cons_append, List.nil_append, *]))
    all_goals (try first | rfl | (simp [*]; done) | grind)
  have e : okC dir seq time = true := by simp [okC]; omega
  rw [e]
  simp (disch := first | rfl | omega | exact lt_new _ | assumption | decide | (simp [tk_here, tk_app, tk_0, tk_S, gr_here, gr_app, gr_0, gr_S] <;> omega) | fail) only [r11_0, r11_1, r11_2, r11_3, r11_4, r11_5, c11, rs11, gc11, h1, h2, h3, h4, h5, h6, h7, go_sem, ↓reduceIte, Nat.reduceLT, Nat.reduceEqDiff, Nat.reduceAdd, Nat.reduceMul, Nat.reduceSub, Int.reduceAdd, Int.reduceSub, Nat.reduceLeDiff, Int.reduceLT, Int.reduceLE, Int.reduceEq, Int.reduceNeg, Int.reduceToNat]
  repeat' ((first | refine guardB_dec (fun hy => ?_) (fun hy => ?_) | refine guardB_bool (fun hy => ?_) (fun hy => ?_) | refine guardQ_ite (fun hy => ?_) (fun hy => ?_) | refine brQ_dec (fun hy => ?_) (fun hy => ?_) | refine brQ_bool (fun hy => ?_) (fun hy => ?_)) <;> (try simp only [Bool.not_eq_true', Bool.not_eq_false', Bool.and_eq_true, Bool.or_eq_false_iff, decide_eq_true_eq, decide_eq_false_iff_not] at hy) <;> simp (disch := first | rfl | omega | exact lt_new _ | assumption | decide | (simp [tk_here, tk_app, tk_0, tk_S, gr_here, gr_app, gr_0, gr_S] <;> omega) | fail) only [r11_0, r11_1, r11_2, r11_3, r11_4, r11_5, c11, rs11, gc11, h1, h2, h3, h4, h5, h6, h7, go_sem, ↓reduceIte, Nat.reduceLT, Nat.reduceEqDiff, Nat.reduceAdd, Nat.reduceMul, Nat.reduceSub, Int.reduceAdd, Int.reduceSub, Nat.reduceLeDiff, Int.reduceLT, Int.reduceLE, Int.reduceEq, Int.reduceNeg, Int.reduceToNat, hy])
  all_goals (try ((first | refine finQ_same ?_ | refine finQ_app ?_ | (rw [List.append_assoc]; refine finQ_app ?_)) <;> simp (disch := first | rfl | omega | exact lt_new _ | assumption | decide | (simp [tk_here, tk_app, tk_0, tk_S, gr_here, gr_app, gr_0, gr_S] <;> omega) | fail) only [go_sem, ↓reduceIte, Nat.reduceLT, Nat.reduceEqDiff, Nat.reduceAdd, Nat.reduceMul, Nat.reduceSub, Int.reduceAdd, Int.reduceSub, Nat.reduceLeDiff, Int.reduceLT, Int.reduceLE, Int.reduceEq, Int.reduceNeg, Int.reduceToNat, List.append_assoc, List.cons_append, List.nil_append, *]))
  all_goals (try first | rfl | (simp [*]; done) | grind)
theorem fn12 (b : Bool) (l : List UInt8) (n : Int) (hn : 1 ≤ n) (H : Hp) : callL Try.prog pr 12 [slV b byE l, .int .i64 n] H = some (.fn 23 [] [.ipt [slV b byE l] 0, .ipt [.int .i64 n] 0], H) := by
  have h1 : ¬ n < 1 := by omega
  refine run12 (Nat.le_of_ble_eq_true rfl) ?_
  simp (disch := first | rfl | omega | exact lt_new _ | assumption | decide | (simp [tk_here, tk_app, tk_0, tk_S, gr_here, gr_app, gr_0, gr_S] <;> omega) | fail) only [r12_0, r12_1, r12_2, r12_3, c12, rs12, gc12, h1, go_sem, ↓reduceIte, Nat.reduceLT, Nat.reduceEqDiff, Nat.reduceAdd, Nat.reduceMul, Nat.reduceSub, Int.reduceAdd, Int.reduceSub, Nat.reduceLeDiff, Int.reduceLT, Int.reduceLE, Int.reduceEq, Int.reduceNeg, Int.reduceToNat]
  repeat' ((first | refine guardB_dec (fun hy => ?_) (fun hy => ?_) | refine guardB_bool (fun hy => ?_) (fun hy => ?_) | refine guardQ_ite (fun hy => ?_) (fun hy => ?_) | refine brQ_dec (fun hy => ?_) (fun hy => ?_) | refine brQ_bool (fun hy => ?_) (fun hy => ?_)) <;> (try simp only [Bool.not_eq_true', Bool.not_eq_false', Bool.and_eq_true, Bool.or_eq_false_iff, decide_eq_true_eq, decide_eq_false_iff_not] at hy) <;> simp (disch := first | rfl | omega | exact lt_new _ | assumption | decide | (simp [tk_here, tk_app, tk_0, tk_S, gr_here, gr_app, gr_0, gr_S] <;> omega) | fail) only [r12_0, r12_1, r12_2, r12_3, c12, rs12, gc12, h1, go_sem, ↓reduceIte, Nat.reduceLT, Nat.reduceEqDiff, Nat.reduceAdd, Nat.reduceMul, Nat.reduceSub, Int.reduceAdd, Int.reduceSub, Nat.reduceLeDiff, Int.reduceLT, Int.reduceLE, Int.reduceEq, Int.reduceNeg, Int.reduceToNat, hy])
  all_goals (try ((first | refine finQ_same ?_ | refine finQ_app ?_ | (rw [List.append_assoc]; refine finQ_app ?_)) <;> simp (disch := first | rfl | omega | exact lt_new _ | assumption | decide | (simp [tk_here, tk_app, tk_0, tk_S, gr_here, gr_app, gr_0, gr_S] <;> omega) | fail) only [go_sem, ↓reduceIte, Nat.reduceLT, Nat.reduceEqDiff, Nat.reduceAdd, Nat.reduceMul, Nat.reduceSub, Int.reduceAdd, Int.reduceSub, Nat.reduceLeDiff, Int.reduceLT, Int.reduceLE, Int.reduceEq, Int.reduceNeg, Int.reduceToNat, List.append_assoc, List.cons_append, List.nil_append, *]))
  all_goals (try first | rfl | (simp [*]; done) | grind)
end Go.Proofs.Ytlkeomoleecfeaa
/-
  The library's way through chunks of bytes; walked. No statement of the seat stands here.
-/
namespace Go.Proofs.Ytlkeomoleecfeaa
open Go Go.An
set_option maxRecDepth 4000
set_option linter.unusedSimpArgs false
set_option linter.unusedVariables false

theorem ld22 (b : Bool) (l : List UInt8) (H : Hp) : loadV Try.prog 22 H (.ipt [slV b byE l] 0) = some (slV b byE l) := by
  rw [loadV_ipt]; unfold partV; rw [g22]; rfl
theorem ld3i (n : Int) (H : Hp) : loadV Try.prog 3 H (.ipt [.int .i64 n] 0) = some (.int .i64 n) := by
  rw [loadV_ipt]; unfold partV; rw [g3]; rfl
def chk (l : List UInt8) (n k : Nat) : List UInt8 := (l.drop (k * n)).take (min n (l.length - k * n))
theorem sl3 {b : Bool} {l : List UInt8} {lo hi : Nat} (h1 : lo < hi) (h2 : hi ≤ l.length) : slice3V Try.prog 22 (slV b byE l) (some (.int .i64 (lo : Int))) (.int .i64 (hi : Int)) (.int .i64 (hi : Int)) = some (slV false byE ((l.drop lo).take (hi - lo))) := by
  have h := cut_slV (H := []) (b := b) (E := byE) (l := l) (k := .i64) (k' := .i64) (lo := (lo : Int)) (hi := (hi : Int)) s22 rfl ⟨by omega, by omega, by omega⟩
  have hne : decide (l.length = 0) = false := decide_eq_false (by omega)
  rw [hne, Bool.and_false, Int.toNat_natCast, Int.toNat_natCast] at h
  rw [← h]
  rw [slV_some (by omega)]
  have hfl := flatE_len (E := byE) (l := l)
  have hw : byE.w = 1 := rfl
  have hsz : szOf Try.prog 5 = some byE.w := by kernel_rfl
  unfold slice3V sliceV
  rw [u22]
  simp only [boundV, Option.bind_some]
  rw [if_pos ⟨hsz, by rw [hw]; decide, hfl, by omega, by omega, by omega, by omega⟩, if_pos ⟨hsz, by rw [hw]; decide, hfl, by omega, by omega, by omega⟩]
theorem fn23 {id n : Nat} {b : Bool} {l : List UInt8} {H : Hp} (hn : 1 ≤ n) (hn2 : n ≤ 400) (hl : l.length ≤ 2 ^ 40) (J : Nat → Hp → Prop) (E : Hp → Prop) (h0 : J 0 H)
    (hs : ∀ k, k * n < l.length → ∀ H, J k H → ∃ c H', callL Try.prog pr Y0 [.yld id, slV false byE (chk l n k)] H = some (.bool c, H') ∧ (c = true → J (k + 1) H') ∧ (c = false → E H')) :
    ∃ H', callL Try.prog pr 23 [.yld id, .ipt [slV b byE l] 0, .ipt [.int .i64 (n : Int)] 0] H = some (.tup [], H') ∧ ((∃ k, l.length ≤ k * n ∧ k * n < l.length + n ∧ J k H') ∨ E H') := by
  suffices h : ∃ r, callL Try.prog pr 23 [.yld id, .ipt [slV b byE l] 0, .ipt [.int .i64 (n : Int)] 0] H = some r ∧ ∃ H', r = (.tup [], H') ∧ ((∃ k, l.length ≤ k * n ∧ k * n < l.length + n ∧ J k H') ∨ E H') by
    obtain ⟨_, e, H', rfl, h⟩ := h
    exact ⟨H', e, h⟩
  have hld := ld22 b l
  have hld2 := ld3i (n : Int)
  refine ex23 (Nat.le_of_ble_eq_true rfl) ?_
  simp (disch := first | rfl | omega | exact lt_new _ | assumption | decide | (simp [tk_here, tk_app, tk_0, tk_S, gr_here, gr_app, gr_0, gr_S] <;> omega) | fail) only [r23_0, r23_1, r23_2, r23_3, r23_4, c23, rs23, gc23, hld, hld2, go_sem, ↓reduceIte, Nat.reduceLT, Nat.reduceEqDiff, Nat.reduceAdd, Nat.reduceMul, Nat.reduceSub, Int.reduceAdd, Int.reduceSub, Nat.reduceLeDiff, Int.reduceLT, Int.reduceLE, Int.reduceEq, Int.reduceNeg, Int.reduceToNat]
  repeat' ((first | refine guardB_dec (fun hy => ?_) (fun hy => ?_) | refine guardB_bool (fun hy => ?_) (fun hy => ?_) | refine guardQ_ite (fun hy => ?_) (fun hy => ?_) | refine brQ_dec (fun hy => ?_) (fun hy => ?_) | refine brQ_bool (fun hy => ?_) (fun hy => ?_)) <;> (try simp only [Bool.not_eq_true', Bool.not_eq_false', Bool.and_eq_true, Bool.or_eq_false_iff, decide_eq_true_eq, decide_eq_false_iff_not] at hy) <;> simp (disch := first | rfl | omega | exact lt_new _ | assumption | decide | (simp [tk_here, tk_app, tk_0, tk_S, gr_here, gr_app, gr_0, gr_S] <;> omega) | fail) only [r23_0, r23_1, r23_2, r23_3, r23_4, c23, rs23, gc23, hld, hld2, go_sem, ↓reduceIte, Nat.reduceLT, Nat.reduceEqDiff, Nat.reduceAdd, Nat.reduceMul, Nat.reduceSub, Int.reduceAdd, Int.reduceSub, Nat.reduceLeDiff, Int.reduceLT, Int.reduceLE, Int.reduceEq, Int.reduceNeg, Int.reduceToNat, hy])
  refine Wp_loop (fun m T D H1 => ∃ k, m = l.length - k * n ∧ k * n < l.length + n ∧ D = [] ∧ J k H1 ∧ get T 0 = .yld id ∧ get T 1 = .ipt [slV b byE l] 0 ∧ get T 2 = .ipt [.int .i64 (n : Int)] 0 ∧ get T 4 = .int .i64 ((k * n : Nat) : Int)) ?_ l.length _ _ _ ?_
  case refine_2 => exact ⟨0, by simp, by omega, by simp (disch := first | rfl | omega | exact lt_new _ | assumption | decide | (simp [tk_here, tk_app, tk_0, tk_S, gr_here, gr_app, gr_0, gr_S] <;> omega) | fail) only [go_sem, ↓reduceIte, Nat.reduceLT, Nat.reduceEqDiff, Nat.reduceAdd, Nat.reduceMul, Nat.reduceSub, Int.reduceAdd, Int.reduceSub, Nat.reduceLeDiff, Int.reduceLT, Int.reduceLE, Int.reduceEq, Int.reduceNeg, Int.reduceToNat, h0, Nat.zero_mul, Int.natCast_zero]⟩
  rintro m T D H1 ⟨k, rfl, hk, rfl, hJ, t0, t1, t2, t4⟩
  have hS : (k + 1) * n = k * n + n := by rw [Nat.add_mul, Nat.one_mul]
  by_cases hlt : k * n < l.length
  · obtain ⟨c, H2, hc, hc1, hc2⟩ := hs k hlt H1 hJ
    obtain ⟨i, hi⟩ : ∃ i, k * n = i := ⟨_, rfl⟩
    obtain ⟨e, he⟩ : ∃ e, min n (l.length - i) = e := ⟨_, rfl⟩
    have hck : chk l n k = (l.drop i).take (i + e - i) := by unfold chk; rw [hi, he, Nat.add_sub_cancel_left]
    have h3 := sl3 (b := b) (l := l) (lo := i) (hi := i + e) (by omega) (by omega)
    rw [← hck] at h3
    rw [hi] at t4 hlt hk hS ⊢
    have hlt' : (i : Int) < l.length := by omega
    have hie : ((i + e : Nat) : Int) = (i : Int) + e := by omega
    rw [hie] at h3
    have hlen : ((((l.drop i).take (l.length - i)).length : Nat) : Int) = ((l.length - i : Nat) : Int) := by rw [List.length_take, List.length_drop]; omega
    have hmin : (if ((l.length - i : Nat) : Int) < (n : Int) then ((l.length - i : Nat) : Int) else (n : Int)) = (e : Int) := by split <;> omega
    have hin : (i : Int) + (n : Int) = ((i + n : Nat) : Int) := by omega
    cases c with
    | true =>
      simp (disch := first | rfl | omega | exact lt_new _ | assumption | decide | (simp [tk_here, tk_app, tk_0, tk_S, gr_here, gr_app, gr_0, gr_S] <;> omega) | fail) only [r23_0, r23_1, r23_2, r23_3, r23_4, l23_5, c23, rs23, gc23, hld, hld2, t0, t1, t2, t4, hlt', hlen, hmin, h3, hc, hin, go_sem, ↓reduceIte, Nat.reduceLT, Nat.reduceEqDiff, Nat.reduceAdd, Nat.reduceMul, Nat.reduceSub, Int.reduceAdd, Int.reduceSub, Nat.reduceLeDiff, Int.reduceLT, Int.reduceLE, Int.reduceEq, Int.reduceNeg, Int.reduceToNat]
      repeat' ((first | refine guardB_dec (fun hy => ?_) (fun hy => ?_) | refine guardB_bool (fun hy => ?_) (fun hy => ?_) | refine guardQ_ite (fun hy => ?_) (fun hy => ?_) | refine brQ_dec (fun hy => ?_) (fun hy => ?_) | refine brQ_bool (fun hy => ?_) (fun hy => ?_)) <;> (try simp only [Bool.not_eq_true', Bool.not_eq_false', Bool.and_eq_true, Bool.or_eq_false_iff, decide_eq_true_eq, decide_eq_false_iff_not] at hy) <;> simp (disch := first | rfl | omega | exact lt_new _ | assumption | decide | (simp [tk_here, tk_app, tk_0, tk_S, gr_here, gr_app, gr_0, gr_S] <;> omega) | fail) only [r23_0, r23_1, r23_2, r23_3, r23_4, l23_5, c23, rs23, gc23, hld, hld2, t0, t1, t2, t4, hlt', hlen, hmin, h3, hc, hin, go_sem, ↓reduceIte, Nat.reduceLT, Nat.reduceEqDiff, Nat.reduceAdd, Nat.reduceMul, Nat.reduceSub, Int.reduceAdd, Int.reduceSub, Nat.reduceLeDiff, Int.reduceLT, Int.reduceLE, Int.reduceEq, Int.reduceNeg, Int.reduceToNat, hy])
      exact ⟨l.length - (k + 1) * n, by rw [hS]; omega, k + 1, rfl, by rw [hS]; omega, hc1 rfl, by rw [hS]⟩
    | false =>
      simp (disch := first | rfl | omega | exact lt_new _ | assumption | decide | (simp [tk_here, tk_app, tk_0, tk_S, gr_here, gr_app, gr_0, gr_S] <;> omega) | fail) only [r23_0, r23_1, r23_2, r23_3, r23_4, l23_5, c23, rs23, gc23, hld, hld2, t0, t1, t2, t4, hlt', hlen, hmin, h3, hc, go_sem, ↓reduceIte, Nat.reduceLT, Nat.reduceEqDiff, Nat.reduceAdd, Nat.reduceMul, Nat.reduceSub, Int.reduceAdd, Int.reduceSub, Nat.reduceLeDiff, Int.reduceLT, Int.reduceLE, Int.reduceEq, Int.reduceNeg, Int.reduceToNat]
      repeat' ((first | refine guardB_dec (fun hy => ?_) (fun hy => ?_) | refine guardB_bool (fun hy => ?_) (fun hy => ?_) | refine guardQ_ite (fun hy => ?_) (fun hy => ?_) | refine brQ_dec (fun hy => ?_) (fun hy => ?_) | refine brQ_bool (fun hy => ?_) (fun hy => ?_)) <;> (try simp only [Bool.not_eq_true', Bool.not_eq_false', Bool.and_eq_true, Bool.or_eq_false_iff, decide_eq_true_eq, decide_eq_false_iff_not] at hy) <;> simp (disch := first | rfl | omega | exact lt_new _ | assumption | decide | (simp [tk_here, tk_app, tk_0, tk_S, gr_here, gr_app, gr_0, gr_S] <;> omega) | fail) only [r23_0, r23_1, r23_2, r23_3, r23_4, l23_5, c23, rs23, gc23, hld, hld2, t0, t1, t2, t4, hlt', hlen, hmin, h3, hc, go_sem, ↓reduceIte, Nat.reduceLT, Nat.reduceEqDiff, Nat.reduceAdd, Nat.reduceMul, Nat.reduceSub, Int.reduceAdd, Int.reduceSub, Nat.reduceLeDiff, Int.reduceLT, Int.reduceLE, Int.reduceEq, Int.reduceNeg, Int.reduceToNat, hy])
      exact ⟨_, rfl, .inr (hc2 rfl)⟩
  · have hlt' : ¬ ((k * n : Nat) : Int) < l.length := by omega
    simp (disch := first | rfl | omega | exact lt_new _ | assumption | decide | (simp [tk_here, tk_app, tk_0, tk_S, gr_here, gr_app, gr_0, gr_S] <;> omega) | fail) only [r23_0, r23_1, r23_2, r23_3, r23_4, l23_5, c23, rs23, gc23, hld, hld2, t0, t1, t2, t4, hlt', go_sem, ↓reduceIte, Nat.reduceLT, Nat.reduceEqDiff, Nat.reduceAdd, Nat.reduceMul, Nat.reduceSub, Int.reduceAdd, Int.reduceSub, Nat.reduceLeDiff, Int.reduceLT, Int.reduceLE, Int.reduceEq, Int.reduceNeg, Int.reduceToNat]
    repeat' ((first | refine guardB_dec (fun hy => ?_) (fun hy => ?_) | refine guardB_bool (fun hy => ?_) (fun hy => ?_) | refine guardQ_ite (fun hy => ?_) (fun hy => ?_) | refine brQ_dec (fun hy => ?_) (fun hy => ?_) | refine brQ_bool (fun hy => ?_) (fun hy => ?_)) <;> (try simp only [Bool.not_eq_true', Bool.not_eq_false', Bool.and_eq_true, Bool.or_eq_false_iff, decide_eq_true_eq, decide_eq_false_iff_not] at hy) <;> simp (disch := first | rfl | omega | exact lt_new _ | assumption | decide | (simp [tk_here, tk_app, tk_0, tk_S, gr_here, gr_app, gr_0, gr_S] <;> omega) | fail) only [r23_0, r23_1, r23_2, r23_3, r23_4, l23_5, c23, rs23, gc23, hld, hld2, t0, t1, t2, t4, hlt', go_sem, ↓reduceIte, Nat.reduceLT, Nat.reduceEqDiff, Nat.reduceAdd, Nat.reduceMul, Nat.reduceSub, Int.reduceAdd, Int.reduceSub, Nat.reduceLeDiff, Int.reduceLT, Int.reduceLE, Int.reduceEq, Int.reduceNeg, Int.reduceToNat, hy])
    exact ⟨_, rfl, .inl ⟨k, by omega, hk, hJ⟩⟩
end Go.Proofs.Ytlkeomoleecfeaa
/-
  Bytes cut into segments, as the reference has it; walked. No statement of the seat stands here.
-/
namespace Go.Proofs.Ytlkeomoleecfeaa
open Go Go.An
set_option maxRecDepth 4000
set_option linter.unusedSimpArgs false
set_option linter.unusedVariables false

def sgC (dir seq : Int) (l : List UInt8) (n : Nat) (time : Int) (k : Nat) : Sg := ⟨dir, (seq + (k * n : Nat)).tmod 4294967296, 0, 16, false, chk l n k, time⟩
def cutS (dir seq : Int) (l : List UInt8) (n : Nat) (time : Int) : Nat → List Sg
  | 0 => []
  | k + 1 => cutS dir seq l n time k ++ [sgC dir seq l n time k]
theorem cutS_len (dir seq : Int) (l : List UInt8) (n : Nat) (time : Int) : ∀ k, (cutS dir seq l n time k).length = k
  | 0 => rfl
  | k + 1 => by simp [cutS, cutS_len dir seq l n time k]
/-- How many pieces. -/
def cutN (l : List UInt8) (n : Nat) : Nat := (l.length + n - 1) / n
theorem cutN_of {l : List UInt8} {n k : Nat} (hn : 1 ≤ n) (h1 : l.length ≤ k * n) (h2 : k * n < l.length + n) : k = cutN l n := by
  unfold cutN
  rw [eq_comm, Nat.div_eq_iff (by omega)]
  constructor
  · omega
  · omega
def cutR (dir seq : Int) (l : List UInt8) (size time : Int) : List Sg × Int :=
  if size < 1 ∨ 400 < size ∨ okC dir seq time = false then ([], 1) else if 200 < cutN l size.toNat then ([], 3) else (cutS dir seq l size.toNat time (cutN l size.toNat), 0)
theorem fn14 (d : Int) (H : Hp) : callL Try.prog pr 14 [.int .i64 d] H = some (.bool (decide (0 ≤ d) && decide (d ≤ 1)), H) := by
  refine run14 (Nat.le_of_ble_eq_true rfl) ?_
  by_cases h0 : d = 0
  · subst h0
    simp (disch := first | rfl | omega | exact lt_new _ | assumption | decide | (simp [tk_here, tk_app, tk_0, tk_S, gr_here, gr_app, gr_0, gr_S] <;> omega) | fail) only [r14_0, r14_1, c14, rs14, gc14, go_sem, ↓reduceIte, Nat.reduceLT, Nat.reduceEqDiff, Nat.reduceAdd, Nat.reduceMul, Nat.reduceSub, Int.reduceAdd, Int.reduceSub, Nat.reduceLeDiff, Int.reduceLT, Int.reduceLE, Int.reduceEq, Int.reduceNeg, Int.reduceToNat]
    repeat' ((first | refine guardB_dec (fun hy => ?_) (fun hy => ?_) | refine guardB_bool (fun hy => ?_) (fun hy => ?_) | refine guardQ_ite (fun hy => ?_) (fun hy => ?_) | refine brQ_dec (fun hy => ?_) (fun hy => ?_) | refine brQ_bool (fun hy => ?_) (fun hy => ?_)) <;> (try simp only [Bool.not_eq_true', Bool.not_eq_false', Bool.and_eq_true, Bool.or_eq_false_iff, decide_eq_true_eq, decide_eq_false_iff_not] at hy) <;> simp (disch := first | rfl | omega | exact lt_new _ | assumption | decide | (simp [tk_here, tk_app, tk_0, tk_S, gr_here, gr_app, gr_0, gr_S] <;> omega) | fail) only [r14_0, r14_1, c14, rs14, gc14, go_sem, ↓reduceIte, Nat.reduceLT, Nat.reduceEqDiff, Nat.reduceAdd, Nat.reduceMul, Nat.reduceSub, Int.reduceAdd, Int.reduceSub, Nat.reduceLeDiff, Int.reduceLT, Int.reduceLE, Int.reduceEq, Int.reduceNeg, Int.reduceToNat, hy])
    all_goals (try ((first | refine finQ_same ?_ | refine finQ_app ?_ | (rw [List.append_assoc]; refine finQ_app ?_)) <;> simp (disch := first | rfl | omega | exact lt_new _ | assumption | decide | (simp [tk_here, tk_app, tk_0, tk_S, gr_here, gr_app, gr_0, gr_S] <;> omega) | fail) only [go_sem, ↓reduceIte, Nat.reduceLT, Nat.reduceEqDiff, Nat.reduceAdd, Nat.reduceMul, Nat.reduceSub, Int.reduceAdd, Int.reduceSub, Nat.reduceLeDiff, Int.reduceLT, Int.reduceLE, Int.reduceEq, Int.reduceNeg, Int.reduceToNat, List.append_assoc, List.cons_append, List.nil_append, *]))
    all_goals (try first | rfl | (simp [*]; done) | grind)
  by_cases h1 : d = 1
  · subst h1
    simp (disch := first | rfl | omega | exact lt_new _ | assumption | decide | (simp [tk_here, tk_app, tk_0, tk_S, gr_here, gr_app, gr_0, gr_S] <;> omega) | fail) only [r14_0, r14_1, c14, rs14, gc14, go_sem, ↓reduceIte, Nat.reduceLT, Nat.reduceEqDiff, Nat.reduceAdd, Nat.reduceMul, Nat.reduceSub, Int.reduceAdd, Int.reduceSub, Nat.reduceLeDiff, Int.reduceLT, Int.reduceLE, Int.reduceEq, Int.reduceNeg, Int.reduceToNat]
    repeat' ((first | refine guardB_dec (fun hy => ?_) (fun hy => ?_) | refine guardB_bool (fun hy => ?_) (fun hy => ?_) | refine guardQ_ite (fun hy => ?_) (fun hy => ?_) | refine brQ_dec (fun hy => ?_) (fun hy => ?_) | refine brQ_bool (fun hy => ?_) (fun hy => ?_)) <;> (try simp only [Bool.not_eq_true', Bool.not_eq_false', Bool.and_eq_true, Bool.or_eq_false_iff, decide_eq_true_eq, decide_eq_false_iff_not] at hy) <;> simp (disch := first | rfl | omega | exact lt_new _ | assumption | decide | (simp [tk_here, tk_app, tk_0, tk_S, gr_here, gr_app, gr_0, gr_S] <;> omega) | fail) only [r14_0, r14_1, c14, rs14, gc14, go_sem, ↓reduceIte, Nat.reduceLT, Nat.reduceEqDiff, Nat.reduceAdd, Nat.reduceMul, Nat.reduceSub, Int.reduceAdd, Int.reduceSub, Nat.reduceLeDiff, Int.reduceLT, Int.reduceLE, Int.reduceEq, Int.reduceNeg, Int.reduceToNat, hy])
    all_goals (try ((first | refine finQ_same ?_ | refine finQ_app ?_ | (rw [List.append_assoc]; refine finQ_app ?_)) <;> simp (disch := first | rfl | omega | exact lt_new _ | assumption | decide | (simp [tk_here, tk_app, tk_0, tk_S, gr_here, gr_app, gr_0, gr_S] <;> omega) | fail) only [go_sem, ↓reduceIte, Nat.reduceLT, Nat.reduceEqDiff, Nat.reduceAdd, Nat.reduceMul, Nat.reduceSub, Int.reduceAdd, Int.reduceSub, Nat.reduceLeDiff, Int.reduceLT, Int.reduceLE, Int.reduceEq, Int.reduceNeg, Int.reduceToNat, List.append_assoc, List.cons_append, List.nil_append, *]))
    all_goals (try first | rfl | (simp [*]; done) | grind)
  have e : (decide (0 ≤ d) && decide (d ≤ 1)) = false := by simp; omega
  rw [e]
  simp (disch := first | rfl | omega | exact lt_new _ | assumption | decide | (simp [tk_here, tk_app, tk_0, tk_S, gr_here, gr_app, gr_0, gr_S] <;> omega) | fail) only [r14_0, r14_1, c14, rs14, gc14, h0, h1, go_sem, ↓reduceIte, Nat.reduceLT, Nat.reduceEqDiff, Nat.reduceAdd, Nat.reduceMul, Nat.reduceSub, Int.reduceAdd, Int.reduceSub, Nat.reduceLeDiff, Int.reduceLT, Int.reduceLE, Int.reduceEq, Int.reduceNeg, Int.reduceToNat]
  repeat' ((first | refine guardB_dec (fun hy => ?_) (fun hy => ?_) | refine guardB_bool (fun hy => ?_) (fun hy => ?_) | refine guardQ_ite (fun hy => ?_) (fun hy => ?_) | refine brQ_dec (fun hy => ?_) (fun hy => ?_) | refine brQ_bool (fun hy => ?_) (fun hy => ?_)) <;> (try simp only [Bool.not_eq_true', Bool.not_eq_false', Bool.and_eq_true, Bool.or_eq_false_iff, decide_eq_true_eq, decide_eq_false_iff_not] at hy) <;> simp (disch := first | rfl | omega | exact lt_new _ | assumption | decide | (simp [tk_here, tk_app, tk_0, tk_S, gr_here, gr_app, gr_0, gr_S] <;> omega) | fail) only [r14_0, r14_1, c14, rs14, gc14, h0, h1, go_sem, ↓reduceIte, Nat.reduceLT, Nat.reduceEqDiff, Nat.reduceAdd, Nat.reduceMul, Nat.reduceSub, Int.reduceAdd, Int.reduceSub, Nat.reduceLeDiff, Int.reduceLT, Int.reduceLE, Int.reduceEq, Int.reduceNeg, Int.reduceToNat, hy])
  all_goals (try ((first | refine finQ_same ?_ | refine finQ_app ?_ | (rw [List.append_assoc]; refine finQ_app ?_)) <;> simp (disch := first | rfl | omega | exact lt_new _ | assumption | decide | (simp [tk_here, tk_app, tk_0, tk_S, gr_here, gr_app, gr_0, gr_S] <;> omega) | fail) only [go_sem, ↓reduceIte, Nat.reduceLT, Nat.reduceEqDiff, Nat.reduceAdd, Nat.reduceMul, Nat.reduceSub, Int.reduceAdd, Int.reduceSub, Nat.reduceLeDiff, Int.reduceLT, Int.reduceLE, Int.reduceEq, Int.reduceNeg, Int.reduceToNat, List.append_assoc, List.cons_append, List.nil_append, *]))
  all_goals (try first | rfl | (simp [*]; done) | grind)
theorem slV_tf {l : List UInt8} (h : 0 < l.length) : slV true byE l = slV false byE l := by rw [slV_some h, slV_some h]
set_option maxHeartbeats 8000000 in
theorem fn6 (dir seq : Int) (b : Bool) (l : List UInt8) (size time : Int) (hl : l.length ≤ 2 ^ 40) (H : Hp) : callL Try.prog pr 6 [.int .i64 dir, .int .i64 seq, slV b byE l, .int .i64 size, .int .i64 time] H = some (.tup [slV true sgE (cutR dir seq l size time).1, .int .i64 (cutR dir seq l size time).2], H) := by
  have h14 := fn14 dir
  refine run6 (Nat.le_of_ble_eq_true rfl) ?_
  have bad : ∀ h : size < 1 ∨ 400 < size ∨ okC dir seq time = false, cutR dir seq l size time = ([], 1) := fun h => if_pos h
  by_cases g1 : (decide (0 ≤ dir) && decide (dir ≤ 1)) = false
  · rw [bad (.inr (.inr (by unfold okC; rw [g1]; rfl)))]
    rw [g1] at h14
    simp (disch := first | rfl | omega | exact lt_new _ | assumption | decide | (simp [tk_here, tk_app, tk_0, tk_S, gr_here, gr_app, gr_0, gr_S] <;> omega) | fail) only [r6_0, r6_1, r6_2, r6_3, r6_4, r6_5, r6_6, r6_7, r6_8, r6_9, r6_10, r6_12, c6, rs6, gc6, h14, slV_nil, go_sem, ↓reduceIte, Nat.reduceLT, Nat.reduceEqDiff, Nat.reduceAdd, Nat.reduceMul, Nat.reduceSub, Int.reduceAdd, Int.reduceSub, Nat.reduceLeDiff, Int.reduceLT, Int.reduceLE, Int.reduceEq, Int.reduceNeg, Int.reduceToNat]
    repeat' ((first | refine guardB_dec (fun hy => ?_) (fun hy => ?_) | refine guardB_bool (fun hy => ?_) (fun hy => ?_) | refine guardQ_ite (fun hy => ?_) (fun hy => ?_) | refine brQ_dec (fun hy => ?_) (fun hy => ?_) | refine brQ_bool (fun hy => ?_) (fun hy => ?_)) <;> (try simp only [Bool.not_eq_true', Bool.not_eq_false', Bool.and_eq_true, Bool.or_eq_false_iff, decide_eq_true_eq, decide_eq_false_iff_not] at hy) <;> simp (disch := first | rfl | omega | exact lt_new _ | assumption | decide | (simp [tk_here, tk_app, tk_0, tk_S, gr_here, gr_app, gr_0, gr_S] <;> omega) | fail) only [r6_0, r6_1, r6_2, r6_3, r6_4, r6_5, r6_6, r6_7, r6_8, r6_9, r6_10, r6_12, c6, rs6, gc6, h14, slV_nil, go_sem, ↓reduceIte, Nat.reduceLT, Nat.reduceEqDiff, Nat.reduceAdd, Nat.reduceMul, Nat.reduceSub, Int.reduceAdd, Int.reduceSub, Nat.reduceLeDiff, Int.reduceLT, Int.reduceLE, Int.reduceEq, Int.reduceNeg, Int.reduceToNat, hy])
    all_goals (try ((first | refine finQ_same ?_ | refine finQ_app ?_ | (rw [List.append_assoc]; refine finQ_app ?_)) <;> simp (disch := first | rfl | omega | exact lt_new _ | assumption | decide | (simp [tk_here, tk_app, tk_0, tk_S, gr_here, gr_app, gr_0, gr_S] <;> omega) | fail) only [go_sem, ↓reduceIte, Nat.reduceLT, Nat.reduceEqDiff, Nat.reduceAdd, Nat.reduceMul, Nat.reduceSub, Int.reduceAdd, Int.reduceSub, Nat.reduceLeDiff, Int.reduceLT, Int.reduceLE, Int.reduceEq, Int.reduceNeg, Int.reduceToNat, List.append_assoc, List.cons_append, List.nil_append, *]))
    all_goals (try first | rfl | (simp [*]; done) | grind)
  rw [Bool.not_eq_false] at g1
  rw [g1] at h14
  by_cases g2 : seq < 0
  · rw [bad (.inr (.inr (by simp [okC]; omega)))]
    simp (disch := first | rfl | omega | exact lt_new _ | assumption | decide | (simp [tk_here, tk_app, tk_0, tk_S, gr_here, gr_app, gr_0, gr_S] <;> omega) | fail) only [r6_0, r6_1, r6_2, r6_3, r6_4, r6_5, r6_6, r6_7, r6_8, r6_9, r6_10, r6_12, c6, rs6, gc6, h14, g2, slV_nil, go_sem, ↓reduceIte, Nat.reduceLT, Nat.reduceEqDiff, Nat.reduceAdd, Nat.reduceMul, Nat.reduceSub, Int.reduceAdd, Int.reduceSub, Nat.reduceLeDiff, Int.reduceLT, Int.reduceLE, Int.reduceEq, Int.reduceNeg, Int.reduceToNat]
    repeat' ((first | refine guardB_dec (fun hy => ?_) (fun hy => ?_) | refine guardB_bool (fun hy => ?_) (fun hy => ?_) | refine guardQ_ite (fun hy => ?_) (fun hy => ?_) | refine brQ_dec (fun hy => ?_) (fun hy => ?_) | refine brQ_bool (fun hy => ?_) (fun hy => ?_)) <;> (try simp only [Bool.not_eq_true', Bool.not_eq_false', Bool.and_eq_true, Bool.or_eq_false_iff, decide_eq_true_eq, decide_eq_false_iff_not] at hy) <;> simp (disch := first | rfl | omega | exact lt_new _ | assumption | decide | (simp [tk_here, tk_app, tk_0, tk_S, gr_here, gr_app, gr_0, gr_S] <;> omega) | fail) only [r6_0, r6_1, r6_2, r6_3, r6_4, r6_5, r6_6, r6_7, r6_8, r6_9, r6_10, r6_12, c6, rs6, gc6, h14, g2, slV_nil, go_sem, ↓reduceIte, Nat.reduceLT, Nat.reduceEqDiff, Nat.reduceAdd, Nat.reduceMul, Nat.reduceSub, Int.reduceAdd, Int.reduceSub, Nat.reduceLeDiff, Int.reduceLT, Int.reduceLE, Int.reduceEq, Int.reduceNeg, Int.reduceToNat, hy])
    all_goals (try ((first | refine finQ_same ?_ | refine finQ_app ?_ | (rw [List.append_assoc]; refine finQ_app ?_)) <;> simp (disch := first | rfl | omega | exact lt_new _ | assumption | decide | (simp [tk_here, tk_app, tk_0, tk_S, gr_here, gr_app, gr_0, gr_S] <;> omega) | fail) only [go_sem, ↓reduceIte, Nat.reduceLT, Nat.reduceEqDiff, Nat.reduceAdd, Nat.reduceMul, Nat.reduceSub, Int.reduceAdd, Int.reduceSub, Nat.reduceLeDiff, Int.reduceLT, Int.reduceLE, Int.reduceEq, Int.reduceNeg, Int.reduceToNat, List.append_assoc, List.cons_append, List.nil_append, *]))
    all_goals (try first | rfl | (simp [*]; done) | grind)
  by_cases g3 : 4294967296 ≤ seq
  · rw [bad (.inr (.inr (by simp [okC]; omega)))]
    simp (disch := first | rfl | omega | exact lt_new _ | assumption | decide | (simp [tk_here, tk_app, tk_0, tk_S, gr_here, gr_app, gr_0, gr_S] <;> omega) | fail) only [r6_0, r6_1, r6_2, r6_3, r6_4, r6_5, r6_6, r6_7, r6_8, r6_9, r6_10, r6_12, c6, rs6, gc6, h14, g2, g3, slV_nil, go_sem, ↓reduceIte, Nat.reduceLT, Nat.reduceEqDiff, Nat.reduceAdd, Nat.reduceMul, Nat.reduceSub, Int.reduceAdd, Int.reduceSub, Nat.reduceLeDiff, Int.reduceLT, Int.reduceLE, Int.reduceEq, Int.reduceNeg, Int.reduceToNat]
    repeat' ((first | refine guardB_dec (fun hy => ?_) (fun hy => ?_) | refine guardB_bool (fun hy => ?_) (fun hy => ?_) | refine guardQ_ite (fun hy => ?_) (fun hy => ?_) | refine brQ_dec (fun hy => ?_) (fun hy => ?_) | refine brQ_bool (fun hy => ?_) (fun hy => ?_)) <;> (try simp only [Bool.not_eq_true', Bool.not_eq_false', Bool.and_eq_true, Bool.or_eq_false_iff, decide_eq_true_eq, decide_eq_false_iff_not] at hy) <;> simp (disch := first | rfl | omega | exact lt_new _ | assumption | decide | (simp [tk_here, tk_app, tk_0, tk_S, gr_here, gr_app, gr_0, gr_S] <;> omega) | fail) only [r6_0, r6_1, r6_2, r6_3, r6_4, r6_5, r6_6, r6_7, r6_8, r6_9, r6_10, r6_12, c6, rs6, gc6, h14, g2, g3, slV_nil, go_sem, ↓reduceIte, Nat.reduceLT, Nat.reduceEqDiff, Nat.reduceAdd, Nat.reduceMul, Nat.reduceSub, Int.reduceAdd, Int.reduceSub, Nat.reduceLeDiff, Int.reduceLT, Int.reduceLE, Int.reduceEq, Int.reduceNeg, Int.reduceToNat, hy])
    all_goals (try ((first | refine finQ_same ?_ | refine finQ_app ?_ | (rw [List.append_assoc]; refine finQ_app ?_)) <;> simp (disch := first | rfl | omega | exact lt_new _ | assumption | decide | (simp [tk_here, tk_app, tk_0, tk_S, gr_here, gr_app, gr_0, gr_S] <;> omega) | fail) only [go_sem, ↓reduceIte, Nat.reduceLT, Nat.reduceEqDiff, Nat.reduceAdd, Nat.reduceMul, Nat.reduceSub, Int.reduceAdd, Int.reduceSub, Nat.reduceLeDiff, Int.reduceLT, Int.reduceLE, Int.reduceEq, Int.reduceNeg, Int.reduceToNat, List.append_assoc, List.cons_append, List.nil_append, *]))
    all_goals (try first | rfl | (simp [*]; done) | grind)
  by_cases g4 : size < 1
  · rw [bad (.inl g4)]
    simp (disch := first | rfl | omega | exact lt_new _ | assumption | decide | (simp [tk_here, tk_app, tk_0, tk_S, gr_here, gr_app, gr_0, gr_S] <;> omega) | fail) only [r6_0, r6_1, r6_2, r6_3, r6_4, r6_5, r6_6, r6_7, r6_8, r6_9, r6_10, r6_12, c6, rs6, gc6, h14, g2, g3, g4, slV_nil, go_sem, ↓reduceIte, Nat.reduceLT, Nat.reduceEqDiff, Nat.reduceAdd, Nat.reduceMul, Nat.reduceSub, Int.reduceAdd, Int.reduceSub, Nat.reduceLeDiff, Int.reduceLT, Int.reduceLE, Int.reduceEq, Int.reduceNeg, Int.reduceToNat]
    repeat' ((first | refine guardB_dec (fun hy => ?_) (fun hy => ?_) | refine guardB_bool (fun hy => ?_) (fun hy => ?_) | refine guardQ_ite (fun hy => ?_) (fun hy => ?_) | refine brQ_dec (fun hy => ?_) (fun hy => ?_) | refine brQ_bool (fun hy => ?_) (fun hy => ?_)) <;> (try simp only [Bool.not_eq_true', Bool.not_eq_false', Bool.and_eq_true, Bool.or_eq_false_iff, decide_eq_true_eq, decide_eq_false_iff_not] at hy) <;> simp (disch := first | rfl | omega | exact lt_new _ | assumption | decide | (simp [tk_here, tk_app, tk_0, tk_S, gr_here, gr_app, gr_0, gr_S] <;> omega) | fail) only [r6_0, r6_1, r6_2, r6_3, r6_4, r6_5, r6_6, r6_7, r6_8, r6_9, r6_10, r6_12, c6, rs6, gc6, h14, g2, g3, g4, slV_nil, go_sem, ↓reduceIte, Nat.reduceLT, Nat.reduceEqDiff, Nat.reduceAdd, Nat.reduceMul, Nat.reduceSub, Int.reduceAdd, Int.reduceSub, Nat.reduceLeDiff, Int.reduceLT, Int.reduceLE, Int.reduceEq, Int.reduceNeg, Int.reduceToNat, hy])
    all_goals (try ((first | refine finQ_same ?_ | refine finQ_app ?_ | (rw [List.append_assoc]; refine finQ_app ?_)) <;> simp (disch := first | rfl | omega | exact lt_new _ | assumption | decide | (simp [tk_here, tk_app, tk_0, tk_S, gr_here, gr_app, gr_0, gr_S] <;> omega) | fail) only [go_sem, ↓reduceIte, Nat.reduceLT, Nat.reduceEqDiff, Nat.reduceAdd, Nat.reduceMul, Nat.reduceSub, Int.reduceAdd, Int.reduceSub, Nat.reduceLeDiff, Int.reduceLT, Int.reduceLE, Int.reduceEq, Int.reduceNeg, Int.reduceToNat, List.append_assoc, List.cons_append, List.nil_append, *]))
    all_goals (try first | rfl | (simp [*]; done) | grind)
  by_cases g5 : 400 < size
  · rw [bad (.inr (.inl g5))]
    simp (disch := first | rfl | omega | exact lt_new _ | assumption | decide | (simp [tk_here, tk_app, tk_0, tk_S, gr_here, gr_app, gr_0, gr_S] <;> omega) | fail) only [r6_0, r6_1, r6_2, r6_3, r6_4, r6_5, r6_6, r6_7, r6_8, r6_9, r6_10, r6_12, c6, rs6, gc6, h14, g2, g3, g4, g5, slV_nil, go_sem, ↓reduceIte, Nat.reduceLT, Nat.reduceEqDiff, Nat.reduceAdd, Nat.reduceMul, Nat.reduceSub, Int.reduceAdd, Int.reduceSub, Nat.reduceLeDiff, Int.reduceLT, Int.reduceLE, Int.reduceEq, Int.reduceNeg, Int.reduceToNat]
    repeat' ((first | refine guardB_dec (fun hy => ?_) (fun hy => ?_) | refine guardB_bool (fun hy => ?_) (fun hy => ?_) | refine guardQ_ite (fun hy => ?_) (fun hy => ?_) | refine brQ_dec (fun hy => ?_) (fun hy => ?_) | refine brQ_bool (fun hy => ?_) (fun hy => ?_)) <;> (try simp only [Bool.not_eq_true', Bool.not_eq_false', Bool.and_eq_true, Bool.or_eq_false_iff, decide_eq_true_eq, decide_eq_false_iff_not] at hy) <;> simp (disch := first | rfl | omega | exact lt_new _ | assumption | decide | (simp [tk_here, tk_app, tk_0, tk_S, gr_here, gr_app, gr_0, gr_S] <;> omega) | fail) only [r6_0, r6_1, r6_2, r6_3, r6_4, r6_5, r6_6, r6_7, r6_8, r6_9, r6_10, r6_12, c6, rs6, gc6, h14, g2, g3, g4, g5, slV_nil, go_sem, ↓reduceIte, Nat.reduceLT, Nat.reduceEqDiff, Nat.reduceAdd, Nat.reduceMul, Nat.reduceSub, Int.reduceAdd, Int.reduceSub, Nat.reduceLeDiff, Int.reduceLT, Int.reduceLE, Int.reduceEq, Int.reduceNeg, Int.reduceToNat, hy])
    all_goals (try ((first | refine finQ_same ?_ | refine finQ_app ?_ | (rw [List.append_assoc]; refine finQ_app ?_)) <;> simp (disch := first | rfl | omega | exact lt_new _ | assumption | decide | (simp [tk_here, tk_app, tk_0, tk_S, gr_here, gr_app, gr_0, gr_S] <;> omega) | fail) only [go_sem, ↓reduceIte, Nat.reduceLT, Nat.reduceEqDiff, Nat.reduceAdd, Nat.reduceMul, Nat.reduceSub, Int.reduceAdd, Int.reduceSub, Nat.reduceLeDiff, Int.reduceLT, Int.reduceLE, Int.reduceEq, Int.reduceNeg, Int.reduceToNat, List.append_assoc, List.cons_append, List.nil_append, *]))
    all_goals (try first | rfl | (simp [*]; done) | grind)
  by_cases g6 : time < 0
  · rw [bad (.inr (.inr (by simp [okC]; omega)))]
    simp (disch := first | rfl | omega | exact lt_new _ | assumption | decide | (simp [tk_here, tk_app, tk_0, tk_S, gr_here, gr_app, gr_0, gr_S] <;> omega) | fail) only [r6_0, r6_1, r6_2, r6_3, r6_4, r6_5, r6_6, r6_7, r6_8, r6_9, r6_10, r6_12, c6, rs6, gc6, h14, g2, g3, g4, g5, g6, slV_nil, go_sem, ↓reduceIte, Nat.reduceLT, Nat.reduceEqDiff, Nat.reduceAdd, Nat.reduceMul, Nat.reduceSub, Int.reduceAdd, Int.reduceSub, Nat.reduceLeDiff, Int.reduceLT, Int.reduceLE, Int.reduceEq, Int.reduceNeg, Int.reduceToNat]
    repeat' ((first | refine guardB_dec (fun hy => ?_) (fun hy => ?_) | refine guardB_bool (fun hy => ?_) (fun hy => ?_) | refine guardQ_ite (fun hy => ?_) (fun hy => ?_) | refine brQ_dec (fun hy => ?_) (fun hy => ?_) | refine brQ_bool (fun hy => ?_) (fun hy => ?_)) <;> (try simp only [Bool.not_eq_true', Bool.not_eq_false', Bool.and_eq_true, Bool.or_eq_false_iff, decide_eq_true_eq, decide_eq_false_iff_not] at hy) <;> simp (disch := first | rfl | omega | exact lt_new _ | assumption | decide | (simp [tk_here, tk_app, tk_0, tk_S, gr_here, gr_app, gr_0, gr_S] <;> omega) | fail) only [r6_0, r6_1, r6_2, r6_3, r6_4, r6_5, r6_6, r6_7, r6_8, r6_9, r6_10, r6_12, c6, rs6, gc6, h14, g2, g3, g4, g5, g6, slV_nil, go_sem, ↓reduceIte, Nat.reduceLT, Nat.reduceEqDiff, Nat.reduceAdd, Nat.reduceMul, Nat.reduceSub, Int.reduceAdd, Int.reduceSub, Nat.reduceLeDiff, Int.reduceLT, Int.reduceLE, Int.reduceEq, Int.reduceNeg, Int.reduceToNat, hy])
    all_goals (try ((first | refine finQ_same ?_ | refine finQ_app ?_ | (rw [List.append_assoc]; refine finQ_app ?_)) <;> simp (disch := first | rfl | omega | exact lt_new _ | assumption | decide | (simp [tk_here, tk_app, tk_0, tk_S, gr_here, gr_app, gr_0, gr_S] <;> omega) | fail) only [go_sem, ↓reduceIte, Nat.reduceLT, Nat.reduceEqDiff, Nat.reduceAdd, Nat.reduceMul, Nat.reduceSub, Int.reduceAdd, Int.reduceSub, Nat.reduceLeDiff, Int.reduceLT, Int.reduceLE, Int.reduceEq, Int.reduceNeg, Int.reduceToNat, List.append_assoc, List.cons_append, List.nil_append, *]))
    all_goals (try first | rfl | (simp [*]; done) | grind)
  by_cases g7 : 1000000000000000 < time
  · rw [bad (.inr (.inr (by simp [okC]; omega)))]
    simp (disch := first | rfl | omega | exact lt_new _ | assumption | decide | (simp [tk_here, tk_app, tk_0, tk_S, gr_here, gr_app, gr_0, gr_S] <;> omega) | fail) only [r6_0, r6_1, r6_2, r6_3, r6_4, r6_5, r6_6, r6_7, r6_8, r6_9, r6_10, r6_12, c6, rs6, gc6, h14, g2, g3, g4, g5, g6, g7, slV_nil, go_sem, ↓reduceIte, Nat.reduceLT, Nat.reduceEqDiff, Nat.reduceAdd, Nat.reduceMul, Nat.reduceSub, Int.reduceAdd, Int.reduceSub, Nat.reduceLeDiff, Int.reduceLT, Int.reduceLE, Int.reduceEq, Int.reduceNeg, Int.reduceToNat]
    repeat' ((first | refine guardB_dec (fun hy => ?_) (fun hy => ?_) | refine guardB_bool (fun hy => ?_) (fun hy => ?_) | refine guardQ_ite (fun hy => ?_) (fun hy => ?_) | refine brQ_dec (fun hy => ?_) (fun hy => ?_) | refine brQ_bool (fun hy => ?_) (fun hy => ?_)) <;> (try simp only [Bool.not_eq_true', Bool.not_eq_false', Bool.and_eq_true, Bool.or_eq_false_iff, decide_eq_true_eq, decide_eq_false_iff_not] at hy) <;> simp (disch := first | rfl | omega | exact lt_new _ | assumption | decide | (simp [tk_here, tk_app, tk_0, tk_S, gr_here, gr_app, gr_0, gr_S] <;> omega) | fail) only [r6_0, r6_1, r6_2, r6_3, r6_4, r6_5, r6_6, r6_7, r6_8, r6_9, r6_10, r6_12, c6, rs6, gc6, h14, g2, g3, g4, g5, g6, g7, slV_nil, go_sem, ↓reduceIte, Nat.reduceLT, Nat.reduceEqDiff, Nat.reduceAdd, Nat.reduceMul, Nat.reduceSub, Int.reduceAdd, Int.reduceSub, Nat.reduceLeDiff, Int.reduceLT, Int.reduceLE, Int.reduceEq, Int.reduceNeg, Int.reduceToNat, hy])
    all_goals (try ((first | refine finQ_same ?_ | refine finQ_app ?_ | (rw [List.append_assoc]; refine finQ_app ?_)) <;> simp (disch := first | rfl | omega | exact lt_new _ | assumption | decide | (simp [tk_here, tk_app, tk_0, tk_S, gr_here, gr_app, gr_0, gr_S] <;> omega) | fail) only [go_sem, ↓reduceIte, Nat.reduceLT, Nat.reduceEqDiff, Nat.reduceAdd, Nat.reduceMul, Nat.reduceSub, Int.reduceAdd, Int.reduceSub, Nat.reduceLeDiff, Int.reduceLT, Int.reduceLE, Int.reduceEq, Int.reduceNeg, Int.reduceToNat, List.append_assoc, List.cons_append, List.nil_append, *]))
    all_goals (try first | rfl | (simp [*]; done) | grind)
  have hok : okC dir seq time = true := by simp at g1; simp [okC]; omega
  obtain ⟨n, rfl⟩ : ∃ n : Nat, size = n := ⟨size.toNat, by omega⟩
  have hcN : ((l.length : Int) + n - 1).tdiv n = (cutN l n : Int) := by
    unfold cutN
    have e : (l.length : Int) + n - 1 = ((l.length + n - 1 : Nat) : Int) := by omega
    rw [e]
    rfl
  have hcb : cutN l n ≤ l.length + n := by unfold cutN; have := Nat.div_le_self (l.length + n - 1) n; omega
  have hw : IntKind.i64.wrap (((l.length : Int) + n - 1).tdiv n) = (cutN l n : Int) := by rw [hcN]; exact IntWalk.i64_in _ (by omega)
  have hn0 : ¬ (n : Int) = 0 := by omega
  unfold cutR
  rw [if_neg (by simp [hok]; omega), Int.toNat_natCast]
  by_cases g8 : 200 < cutN l n
  · rw [if_pos g8]
    have g8' : (200 : Int) < cutN l n := by omega
    simp (disch := first | rfl | omega | exact lt_new _ | assumption | decide | (simp [tk_here, tk_app, tk_0, tk_S, gr_here, gr_app, gr_0, gr_S] <;> omega) | fail) only [r6_0, r6_1, r6_2, r6_3, r6_4, r6_5, r6_6, r6_7, r6_8, r6_9, r6_10, r6_12, c6, rs6, gc6, h14, g2, g3, g4, g5, g6, g7, hn0, hw, g8', slV_nil, go_sem, ↓reduceIte, Nat.reduceLT, Nat.reduceEqDiff, Nat.reduceAdd, Nat.reduceMul, Nat.reduceSub, Int.reduceAdd, Int.reduceSub, Nat.reduceLeDiff, Int.reduceLT, Int.reduceLE, Int.reduceEq, Int.reduceNeg, Int.reduceToNat]
    repeat' ((first | refine guardB_dec (fun hy => ?_) (fun hy => ?_) | refine guardB_bool (fun hy => ?_) (fun hy => ?_) | refine guardQ_ite (fun hy => ?_) (fun hy => ?_) | refine brQ_dec (fun hy => ?_) (fun hy => ?_) | refine brQ_bool (fun hy => ?_) (fun hy => ?_)) <;> (try simp only [Bool.not_eq_true', Bool.not_eq_false', Bool.and_eq_true, Bool.or_eq_false_iff, decide_eq_true_eq, decide_eq_false_iff_not] at hy) <;> simp (disch := first | rfl | omega | exact lt_new _ | assumption | decide | (simp [tk_here, tk_app, tk_0, tk_S, gr_here, gr_app, gr_0, gr_S] <;> omega) | fail) only [r6_0, r6_1, r6_2, r6_3, r6_4, r6_5, r6_6, r6_7, r6_8, r6_9, r6_10, r6_12, c6, rs6, gc6, h14, g2, g3, g4, g5, g6, g7, hn0, hw, g8', slV_nil, go_sem, ↓reduceIte, Nat.reduceLT, Nat.reduceEqDiff, Nat.reduceAdd, Nat.reduceMul, Nat.reduceSub, Int.reduceAdd, Int.reduceSub, Nat.reduceLeDiff, Int.reduceLT, Int.reduceLE, Int.reduceEq, Int.reduceNeg, Int.reduceToNat, hy])
    all_goals (try ((first | refine finQ_same ?_ | refine finQ_app ?_ | (rw [List.append_assoc]; refine finQ_app ?_)) <;> simp (disch := first | rfl | omega | exact lt_new _ | assumption | decide | (simp [tk_here, tk_app, tk_0, tk_S, gr_here, gr_app, gr_0, gr_S] <;> omega) | fail) only [go_sem, ↓reduceIte, Nat.reduceLT, Nat.reduceEqDiff, Nat.reduceAdd, Nat.reduceMul, Nat.reduceSub, Int.reduceAdd, Int.reduceSub, Nat.reduceLeDiff, Int.reduceLT, Int.reduceLE, Int.reduceEq, Int.reduceNeg, Int.reduceToNat, List.append_assoc, List.cons_append, List.nil_append, *]))
    all_goals (try first | rfl | (simp [*]; done) | grind)
  rw [if_neg g8]
  have g8' : ¬ (200 : Int) < cutN l n := by omega
  simp (disch := first | rfl | omega | exact lt_new _ | assumption | decide | (simp [tk_here, tk_app, tk_0, tk_S, gr_here, gr_app, gr_0, gr_S] <;> omega) | fail) only [r6_0, r6_1, r6_2, r6_3, r6_4, r6_5, r6_6, r6_7, r6_8, r6_9, r6_10, r6_12, c6, rs6, gc6, h14, g2, g3, g4, g5, g6, g7, hn0, hw, g8', loadV_ptr, storeV_ptr, List.append_assoc, List.length_append, List.length_cons, List.length_nil, List.set_cons_zero, List.set_cons_succ, tk_here, tk_app, gr_here, gr_app, st_here, st_app, go_sem, ↓reduceIte, Nat.reduceLT, Nat.reduceEqDiff, Nat.reduceAdd, Nat.reduceMul, Nat.reduceSub, Int.reduceAdd, Int.reduceSub, Nat.reduceLeDiff, Int.reduceLT, Int.reduceLE, Int.reduceEq, Int.reduceNeg, Int.reduceToNat]
  repeat' ((first | refine guardB_dec (fun hy => ?_) (fun hy => ?_) | refine guardB_bool (fun hy => ?_) (fun hy => ?_) | refine guardQ_ite (fun hy => ?_) (fun hy => ?_) | refine brQ_dec (fun hy => ?_) (fun hy => ?_) | refine brQ_bool (fun hy => ?_) (fun hy => ?_)) <;> (try simp only [Bool.not_eq_true', Bool.not_eq_false', Bool.and_eq_true, Bool.or_eq_false_iff, decide_eq_true_eq, decide_eq_false_iff_not] at hy) <;> simp (disch := first | rfl | omega | exact lt_new _ | assumption | decide | (simp [tk_here, tk_app, tk_0, tk_S, gr_here, gr_app, gr_0, gr_S] <;> omega) | fail) only [r6_0, r6_1, r6_2, r6_3, r6_4, r6_5, r6_6, r6_7, r6_8, r6_9, r6_10, r6_12, c6, rs6, gc6, h14, g2, g3, g4, g5, g6, g7, hn0, hw, g8', loadV_ptr, storeV_ptr, List.append_assoc, List.length_append, List.length_cons, List.length_nil, List.set_cons_zero, List.set_cons_succ, tk_here, tk_app, gr_here, gr_app, st_here, st_app, go_sem, ↓reduceIte, Nat.reduceLT, Nat.reduceEqDiff, Nat.reduceAdd, Nat.reduceMul, Nat.reduceSub, Int.reduceAdd, Int.reduceSub, Nat.reduceLeDiff, Int.reduceLT, Int.reduceLE, Int.reduceEq, Int.reduceNeg, Int.reduceToNat, hy])
  refine Wp_loop (fun m T D H1 => ∃ k G, m = l.length - k * n ∧ k * n < l.length + n ∧ D = [] ∧ H1 = H ++ .tok ((cutS dir seq l n time k).length * 6) :: G ∧ get T 0 = .int .i64 dir ∧ get T 1 = .int .i64 seq ∧ get T 2 = slV b byE l ∧ get T 3 = .int .i64 (n : Int) ∧ get T 4 = .int .i64 time ∧ get T 12 = osV H.length sgE (cutS dir seq l n time k) ∧ get T 13 = .int .i64 ((k * n : Nat) : Int)) ?_ l.length _ _ _ ?_
  case refine_2 => exact ⟨0, [], by simp, by omega, by simp (disch := first | rfl | omega | exact lt_new _ | assumption | decide | (simp [tk_here, tk_app, tk_0, tk_S, gr_here, gr_app, gr_0, gr_S] <;> omega) | fail) only [go_sem, ↓reduceIte, Nat.reduceLT, Nat.reduceEqDiff, Nat.reduceAdd, Nat.reduceMul, Nat.reduceSub, Int.reduceAdd, Int.reduceSub, Nat.reduceLeDiff, Int.reduceLT, Int.reduceLE, Int.reduceEq, Int.reduceNeg, Int.reduceToNat, Nat.zero_mul, Int.natCast_zero]; simp [cutS, osV_nil]⟩
  rintro m T D H1 ⟨k, G, rfl, hk, rfl, rfl, t0, t1, t2, t3, t4, t12, t13⟩
  have hdl := cutS_len dir seq l n time k
  have hS : (k + 1) * n = k * n + n := by rw [Nat.add_mul, Nat.one_mul]
  by_cases hlt : k * n < l.length
  · have hdn : cutS dir seq l n time (k + 1) = cutS dir seq l n time k ++ [sgC dir seq l n time k] := rfl
    have hkb : k ≤ 200 := by
      refine Nat.le_trans ?_ (Nat.not_lt.1 g8)
      unfold cutN
      rw [Nat.le_div_iff_mul_le (by omega)]
      omega
    have hrec : sgE.f (sgC dir seq l n time k) = ([.int .i64 dir, .int .i64 ((seq + ((k * n : Nat) : Int)).tmod 4294967296), .int .i64 0, .int .i64 16, slV false byE (chk l n k), .int .i64 time] : List V) := rfl
    obtain ⟨i, hi⟩ : ∃ i, k * n = i := ⟨_, rfl⟩
    obtain ⟨e, he⟩ : ∃ e, min n (l.length - i) = e := ⟨_, rfl⟩
    have hck : chk l n k = (l.drop i).take e := by unfold chk; rw [hi, he]
    rw [hi] at t13 hlt hk hS hrec ⊢
    have hlt' : (i : Int) < l.length := by omega
    have hin : (i : Int) + (n : Int) = ((i + n : Nat) : Int) := by omega
    have hmin : (if (l.length : Int) < ((i + n : Nat) : Int) then (l.length : Int) else ((i + n : Nat) : Int)) = ((i + e : Nat) : Int) := by split <;> omega
    have hr : ([.int .i64 dir, .int .i64 ((seq + ((i : Nat) : Int)).tmod 4294967296), .int .i64 0, .int .i64 16, slV true byE ((l.drop i).take (i + e - i)), .int .i64 time] : List V) = sgE.f (sgC dir seq l n time k) := by
      rw [hrec, Nat.add_sub_cancel_left, hck, slV_tf]
      rw [List.length_take, List.length_drop]
      omega
    simp (disch := first | rfl | omega | exact lt_new _ | assumption | decide | (simp [tk_here, tk_app, tk_0, tk_S, gr_here, gr_app, gr_0, gr_S] <;> omega) | fail) only [r6_0, r6_1, r6_2, r6_3, r6_4, r6_5, r6_6, r6_7, r6_8, r6_9, r6_10, l6_11, r6_12, c6, rs6, gc6, loadV_ptr, storeV_ptr, List.append_assoc, List.length_append, List.length_cons, List.length_nil, List.set_cons_zero, List.set_cons_succ, tk_here, tk_app, gr_here, gr_app, st_here, st_app, t0, t1, t2, t3, t4, t12, t13, hlt', hin, hmin, hr, go_sem, ↓reduceIte, Nat.reduceLT, Nat.reduceEqDiff, Nat.reduceAdd, Nat.reduceMul, Nat.reduceSub, Int.reduceAdd, Int.reduceSub, Nat.reduceLeDiff, Int.reduceLT, Int.reduceLE, Int.reduceEq, Int.reduceNeg, Int.reduceToNat]
    repeat' ((first | refine guardB_dec (fun hy => ?_) (fun hy => ?_) | refine guardB_bool (fun hy => ?_) (fun hy => ?_) | refine guardQ_ite (fun hy => ?_) (fun hy => ?_) | refine brQ_dec (fun hy => ?_) (fun hy => ?_) | refine brQ_bool (fun hy => ?_) (fun hy => ?_)) <;> (try simp only [Bool.not_eq_true', Bool.not_eq_false', Bool.and_eq_true, Bool.or_eq_false_iff, decide_eq_true_eq, decide_eq_false_iff_not] at hy) <;> simp (disch := first | rfl | omega | exact lt_new _ | assumption | decide | (simp [tk_here, tk_app, tk_0, tk_S, gr_here, gr_app, gr_0, gr_S] <;> omega) | fail) only [r6_0, r6_1, r6_2, r6_3, r6_4, r6_5, r6_6, r6_7, r6_8, r6_9, r6_10, l6_11, r6_12, c6, rs6, gc6, loadV_ptr, storeV_ptr, List.append_assoc, List.length_append, List.length_cons, List.length_nil, List.set_cons_zero, List.set_cons_succ, tk_here, tk_app, gr_here, gr_app, st_here, st_app, t0, t1, t2, t3, t4, t12, t13, hlt', hin, hmin, hr, go_sem, ↓reduceIte, Nat.reduceLT, Nat.reduceEqDiff, Nat.reduceAdd, Nat.reduceMul, Nat.reduceSub, Int.reduceAdd, Int.reduceSub, Nat.reduceLeDiff, Int.reduceLT, Int.reduceLE, Int.reduceEq, Int.reduceNeg, Int.reduceToNat, hy])
    refine ⟨l.length - (k + 1) * n, by rw [hS]; omega, k + 1, G, rfl, by rw [hS]; omega, by rw [hdn, List.length_append]; rfl, by rw [hdn], by rw [hS]⟩
  · skip
    have hlt' : ¬ ((k * n : Nat) : Int) < l.length := by omega
    simp (disch := first | rfl | omega | exact lt_new _ | assumption | decide | (simp [tk_here, tk_app, tk_0, tk_S, gr_here, gr_app, gr_0, gr_S] <;> omega) | fail) only [r6_0, r6_1, r6_2, r6_3, r6_4, r6_5, r6_6, r6_7, r6_8, r6_9, r6_10, l6_11, r6_12, c6, rs6, gc6, loadV_ptr, storeV_ptr, List.append_assoc, List.length_append, List.length_cons, List.length_nil, List.set_cons_zero, List.set_cons_succ, tk_here, tk_app, gr_here, gr_app, st_here, st_app, t0, t1, t2, t3, t4, t12, t13, hlt', go_sem, ↓reduceIte, Nat.reduceLT, Nat.reduceEqDiff, Nat.reduceAdd, Nat.reduceMul, Nat.reduceSub, Int.reduceAdd, Int.reduceSub, Nat.reduceLeDiff, Int.reduceLT, Int.reduceLE, Int.reduceEq, Int.reduceNeg, Int.reduceToNat]
    repeat' ((first | refine guardB_dec (fun hy => ?_) (fun hy => ?_) | refine guardB_bool (fun hy => ?_) (fun hy => ?_) | refine guardQ_ite (fun hy => ?_) (fun hy => ?_) | refine brQ_dec (fun hy => ?_) (fun hy => ?_) | refine brQ_bool (fun hy => ?_) (fun hy => ?_)) <;> (try simp only [Bool.not_eq_true', Bool.not_eq_false', Bool.and_eq_true, Bool.or_eq_false_iff, decide_eq_true_eq, decide_eq_false_iff_not] at hy) <;> simp (disch := first | rfl | omega | exact lt_new _ | assumption | decide | (simp [tk_here, tk_app, tk_0, tk_S, gr_here, gr_app, gr_0, gr_S] <;> omega) | fail) only [r6_0, r6_1, r6_2, r6_3, r6_4, r6_5, r6_6, r6_7, r6_8, r6_9, r6_10, l6_11, r6_12, c6, rs6, gc6, loadV_ptr, storeV_ptr, List.append_assoc, List.length_append, List.length_cons, List.length_nil, List.set_cons_zero, List.set_cons_succ, tk_here, tk_app, gr_here, gr_app, st_here, st_app, t0, t1, t2, t3, t4, t12, t13, hlt', go_sem, ↓reduceIte, Nat.reduceLT, Nat.reduceEqDiff, Nat.reduceAdd, Nat.reduceMul, Nat.reduceSub, Int.reduceAdd, Int.reduceSub, Nat.reduceLeDiff, Int.reduceLT, Int.reduceLE, Int.reduceEq, Int.reduceNeg, Int.reduceToNat, hy])
    rw [← cutN_of (by omega) (by omega) hk]
    refine finQ_app ?_
    simp (disch := first | rfl | omega | exact lt_new _ | assumption | decide | (simp [tk_here, tk_app, tk_0, tk_S, gr_here, gr_app, gr_0, gr_S] <;> omega) | fail) only [go_sem, ↓reduceIte, Nat.reduceLT, Nat.reduceEqDiff, Nat.reduceAdd, Nat.reduceMul, Nat.reduceSub, Int.reduceAdd, Int.reduceSub, Nat.reduceLeDiff, Int.reduceLT, Int.reduceLE, Int.reduceEq, Int.reduceNeg, Int.reduceToNat]
end Go.Proofs.Ytlkeomoleecfeaa
/-
  Bytes cut into segments, by the program; walked. No statement of the seat stands here.
-/
namespace Go.Proofs.Ytlkeomoleecfeaa
open Go Go.An
set_option maxRecDepth 4000
set_option linter.unusedSimpArgs false
set_option linter.unusedVariables false

/-- In the midst of a cut: the list, and where it stands. -/
structure CutM (H0 H : Hp) (v : V) (out : List Sg) (a : Int) (ds : List Nat) : Prop where
  m : MidE sgE H0 H v out ds
  box2 : H[H0.length + 1]? = some (.row 0 [.int .i64 a] true)
  at2 : ∀ id, At v id → H0.length + 1 < id
section
variable {H0 H H' : Hp} {v : V} {out : List Sg} {a : Int} {ds : List Nat}
theorem CutM.lt (h : CutM H0 H v out a ds) : H0.length + 1 < H.length := (List.getElem?_eq_some_iff.1 h.box2).1
theorem CutM.loop (h : CutM H0 H v out a ds) {id : Nat} {L : LoopA} (hid : H[id]? = some (.loop L)) (hlt : H0.length + 1 < id) (hf : ∀ i, i < H.length → i ≠ id → H'[i]? = H[i]?) : CutM H0 H' v out a ds :=
  ⟨h.m.loop hid (by omega) hf, (hf _ h.lt (by omega)).trans h.box2, h.at2⟩
theorem CutM.app (h : CutM H0 H v out a ds) (L : Hp) : CutM H0 (H ++ L) v out a ds :=
  ⟨h.m.app L, (List.getElem?_append_left h.lt).trans h.box2, h.at2⟩
theorem CutM.mark (h : CutM H0 H v out a ds) {i : Nat} (hn : i ∉ ds) (hi : H0.length < i) (hd : H[i]? = some (.dfr true)) : CutM H0 H v out a (i :: ds) :=
  ⟨h.m.mark hn hi hd, h.box2, h.at2⟩
theorem CutM.push (h : CutM H0 H v out a ds) (x : Sg) (a' : Int) (hb : (out.length + 1) * 64 ≤ 2 ^ 40) :
    ∃ v' H1 H2 H3, appOf 6 64 H v (.isl (sgE.f x) 1 6) = some (v', H1) ∧ storeV Try.prog 25 H1 (.ptr H0.length 0 0) v' = some H2 ∧ loadV Try.prog 3 H2 (.ptr (H0.length + 1) 0 0) = some (.int .i64 a) ∧ storeV Try.prog 3 H2 (.ptr (H0.length + 1) 0 0) (.int .i64 a') = some H3 ∧ CutM H0 H3 v' (out ++ [x]) a' ds ∧ (∀ (i : Nat) (L : LoopA), H[i]? = some (.loop L) → H3[i]? = some (.loop L)) ∧ v'.dem = v' := by
  obtain ⟨v', H1, p1, p2, p3, p4, p5, p6⟩ := h.m.push (w := 6) (by_ := 64) (t := 25) (P := Try.prog) x rfl hb (by omega) (by kernel_rfl)
  obtain ⟨v2, H2, q1, q2, q3, q4, q5⟩ := h.m.own.push (w := 6) (by_ := 64) x rfl hb (by omega)
  rw [p1] at q1
  obtain ⟨rfl, rfl⟩ := Prod.mk.inj (Option.some.inj q1)
  clear q1
  have hlt := h.lt
  have hb1 : H1[H0.length + 1]? = some (.row 0 [.int .i64 a] true) := (q3 _ hlt fun x => by have := h.at2 _ x; omega).trans h.box2
  have hb2 : (H1.set H0.length (.row 0 [v'] true))[H0.length + 1]? = some (.row 0 [.int .i64 a] true) := by rw [List.getElem?_set_ne (by omega)]; exact hb1
  have hat : ∀ id, At v' id → H0.length + 1 < id := fun id hid => by
    rcases q5 id hid with y | y
    · exact h.at2 id y
    · omega
  have hns : ∀ i, i ≠ H0.length + 1 → ((H1.set H0.length (.row 0 [v'] true)).set (H0.length + 1) (.row 0 [.int .i64 a'] true))[i]? = (H1.set H0.length (.row 0 [v'] true))[i]? := fun i hi => List.getElem?_set_ne (Ne.symm hi)
  refine ⟨v', H1, _, (H1.set H0.length (.row 0 [v'] true)).set (H0.length + 1) (.row 0 [.int .i64 a'] true), p1, p3, ?_, ?_, ⟨⟨fun i hi => (hns i (by omega)).trans (p4.old i hi), (hns _ (by omega)).trans p4.box, p4.own.frame fun id hid => hns id ?_, p4.at_, fun i hi => ⟨(p4.dfr i hi).1, (hns i ?_).trans (p4.dfr i hi).2⟩, p4.nd⟩, List.getElem?_set_self (List.getElem?_eq_some_iff.1 hb2).1, hat⟩, fun i L hL => (hns i ?_).trans (p5 i L hL), p6⟩
  · rw [ldR, getRow_of hb2]
    show partV Try.prog 3 [V.int .i64 a] 0 = _
    unfold partV
    rw [g3]
    rfl
  · have ht : szOf Try.prog 3 = some 1 := by kernel_rfl
    unfold storeV
    simp only [getRow_of hb2, Option.bind_some, ht]
    rfl
  · have := hat id hid; omega
  · rintro rfl
    have := (p4.dfr _ hi).2
    rw [hb2] at this
    cases this
  · rintro rfl
    rw [h.box2] at hL
    cases hL
end
noncomputable def lp5 (T : Fr) (n : Nat) : LoopA := ⟨T, 58, [40], a5_0, b5_0, 0, .nor, n⟩
theorem lp5N (T : Fr) (n : Nat) : (lp5 T n).N = 58 := rfl
theorem lp5T (T : Fr) (n : Nat) : (lp5 T n).T = T := rfl
theorem pv_bx25 (v : V) : partV Try.prog 25 [v] 0 = some v := by unfold partV; rw [g25]; rfl
theorem round5 {H0 H : Hp} {v : V} {dir seq time : Int} {l : List UInt8} {n k : Nat} {ds : List Nat} {T : Fr} {m id : Nat} (h : CutM H0 H v (cutS dir seq l n time k) ((min (k * n) l.length : Nat) : Int) ds) (hk : k * n < l.length) (hn : 1 ≤ n) (hn2 : n ≤ 400) (hl : l.length ≤ 2 ^ 20) (hseq : 0 ≤ seq ∧ seq ≤ 4294967295)
    (hid : H[id]? = some (.loop (lp5 T m))) (hlt : H0.length + 1 < id) (t5 : get T 5 = .ipt [.int .i64 dir] 0) (t6 : get T 6 = .ipt [.int .i64 seq] 0) (t9 : get T 9 = .ipt [.int .i64 time] 0) (t12 : get T 12 = .ptr H0.length 0 0) (t13 : get T 13 = .ptr (H0.length + 1) 0 0) :
    ∃ H' v', callL Try.prog pr Y0 [.yld id, slV false byE (chk l n k)] H = some (.bool true, H') ∧ CutM H0 H' v' (cutS dir seq l n time (k + 1)) ((min ((k + 1) * n) l.length : Nat) : Int) ds ∧ H'[id]? = some (.loop (lp5 T m)) := by
  have hidl := (List.getElem?_eq_some_iff.1 hid).1
  have hgl : getLoopA H id = some (lp5 T m) := by unfold getLoopA; rw [hid]
  suffices hh : ∃ r, callL Try.prog pr Y0 [.yld id, slV false byE (chk l n k)] H = some r ∧ ∃ H' v', r = (.bool true, H') ∧ CutM H0 H' v' (cutS dir seq l n time (k + 1)) ((min ((k + 1) * n) l.length : Nat) : Int) ds ∧ H'[id]? = some (.loop (lp5 T m)) by
    obtain ⟨_, e, H', v', rfl, hh⟩ := hh
    exact ⟨H', v', e, hh⟩
  have hS : (k + 1) * n = k * n + n := by rw [Nat.add_mul, Nat.one_mul]
  have hkl : k ≤ l.length := by have := Nat.le_mul_of_pos_right k (show 0 < n by omega); omega
  have hcl : (chk l n k).length = min n (l.length - k * n) := by unfold chk; rw [List.length_take, List.length_drop]; omega
  have hmk : min (k * n) l.length = k * n := by omega
  rw [hmk] at h
  refine callL_roundE hgl rfl rfl rfl ha5_0 hb5_0 ?_
  simp (disch := first | rfl | omega | exact lt_new _ | assumption | decide | (simp [tk_here, tk_app, tk_0, tk_S, gr_here, gr_app, gr_0, gr_S] <;> omega) | fail) only [ca5_0, r5_8, lp5N, lp5T, hgl, go_sem, ↓reduceIte, Nat.reduceLT, Nat.reduceEqDiff, Nat.reduceAdd, Nat.reduceMul, Nat.reduceSub, Int.reduceAdd, Int.reduceSub, Nat.reduceLeDiff, Int.reduceLT, Int.reduceLE, Int.reduceEq, Int.reduceNeg, Int.reduceToNat]
  refine ⟨_, rfl, rfl, ?_⟩
  obtain ⟨B, hB⟩ : ∃ B, B = AB.loop { lp5 T m with st := 1 } := ⟨_, rfl⟩
  show Wp _ _ _ _ _ _ (H.set id (AB.loop { lp5 T m with st := 1 })) _
  rw [← hB]
  have hM : CutM H0 (H.set id B) v (cutS dir seq l n time k) ((k * n : Nat) : Int) ds := h.loop (H' := H.set id B) hid hlt fun i _ hi => List.getElem?_set_ne (Ne.symm hi)
  obtain ⟨v', H1, H2, H3, p1, p2, p3, p4, p5, p6, p7⟩ := hM.push (sgC dir seq l n time k) (((min ((k + 1) * n) l.length : Nat) : Int)) (by rw [cutS_len]; omega)
  have hrec : sgE.f (sgC dir seq l n time k) = ([.int .i64 dir, .int .i64 ((seq + ((k * n : Nat) : Int)).tmod 4294967296), .int .i64 0, .int .i64 16, slV false byE (chk l n k), .int .i64 time] : List V) := rfl
  rw [hrec] at p1
  have hl1 : loadV Try.prog 25 (H.set id B) (.ptr H0.length 0 0) = some v := by rw [ldR, getRow_of hM.m.box]; exact pv_bx25 v
  have hl2 : loadV Try.prog 3 (H.set id B) (.ptr (H0.length + 1) 0 0) = some (.int .i64 ((k * n : Nat) : Int)) := by
    rw [ldR, getRow_of hM.box2]
    show partV Try.prog 3 [V.int .i64 ((k * n : Nat) : Int)] 0 = _
    unfold partV
    rw [g3]
    rfl
  have hld := ld3i dir
  have hld2 := ld3i seq
  have hld3 := ld3i time
  have h13 := fn13 (b := false) (l := chk l n k) (by omega)
  have hid1 : (H.set id B)[id]? = some B := List.getElem?_set_self hidl
  have h3 := p6 id _ (by rw [hid1, hB])
  have hg3 : getLoopA H3 id = some { lp5 T m with st := 1 } := by unfold getLoopA; rw [h3]
  have hadd : ((k * n : Nat) : Int) + ((chk l n k).length : Int) = ((min ((k + 1) * n) l.length : Nat) : Int) := by rw [hcl, hS]; omega
  obtain ⟨i, hi⟩ : ∃ i, k * n = i := ⟨_, rfl⟩
  rw [hi] at hl2 p1 p3 hadd hk
  simp (disch := first | rfl | omega | exact lt_new _ | assumption | decide | (simp [tk_here, tk_app, tk_0, tk_S, gr_here, gr_app, gr_0, gr_S] <;> omega) | fail) only [cb5_0, r5_9, r5_10, t5, t6, t9, t12, t13, hl1, hl2, hld, hld2, hld3, h13, p1, p2, p3, p4, p7, hadd, hg3, go_sem, ↓reduceIte, Nat.reduceLT, Nat.reduceEqDiff, Nat.reduceAdd, Nat.reduceMul, Nat.reduceSub, Int.reduceAdd, Int.reduceSub, Nat.reduceLeDiff, Int.reduceLT, Int.reduceLE, Int.reduceEq, Int.reduceNeg, Int.reduceToNat]
  repeat' ((first | refine guardB_dec (fun hy => ?_) (fun hy => ?_) | refine guardB_bool (fun hy => ?_) (fun hy => ?_) | refine guardQ_ite (fun hy => ?_) (fun hy => ?_) | refine brQ_dec (fun hy => ?_) (fun hy => ?_) | refine brQ_bool (fun hy => ?_) (fun hy => ?_)) <;> (try simp only [Bool.not_eq_true', Bool.not_eq_false', Bool.and_eq_true, Bool.or_eq_false_iff, decide_eq_true_eq, decide_eq_false_iff_not] at hy) <;> simp (disch := first | rfl | omega | exact lt_new _ | assumption | decide | (simp [tk_here, tk_app, tk_0, tk_S, gr_here, gr_app, gr_0, gr_S] <;> omega) | fail) only [cb5_0, r5_9, r5_10, t5, t6, t9, t12, t13, hl1, hl2, hld, hld2, hld3, h13, p1, p2, p3, p4, p7, hadd, hg3, go_sem, ↓reduceIte, Nat.reduceLT, Nat.reduceEqDiff, Nat.reduceAdd, Nat.reduceMul, Nat.reduceSub, Int.reduceAdd, Int.reduceSub, Nat.reduceLeDiff, Int.reduceLT, Int.reduceLE, Int.reduceEq, Int.reduceNeg, Int.reduceToNat, hy])
  exact ⟨hM.m.own.cell.2.2.2.1, _, rfl, _, _, rfl, p5.loop h3 hlt fun i _ hi => List.getElem?_set_ne (Ne.symm hi), List.getElem?_set_self (List.getElem?_eq_some_iff.1 h3).1⟩
theorem rng5 {H0 Hs : Hp} {dir seq time : Int} {b : Bool} {l : List UInt8} {n : Nat} (hn : 1 ≤ n) (hn2 : n ≤ 400) (hl : l.length ≤ 2 ^ 20) (hseq : 0 ≤ seq ∧ seq ≤ 4294967295) {T : Fr} {Q : Ex → Fr → Dfr → Hp → Prop} (hHs : CutM H0 Hs .nilslice [] 0 []) (hlen : Hs.length = H0.length + 2)
    (t5 : get T 5 = .ipt [.int .i64 dir] 0) (t6 : get T 6 = .ipt [.int .i64 seq] 0) (t9 : get T 9 = .ipt [.int .i64 time] 0) (t12 : get T 12 = .ptr H0.length 0 0) (t13 : get T 13 = .ptr (H0.length + 1) 0 0) (t39 : get T 39 = .fn 23 [] [.ipt [slV b byE l] 0, .ipt [.int .i64 (n : Int)] 0])
    (hq : ∀ v' H2 d, MidE sgE H0 H2 v' (cutS dir seq l n time (cutN l n)) [d] → Q .nor T [(Y0, [V.ptr d 0 0])] H2) :
    Wp Try.prog (callL Try.prog pr) 58 (.rng (tm 39) [40] a5_0 b5_0) T [] Hs Q := by
  have hM2 : CutM H0 (Hs ++ [.dfr true, .loop (lp5 T Hs.length)]) .nilslice (cutS dir seq l n time 0) ((min (0 * n) l.length : Nat) : Int) [Hs.length] := by
    have h : CutM H0 (Hs ++ [.dfr true, .loop (lp5 T Hs.length)]) .nilslice [] 0 [Hs.length] := by
      refine (hHs.app _).mark (by simp) (by omega) ?_
      rw [List.getElem?_append_right (by omega)]
      simp
    have e : ((min (0 * n) l.length : Nat) : Int) = 0 := by simp
    rw [e]
    exact h
  have hid2 : (Hs ++ [.dfr true, .loop (lp5 T Hs.length)])[Hs.length + 1]? = some (.loop (lp5 T Hs.length)) := by
    rw [List.getElem?_append_right (by omega)]
    simp
  obtain ⟨H3, hc, hJ⟩ := fn23 (id := Hs.length + 1) (b := b) (l := l) (n := n) (H := Hs ++ [.dfr true, .loop (lp5 T Hs.length)]) hn hn2 (by omega)
    (fun k H => ∃ v, CutM H0 H v (cutS dir seq l n time k) ((min (k * n) l.length : Nat) : Int) [Hs.length] ∧ H[Hs.length + 1]? = some (.loop (lp5 T Hs.length))) (fun _ => False)
    ⟨_, hM2, hid2⟩ (fun k hk H ⟨v, m1, m2⟩ => by
      obtain ⟨H', v', r1, r2, r3⟩ := round5 m1 hk hn hn2 hl hseq m2 (by omega) t5 t6 t9 t12 t13
      exact ⟨true, H', r1, fun _ => ⟨v', r2, r3⟩, fun h => (by cases h)⟩)
  rcases hJ with ⟨k, k1, k2, v, m1, m2⟩ | h
  · refine Wp_rng (q := (.tup [], H3)) (L := lp5 T Hs.length) t39 (by decide) rfl (by kernel_rfl) hc (by unfold getLoopA; rw [m2]) (by show (0 : Nat) ≠ 1; decide) ?_
    refine hq v _ _ ?_
    rw [cutN_of hn k1 k2] at m1
    exact m1.m.loop m2 (by omega) fun i _ hi => List.getElem?_set_ne (Ne.symm hi)
  · exact h.elim
end Go.Proofs.Ytlkeomoleecfeaa
/-
  Bytes cut into segments, by the program, whole; walked. No statement of the seat stands here.
-/
namespace Go.Proofs.Ytlkeomoleecfeaa
open Go Go.An
set_option maxRecDepth 4000
set_option linter.unusedSimpArgs false
set_option linter.unusedVariables false

theorem fn5 (dir seq : Int) (b : Bool) (l : List UInt8) (size time : Int) (hl : l.length ≤ 2 ^ 20) (H : Hp) : callL Try.prog pr 5 [.int .i64 dir, .int .i64 seq, slV b byE l, .int .i64 size, .int .i64 time] H = some (.tup [slV true sgE (cutR dir seq l size time).1, .int .i64 (cutR dir seq l size time).2], H) := by
  have h11 := fn11 dir seq time
  have hld := ld3i dir
  have hld2 := ld3i seq
  have hld3 := ld3i time
  refine run5 (Nat.le_of_ble_eq_true rfl) ?_
  have bad : ∀ h : size < 1 ∨ 400 < size ∨ okC dir seq time = false, cutR dir seq l size time = ([], 1) := fun h => if_pos h
  by_cases g4 : size < 1
  · rw [bad (.inl g4)]
    simp (disch := first | rfl | omega | exact lt_new _ | assumption | decide | (simp [tk_here, tk_app, tk_0, tk_S, gr_here, gr_app, gr_0, gr_S] <;> omega) | fail) only [r5_0, r5_1, r5_2, r5_3, r5_4, r5_5, r5_6, r5_7, r5_8, r5_9, r5_10, r5_11, c5, rs5, gc5, h11, hld, hld2, hld3, g4, slV_nil, go_sem, ↓reduceIte, Nat.reduceLT, Nat.reduceEqDiff, Nat.reduceAdd, Nat.reduceMul, Nat.reduceSub, Int.reduceAdd, Int.reduceSub, Nat.reduceLeDiff, Int.reduceLT, Int.reduceLE, Int.reduceEq, Int.reduceNeg, Int.reduceToNat]
    repeat' ((first | refine guardB_dec (fun hy => ?_) (fun hy => ?_) | refine guardB_bool (fun hy => ?_) (fun hy => ?_) | refine guardQ_ite (fun hy => ?_) (fun hy => ?_) | refine brQ_dec (fun hy => ?_) (fun hy => ?_) | refine brQ_bool (fun hy => ?_) (fun hy => ?_)) <;> (try simp only [Bool.not_eq_true', Bool.not_eq_false', Bool.and_eq_true, Bool.or_eq_false_iff, decide_eq_true_eq, decide_eq_false_iff_not] at hy) <;> simp (disch := first | rfl | omega | exact lt_new _ | assumption | decide | (simp [tk_here, tk_app, tk_0, tk_S, gr_here, gr_app, gr_0, gr_S] <;> omega) | fail) only [r5_0, r5_1, r5_2, r5_3, r5_4, r5_5, r5_6, r5_7, r5_8, r5_9, r5_10, r5_11, c5, rs5, gc5, h11, hld, hld2, hld3, g4, slV_nil, go_sem, ↓reduceIte, Nat.reduceLT, Nat.reduceEqDiff, Nat.reduceAdd, Nat.reduceMul, Nat.reduceSub, Int.reduceAdd, Int.reduceSub, Nat.reduceLeDiff, Int.reduceLT, Int.reduceLE, Int.reduceEq, Int.reduceNeg, Int.reduceToNat, hy])
    all_goals (try ((first | refine finQ_same ?_ | refine finQ_app ?_ | (rw [List.append_assoc]; refine finQ_app ?_)) <;> simp (disch := first | rfl | omega | exact lt_new _ | assumption | decide | (simp [tk_here, tk_app, tk_0, tk_S, gr_here, gr_app, gr_0, gr_S] <;> omega) | fail) only [go_sem, ↓reduceIte, Nat.reduceLT, Nat.reduceEqDiff, Nat.reduceAdd, Nat.reduceMul, Nat.reduceSub, Int.reduceAdd, Int.reduceSub, Nat.reduceLeDiff, Int.reduceLT, Int.reduceLE, Int.reduceEq, Int.reduceNeg, Int.reduceToNat, List.append_assoc, List.cons_append, List.nil_append, *]))
    all_goals (try first | rfl | (simp [*]; done) | grind)
  by_cases g5 : 400 < size
  · rw [bad (.inr (.inl g5))]
    simp (disch := first | rfl | omega | exact lt_new _ | assumption | decide | (simp [tk_here, tk_app, tk_0, tk_S, gr_here, gr_app, gr_0, gr_S] <;> omega) | fail) only [r5_0, r5_1, r5_2, r5_3, r5_4, r5_5, r5_6, r5_7, r5_8, r5_9, r5_10, r5_11, c5, rs5, gc5, h11, hld, hld2, hld3, g4, g5, slV_nil, go_sem, ↓reduceIte, Nat.reduceLT, Nat.reduceEqDiff, Nat.reduceAdd, Nat.reduceMul, Nat.reduceSub, Int.reduceAdd, Int.reduceSub, Nat.reduceLeDiff, Int.reduceLT, Int.reduceLE, Int.reduceEq, Int.reduceNeg, Int.reduceToNat]
    repeat' ((first | refine guardB_dec (fun hy => ?_) (fun hy => ?_) | refine guardB_bool (fun hy => ?_) (fun hy => ?_) | refine guardQ_ite (fun hy => ?_) (fun hy => ?_) | refine brQ_dec (fun hy => ?_) (fun hy => ?_) | refine brQ_bool (fun hy => ?_) (fun hy => ?_)) <;> (try simp only [Bool.not_eq_true', Bool.not_eq_false', Bool.and_eq_true, Bool.or_eq_false_iff, decide_eq_true_eq, decide_eq_false_iff_not] at hy) <;> simp (disch := first | rfl | omega | exact lt_new _ | assumption | decide | (simp [tk_here, tk_app, tk_0, tk_S, gr_here, gr_app, gr_0, gr_S] <;> omega) | fail) only [r5_0, r5_1, r5_2, r5_3, r5_4, r5_5, r5_6, r5_7, r5_8, r5_9, r5_10, r5_11, c5, rs5, gc5, h11, hld, hld2, hld3, g4, g5, slV_nil, go_sem, ↓reduceIte, Nat.reduceLT, Nat.reduceEqDiff, Nat.reduceAdd, Nat.reduceMul, Nat.reduceSub, Int.reduceAdd, Int.reduceSub, Nat.reduceLeDiff, Int.reduceLT, Int.reduceLE, Int.reduceEq, Int.reduceNeg, Int.reduceToNat, hy])
    all_goals (try ((first | refine finQ_same ?_ | refine finQ_app ?_ | (rw [List.append_assoc]; refine finQ_app ?_)) <;> simp (disch := first | rfl | omega | exact lt_new _ | assumption | decide | (simp [tk_here, tk_app, tk_0, tk_S, gr_here, gr_app, gr_0, gr_S] <;> omega) | fail) only [go_sem, ↓reduceIte, Nat.reduceLT, Nat.reduceEqDiff, Nat.reduceAdd, Nat.reduceMul, Nat.reduceSub, Int.reduceAdd, Int.reduceSub, Nat.reduceLeDiff, Int.reduceLT, Int.reduceLE, Int.reduceEq, Int.reduceNeg, Int.reduceToNat, List.append_assoc, List.cons_append, List.nil_append, *]))
    all_goals (try first | rfl | (simp [*]; done) | grind)
  by_cases g6 : okC dir seq time = false
  · rw [bad (.inr (.inr g6))]
    rw [g6] at h11
    simp (disch := first | rfl | omega | exact lt_new _ | assumption | decide | (simp [tk_here, tk_app, tk_0, tk_S, gr_here, gr_app, gr_0, gr_S] <;> omega) | fail) only [r5_0, r5_1, r5_2, r5_3, r5_4, r5_5, r5_6, r5_7, r5_8, r5_9, r5_10, r5_11, c5, rs5, gc5, h11, hld, hld2, hld3, g4, g5, slV_nil, go_sem, ↓reduceIte, Nat.reduceLT, Nat.reduceEqDiff, Nat.reduceAdd, Nat.reduceMul, Nat.reduceSub, Int.reduceAdd, Int.reduceSub, Nat.reduceLeDiff, Int.reduceLT, Int.reduceLE, Int.reduceEq, Int.reduceNeg, Int.reduceToNat]
    repeat' ((first | refine guardB_dec (fun hy => ?_) (fun hy => ?_) | refine guardB_bool (fun hy => ?_) (fun hy => ?_) | refine guardQ_ite (fun hy => ?_) (fun hy => ?_) | refine brQ_dec (fun hy => ?_) (fun hy => ?_) | refine brQ_bool (fun hy => ?_) (fun hy => ?_)) <;> (try simp only [Bool.not_eq_true', Bool.not_eq_false', Bool.and_eq_true, Bool.or_eq_false_iff, decide_eq_true_eq, decide_eq_false_iff_not] at hy) <;> simp (disch := first | rfl | omega | exact lt_new _ | assumption | decide | (simp [tk_here, tk_app, tk_0, tk_S, gr_here, gr_app, gr_0, gr_S] <;> omega) | fail) only [r5_0, r5_1, r5_2, r5_3, r5_4, r5_5, r5_6, r5_7, r5_8, r5_9, r5_10, r5_11, c5, rs5, gc5, h11, hld, hld2, hld3, g4, g5, slV_nil, go_sem, ↓reduceIte, Nat.reduceLT, Nat.reduceEqDiff, Nat.reduceAdd, Nat.reduceMul, Nat.reduceSub, Int.reduceAdd, Int.reduceSub, Nat.reduceLeDiff, Int.reduceLT, Int.reduceLE, Int.reduceEq, Int.reduceNeg, Int.reduceToNat, hy])
    all_goals (try ((first | refine finQ_same ?_ | refine finQ_app ?_ | (rw [List.append_assoc]; refine finQ_app ?_)) <;> simp (disch := first | rfl | omega | exact lt_new _ | assumption | decide | (simp [tk_here, tk_app, tk_0, tk_S, gr_here, gr_app, gr_0, gr_S] <;> omega) | fail) only [go_sem, ↓reduceIte, Nat.reduceLT, Nat.reduceEqDiff, Nat.reduceAdd, Nat.reduceMul, Nat.reduceSub, Int.reduceAdd, Int.reduceSub, Nat.reduceLeDiff, Int.reduceLT, Int.reduceLE, Int.reduceEq, Int.reduceNeg, Int.reduceToNat, List.append_assoc, List.cons_append, List.nil_append, *]))
    all_goals (try first | rfl | (simp [*]; done) | grind)
  have hok : okC dir seq time = true := by simpa using g6
  rw [hok] at h11
  obtain ⟨n, rfl⟩ : ∃ n : Nat, size = n := ⟨size.toNat, by omega⟩
  have hcN : ((l.length : Int) + n - 1).tdiv n = (cutN l n : Int) := by
    unfold cutN
    have e : (l.length : Int) + n - 1 = ((l.length + n - 1 : Nat) : Int) := by omega
    rw [e]
    rfl
  have hcb : cutN l n ≤ l.length + n := by unfold cutN; have := Nat.div_le_self (l.length + n - 1) n; omega
  have hw : IntKind.i64.wrap (((l.length : Int) + n - 1).tdiv n) = (cutN l n : Int) := by rw [hcN]; exact IntWalk.i64_in _ (by omega)
  have hn0 : ¬ (n : Int) = 0 := by omega
  unfold cutR
  rw [if_neg (by simp [hok]; omega), Int.toNat_natCast]
  by_cases g8 : 200 < cutN l n
  · rw [if_pos g8]
    have g8' : (200 : Int) < cutN l n := by omega
    simp (disch := first | rfl | omega | exact lt_new _ | assumption | decide | (simp [tk_here, tk_app, tk_0, tk_S, gr_here, gr_app, gr_0, gr_S] <;> omega) | fail) only [r5_0, r5_1, r5_2, r5_3, r5_4, r5_5, r5_6, r5_7, r5_8, r5_9, r5_10, r5_11, c5, rs5, gc5, h11, hld, hld2, hld3, g4, g5, hn0, hw, g8', slV_nil, go_sem, ↓reduceIte, Nat.reduceLT, Nat.reduceEqDiff, Nat.reduceAdd, Nat.reduceMul, Nat.reduceSub, Int.reduceAdd, Int.reduceSub, Nat.reduceLeDiff, Int.reduceLT, Int.reduceLE, Int.reduceEq, Int.reduceNeg, Int.reduceToNat]
    repeat' ((first | refine guardB_dec (fun hy => ?_) (fun hy => ?_) | refine guardB_bool (fun hy => ?_) (fun hy => ?_) | refine guardQ_ite (fun hy => ?_) (fun hy => ?_) | refine brQ_dec (fun hy => ?_) (fun hy => ?_) | refine brQ_bool (fun hy => ?_) (fun hy => ?_)) <;> (try simp only [Bool.not_eq_true', Bool.not_eq_false', Bool.and_eq_true, Bool.or_eq_false_iff, decide_eq_true_eq, decide_eq_false_iff_not] at hy) <;> simp (disch := first | rfl | omega | exact lt_new _ | assumption | decide | (simp [tk_here, tk_app, tk_0, tk_S, gr_here, gr_app, gr_0, gr_S] <;> omega) | fail) only [r5_0, r5_1, r5_2, r5_3, r5_4, r5_5, r5_6, r5_7, r5_8, r5_9, r5_10, r5_11, c5, rs5, gc5, h11, hld, hld2, hld3, g4, g5, hn0, hw, g8', slV_nil, go_sem, ↓reduceIte, Nat.reduceLT, Nat.reduceEqDiff, Nat.reduceAdd, Nat.reduceMul, Nat.reduceSub, Int.reduceAdd, Int.reduceSub, Nat.reduceLeDiff, Int.reduceLT, Int.reduceLE, Int.reduceEq, Int.reduceNeg, Int.reduceToNat, hy])
    all_goals (try ((first | refine finQ_same ?_ | refine finQ_app ?_ | (rw [List.append_assoc]; refine finQ_app ?_)) <;> simp (disch := first | rfl | omega | exact lt_new _ | assumption | decide | (simp [tk_here, tk_app, tk_0, tk_S, gr_here, gr_app, gr_0, gr_S] <;> omega) | fail) only [go_sem, ↓reduceIte, Nat.reduceLT, Nat.reduceEqDiff, Nat.reduceAdd, Nat.reduceMul, Nat.reduceSub, Int.reduceAdd, Int.reduceSub, Nat.reduceLeDiff, Int.reduceLT, Int.reduceLE, Int.reduceEq, Int.reduceNeg, Int.reduceToNat, List.append_assoc, List.cons_append, List.nil_append, *]))
    all_goals (try first | rfl | (simp [*]; done) | grind)
  rw [if_neg g8]
  have g8' : ¬ (200 : Int) < cutN l n := by omega
  have h12 := fn12 b l n (by omega)
  have hseq : 0 ≤ seq ∧ seq ≤ 4294967295 := by simp [okC] at hok; omega
  simp (disch := first | rfl | omega | exact lt_new _ | assumption | decide | (simp [tk_here, tk_app, tk_0, tk_S, gr_here, gr_app, gr_0, gr_S] <;> omega) | fail) only [r5_0, r5_1, r5_2, r5_3, r5_4, r5_5, r5_6, r5_7, r5_8, r5_9, r5_10, r5_11, c5, rs5, gc5, h11, h12, hld, hld2, hld3, g4, g5, hn0, hw, g8', go_sem, ↓reduceIte, Nat.reduceLT, Nat.reduceEqDiff, Nat.reduceAdd, Nat.reduceMul, Nat.reduceSub, Int.reduceAdd, Int.reduceSub, Nat.reduceLeDiff, Int.reduceLT, Int.reduceLE, Int.reduceEq, Int.reduceNeg, Int.reduceToNat]
  repeat' ((first | refine guardB_dec (fun hy => ?_) (fun hy => ?_) | refine guardB_bool (fun hy => ?_) (fun hy => ?_) | refine guardQ_ite (fun hy => ?_) (fun hy => ?_) | refine brQ_dec (fun hy => ?_) (fun hy => ?_) | refine brQ_bool (fun hy => ?_) (fun hy => ?_)) <;> (try simp only [Bool.not_eq_true', Bool.not_eq_false', Bool.and_eq_true, Bool.or_eq_false_iff, decide_eq_true_eq, decide_eq_false_iff_not] at hy) <;> simp (disch := first | rfl | omega | exact lt_new _ | assumption | decide | (simp [tk_here, tk_app, tk_0, tk_S, gr_here, gr_app, gr_0, gr_S] <;> omega) | fail) only [r5_0, r5_1, r5_2, r5_3, r5_4, r5_5, r5_6, r5_7, r5_8, r5_9, r5_10, r5_11, c5, rs5, gc5, h11, h12, hld, hld2, hld3, g4, g5, hn0, hw, g8', go_sem, ↓reduceIte, Nat.reduceLT, Nat.reduceEqDiff, Nat.reduceAdd, Nat.reduceMul, Nat.reduceSub, Int.reduceAdd, Int.reduceSub, Nat.reduceLeDiff, Int.reduceLT, Int.reduceLE, Int.reduceEq, Int.reduceNeg, Int.reduceToNat, hy])
  refine rng5 (H0 := H) (dir := dir) (seq := seq) (time := time) (b := b) (l := l) (n := n) (by omega) (by omega) hl hseq ?_ (by simp) (by simp (disch := first | rfl | omega | exact lt_new _ | assumption | decide | (simp [tk_here, tk_app, tk_0, tk_S, gr_here, gr_app, gr_0, gr_S] <;> omega) | fail) only [go_sem, ↓reduceIte, Nat.reduceLT, Nat.reduceEqDiff, Nat.reduceAdd, Nat.reduceMul, Nat.reduceSub, Int.reduceAdd, Int.reduceSub, Nat.reduceLeDiff, Int.reduceLT, Int.reduceLE, Int.reduceEq, Int.reduceNeg, Int.reduceToNat]) (by simp (disch := first | rfl | omega | exact lt_new _ | assumption | decide | (simp [tk_here, tk_app, tk_0, tk_S, gr_here, gr_app, gr_0, gr_S] <;> omega) | fail) only [go_sem, ↓reduceIte, Nat.reduceLT, Nat.reduceEqDiff, Nat.reduceAdd, Nat.reduceMul, Nat.reduceSub, Int.reduceAdd, Int.reduceSub, Nat.reduceLeDiff, Int.reduceLT, Int.reduceLE, Int.reduceEq, Int.reduceNeg, Int.reduceToNat]) (by simp (disch := first | rfl | omega | exact lt_new _ | assumption | decide | (simp [tk_here, tk_app, tk_0, tk_S, gr_here, gr_app, gr_0, gr_S] <;> omega) | fail) only [go_sem, ↓reduceIte, Nat.reduceLT, Nat.reduceEqDiff, Nat.reduceAdd, Nat.reduceMul, Nat.reduceSub, Int.reduceAdd, Int.reduceSub, Nat.reduceLeDiff, Int.reduceLT, Int.reduceLE, Int.reduceEq, Int.reduceNeg, Int.reduceToNat]) (by simp (disch := first | rfl | omega | exact lt_new _ | assumption | decide | (simp [tk_here, tk_app, tk_0, tk_S, gr_here, gr_app, gr_0, gr_S] <;> omega) | fail) only [go_sem, ↓reduceIte, Nat.reduceLT, Nat.reduceEqDiff, Nat.reduceAdd, Nat.reduceMul, Nat.reduceSub, Int.reduceAdd, Int.reduceSub, Nat.reduceLeDiff, Int.reduceLT, Int.reduceLE, Int.reduceEq, Int.reduceNeg, Int.reduceToNat]) (by simp (disch := first | rfl | omega | exact lt_new _ | assumption | decide | (simp [tk_here, tk_app, tk_0, tk_S, gr_here, gr_app, gr_0, gr_S] <;> omega) | fail) only [go_sem, ↓reduceIte, Nat.reduceLT, Nat.reduceEqDiff, Nat.reduceAdd, Nat.reduceMul, Nat.reduceSub, Int.reduceAdd, Int.reduceSub, Nat.reduceLeDiff, Int.reduceLT, Int.reduceLE, Int.reduceEq, Int.reduceNeg, Int.reduceToNat, List.length_append, List.length_cons, List.length_nil]) (by simp (disch := first | rfl | omega | exact lt_new _ | assumption | decide | (simp [tk_here, tk_app, tk_0, tk_S, gr_here, gr_app, gr_0, gr_S] <;> omega) | fail) only [go_sem, ↓reduceIte, Nat.reduceLT, Nat.reduceEqDiff, Nat.reduceAdd, Nat.reduceMul, Nat.reduceSub, Int.reduceAdd, Int.reduceSub, Nat.reduceLeDiff, Int.reduceLT, Int.reduceLE, Int.reduceEq, Int.reduceNeg, Int.reduceToNat]) fun v' H2 d hM => ?_
  · refine ⟨(MidE.nil sgE H).app _, ?_, fun id hid => ?_⟩
    · rw [List.getElem?_append_right (by simp)]
      simp
    · obtain ⟨g, o, n, z, cp, e⟩ := hid
      cases e
  have hbx : loadV Try.prog 25 H2 (.ptr H.length 0 0) = some v' := by rw [ldR, getRow_of hM.box]; exact pv_bx25 v'
  obtain ⟨H3, e1, e2⟩ := hM.marks (Pr := pr)
  have e1' : dfrs pr [(Y0, [V.ptr d 0 0])] H2 = some H3 := e1
  obtain ⟨c1, c2, c3, c4, _⟩ := e2.own.cell
  have hinl := e2.inl (f := 6)
  simp (disch := first | rfl | omega | exact lt_new _ | assumption | decide | (simp [tk_here, tk_app, tk_0, tk_S, gr_here, gr_app, gr_0, gr_S] <;> omega) | fail) only [r5_11, hbx, e1', c1, c2, c3, go_sem, ↓reduceIte, Nat.reduceLT, Nat.reduceEqDiff, Nat.reduceAdd, Nat.reduceMul, Nat.reduceSub, Int.reduceAdd, Int.reduceSub, Nat.reduceLeDiff, Int.reduceLT, Int.reduceLE, Int.reduceEq, Int.reduceNeg, Int.reduceToNat]
  repeat' ((first | refine guardB_dec (fun hy => ?_) (fun hy => ?_) | refine guardB_bool (fun hy => ?_) (fun hy => ?_) | refine guardQ_ite (fun hy => ?_) (fun hy => ?_) | refine brQ_dec (fun hy => ?_) (fun hy => ?_) | refine brQ_bool (fun hy => ?_) (fun hy => ?_)) <;> (try simp only [Bool.not_eq_true', Bool.not_eq_false', Bool.and_eq_true, Bool.or_eq_false_iff, decide_eq_true_eq, decide_eq_false_iff_not] at hy) <;> simp (disch := first | rfl | omega | exact lt_new _ | assumption | decide | (simp [tk_here, tk_app, tk_0, tk_S, gr_here, gr_app, gr_0, gr_S] <;> omega) | fail) only [r5_11, hbx, e1', c1, c2, c3, go_sem, ↓reduceIte, Nat.reduceLT, Nat.reduceEqDiff, Nat.reduceAdd, Nat.reduceMul, Nat.reduceSub, Int.reduceAdd, Int.reduceSub, Nat.reduceLeDiff, Int.reduceLT, Int.reduceLE, Int.reduceEq, Int.reduceNeg, Int.reduceToNat, hy])
  refine gcF_of (fun i hi => e2.old i hi) ?_
  show (mapO (inlA H.length H3 8) [v', .int .i64 0]).map V.tup = _
  have hi0 : inlA H.length H3 8 (.int .i64 0) = some (.int .i64 0) := rfl
  simp only [mapO, hinl, hi0, Option.bind_some, Option.map_some]
end Go.Proofs.Ytlkeomoleecfeaa
/-
  Segments compared; the law; walked. No statement of the seat stands here.
-/
namespace Go.Proofs.Ytlkeomoleecfeaa
open Go Go.An
set_option maxRecDepth 4000
set_option linter.unusedSimpArgs false
set_option linter.unusedVariables false

theorem fn7 (b1 b2 : Bool) (L : List Sg) (hL : L.length ≤ 2 ^ 40) (H : Hp) : callL Try.prog pr 7 [slV b1 sgE L, slV b2 sgE L] H = some (.bool true, H) := by
  refine run7 (Nat.le_of_ble_eq_true rfl) ?_
  simp (disch := first | rfl | omega | exact lt_new _ | assumption | decide | (simp [tk_here, tk_app, tk_0, tk_S, gr_here, gr_app, gr_0, gr_S] <;> omega) | fail) only [r7_0, r7_1, r7_2, r7_3, r7_4, r7_5, r7_6, r7_7, r7_8, r7_10, c7, rs7, gc7, go_sem, ↓reduceIte, Nat.reduceLT, Nat.reduceEqDiff, Nat.reduceAdd, Nat.reduceMul, Nat.reduceSub, Int.reduceAdd, Int.reduceSub, Nat.reduceLeDiff, Int.reduceLT, Int.reduceLE, Int.reduceEq, Int.reduceNeg, Int.reduceToNat]
  repeat' ((first | refine guardB_dec (fun hy => ?_) (fun hy => ?_) | refine guardB_bool (fun hy => ?_) (fun hy => ?_) | refine guardQ_ite (fun hy => ?_) (fun hy => ?_) | refine brQ_dec (fun hy => ?_) (fun hy => ?_) | refine brQ_bool (fun hy => ?_) (fun hy => ?_)) <;> (try simp only [Bool.not_eq_true', Bool.not_eq_false', Bool.and_eq_true, Bool.or_eq_false_iff, decide_eq_true_eq, decide_eq_false_iff_not] at hy) <;> simp (disch := first | rfl | omega | exact lt_new _ | assumption | decide | (simp [tk_here, tk_app, tk_0, tk_S, gr_here, gr_app, gr_0, gr_S] <;> omega) | fail) only [r7_0, r7_1, r7_2, r7_3, r7_4, r7_5, r7_6, r7_7, r7_8, r7_10, c7, rs7, gc7, go_sem, ↓reduceIte, Nat.reduceLT, Nat.reduceEqDiff, Nat.reduceAdd, Nat.reduceMul, Nat.reduceSub, Int.reduceAdd, Int.reduceSub, Nat.reduceLeDiff, Int.reduceLT, Int.reduceLE, Int.reduceEq, Int.reduceNeg, Int.reduceToNat, hy])
  refine Wp_loop (fun m T D H' => ∃ i, m = L.length - i ∧ i ≤ L.length ∧ D = [] ∧ (∀ j, j < H.length → H'[j]? = H[j]?) ∧ H.length ≤ H'.length ∧ get T 0 = slV b1 sgE L ∧ get T 1 = slV b2 sgE L ∧ get T 5 = .int .i64 i) ?_ L.length _ _ _ ?_
  case refine_2 => exact ⟨0, by simp, by omega, rfl, fun _ _ => rfl, Nat.le_refl _, by simp (disch := first | rfl | omega | exact lt_new _ | assumption | decide | (simp [tk_here, tk_app, tk_0, tk_S, gr_here, gr_app, gr_0, gr_S] <;> omega) | fail) only [go_sem, ↓reduceIte, Nat.reduceLT, Nat.reduceEqDiff, Nat.reduceAdd, Nat.reduceMul, Nat.reduceSub, Int.reduceAdd, Int.reduceSub, Nat.reduceLeDiff, Int.reduceLT, Int.reduceLE, Int.reduceEq, Int.reduceNeg, Int.reduceToNat]⟩
  rintro m T D H1 ⟨i, rfl, hi, rfl, hold, hlen, t0, t1, t5⟩
  by_cases hlt : i < L.length
  · have hlt' : (i : Int) < L.length := by omega
    simp (disch := first | rfl | omega | exact lt_new _ | assumption | decide | (simp [tk_here, tk_app, tk_0, tk_S, gr_here, gr_app, gr_0, gr_S] <;> omega) | fail) only [r7_0, r7_1, r7_2, r7_3, r7_4, r7_5, r7_6, r7_7, r7_8, l7_9, r7_10, c7, rs7, gc7, loadV_ptr, storeV_ptr, getRow_app', getRow_setS, getRow_setO, getRow_lastN, set_lastN, set_app, List.set_set, bl_nil, bl_all, getRow_bl, set_bl, t0, t1, t5, hlt', go_sem, ↓reduceIte, Nat.reduceLT, Nat.reduceEqDiff, Nat.reduceAdd, Nat.reduceMul, Nat.reduceSub, Int.reduceAdd, Int.reduceSub, Nat.reduceLeDiff, Int.reduceLT, Int.reduceLE, Int.reduceEq, Int.reduceNeg, Int.reduceToNat]
    repeat' ((first | refine guardB_dec (fun hy => ?_) (fun hy => ?_) | refine guardB_bool (fun hy => ?_) (fun hy => ?_) | refine guardQ_ite (fun hy => ?_) (fun hy => ?_) | refine brQ_dec (fun hy => ?_) (fun hy => ?_) | refine brQ_bool (fun hy => ?_) (fun hy => ?_)) <;> (try simp only [Bool.not_eq_true', Bool.not_eq_false', Bool.and_eq_true, Bool.or_eq_false_iff, decide_eq_true_eq, decide_eq_false_iff_not] at hy) <;> simp (disch := first | rfl | omega | exact lt_new _ | assumption | decide | (simp [tk_here, tk_app, tk_0, tk_S, gr_here, gr_app, gr_0, gr_S] <;> omega) | fail) only [r7_0, r7_1, r7_2, r7_3, r7_4, r7_5, r7_6, r7_7, r7_8, l7_9, r7_10, c7, rs7, gc7, loadV_ptr, storeV_ptr, getRow_app', getRow_setS, getRow_setO, getRow_lastN, set_lastN, set_app, List.set_set, bl_nil, bl_all, getRow_bl, set_bl, t0, t1, t5, hlt', go_sem, ↓reduceIte, Nat.reduceLT, Nat.reduceEqDiff, Nat.reduceAdd, Nat.reduceMul, Nat.reduceSub, Int.reduceAdd, Int.reduceSub, Nat.reduceLeDiff, Int.reduceLT, Int.reduceLE, Int.reduceEq, Int.reduceNeg, Int.reduceToNat, hy])
    refine ⟨_, by omega, i + 1, rfl, by omega, fun j hj => ?_, by simp only [List.length_append]; omega, rfl⟩
    rw [List.append_assoc, List.getElem?_append_left (by omega)]
    exact hold j hj
  · obtain rfl : i = L.length := by omega
    simp (disch := first | rfl | omega | exact lt_new _ | assumption | decide | (simp [tk_here, tk_app, tk_0, tk_S, gr_here, gr_app, gr_0, gr_S] <;> omega) | fail) only [r7_0, r7_1, r7_2, r7_3, r7_4, r7_5, r7_6, r7_7, r7_8, l7_9, r7_10, c7, rs7, gc7, t0, t1, t5, Int.lt_irrefl, go_sem, ↓reduceIte, Nat.reduceLT, Nat.reduceEqDiff, Nat.reduceAdd, Nat.reduceMul, Nat.reduceSub, Int.reduceAdd, Int.reduceSub, Nat.reduceLeDiff, Int.reduceLT, Int.reduceLE, Int.reduceEq, Int.reduceNeg, Int.reduceToNat]
    repeat' ((first | refine guardB_dec (fun hy => ?_) (fun hy => ?_) | refine guardB_bool (fun hy => ?_) (fun hy => ?_) | refine guardQ_ite (fun hy => ?_) (fun hy => ?_) | refine brQ_dec (fun hy => ?_) (fun hy => ?_) | refine brQ_bool (fun hy => ?_) (fun hy => ?_)) <;> (try simp only [Bool.not_eq_true', Bool.not_eq_false', Bool.and_eq_true, Bool.or_eq_false_iff, decide_eq_true_eq, decide_eq_false_iff_not] at hy) <;> simp (disch := first | rfl | omega | exact lt_new _ | assumption | decide | (simp [tk_here, tk_app, tk_0, tk_S, gr_here, gr_app, gr_0, gr_S] <;> omega) | fail) only [r7_0, r7_1, r7_2, r7_3, r7_4, r7_5, r7_6, r7_7, r7_8, l7_9, r7_10, c7, rs7, gc7, t0, t1, t5, Int.lt_irrefl, go_sem, ↓reduceIte, Nat.reduceLT, Nat.reduceEqDiff, Nat.reduceAdd, Nat.reduceMul, Nat.reduceSub, Int.reduceAdd, Int.reduceSub, Nat.reduceLeDiff, Int.reduceLT, Int.reduceLE, Int.reduceEq, Int.reduceNeg, Int.reduceToNat, hy])
    exact gcF_of hold rfl
theorem fn3 (b : Bool) (l : List UInt8) (a1 a2 a3 a4 : Int) (hl : l.length ≤ 2 ^ 48) (H : Hp) : callL Try.prog pr 3 [slV b byE l, .agg [.int .i64 a1, .int .i64 a2, .int .i64 a3, .int .i64 a4]] H = some (.bool true, H) := by
  have hk := known_call
  refine run3 (Nat.le_of_ble_eq_true rfl) ?_
  by_cases ha : (40000 : Int) < l.length
  · skip
    simp (disch := first | rfl | omega | exact lt_new _ | assumption | decide | (simp [tk_here, tk_app, tk_0, tk_S, gr_here, gr_app, gr_0, gr_S] <;> omega) | fail) only [r3_0, r3_1, r3_2, r3_3, r3_4, r3_5, c3, rs3, gc3, ha, hk, go_sem, ↓reduceIte, Nat.reduceLT, Nat.reduceEqDiff, Nat.reduceAdd, Nat.reduceMul, Nat.reduceSub, Int.reduceAdd, Int.reduceSub, Nat.reduceLeDiff, Int.reduceLT, Int.reduceLE, Int.reduceEq, Int.reduceNeg, Int.reduceToNat]
    repeat' ((first | refine guardB_dec (fun hy => ?_) (fun hy => ?_) | refine guardB_bool (fun hy => ?_) (fun hy => ?_) | refine guardQ_ite (fun hy => ?_) (fun hy => ?_) | refine brQ_dec (fun hy => ?_) (fun hy => ?_) | refine brQ_bool (fun hy => ?_) (fun hy => ?_)) <;> (try simp only [Bool.not_eq_true', Bool.not_eq_false', Bool.and_eq_true, Bool.or_eq_false_iff, decide_eq_true_eq, decide_eq_false_iff_not] at hy) <;> simp (disch := first | rfl | omega | exact lt_new _ | assumption | decide | (simp [tk_here, tk_app, tk_0, tk_S, gr_here, gr_app, gr_0, gr_S] <;> omega) | fail) only [r3_0, r3_1, r3_2, r3_3, r3_4, r3_5, c3, rs3, gc3, ha, hk, go_sem, ↓reduceIte, Nat.reduceLT, Nat.reduceEqDiff, Nat.reduceAdd, Nat.reduceMul, Nat.reduceSub, Int.reduceAdd, Int.reduceSub, Nat.reduceLeDiff, Int.reduceLT, Int.reduceLE, Int.reduceEq, Int.reduceNeg, Int.reduceToNat, hy])
    all_goals (try ((first | refine finQ_same ?_ | refine finQ_app ?_ | (rw [List.append_assoc]; refine finQ_app ?_)) <;> simp (disch := first | rfl | omega | exact lt_new _ | assumption | decide | (simp [tk_here, tk_app, tk_0, tk_S, gr_here, gr_app, gr_0, gr_S] <;> omega) | fail) only [go_sem, ↓reduceIte, Nat.reduceLT, Nat.reduceEqDiff, Nat.reduceAdd, Nat.reduceMul, Nat.reduceSub, Int.reduceAdd, Int.reduceSub, Nat.reduceLeDiff, Int.reduceLT, Int.reduceLE, Int.reduceEq, Int.reduceNeg, Int.reduceToNat, List.append_assoc, List.cons_append, List.nil_append, *]))
    all_goals (try first | rfl | (simp [*]; done) | grind)
  have h5 := fn5 a1 a2 b l a3 a4 (by omega)
  have h6 := fn6 a1 a2 b l a3 a4 (by omega)
  obtain ⟨r, hr⟩ : ∃ r, cutR a1 a2 l a3 a4 = r := ⟨_, rfl⟩
  have hrl : r.1.length ≤ 200 := by
    rw [← hr]
    unfold cutR
    split
    · simp
    · split
      · simp
      · rw [cutS_len]; omega
  rw [hr] at h5 h6
  have h7 := fn7 true true r.1 (by omega)
  simp (disch := first | rfl | omega | exact lt_new _ | assumption | decide | (simp [tk_here, tk_app, tk_0, tk_S, gr_here, gr_app, gr_0, gr_S] <;> omega) | fail) only [r3_0, r3_1, r3_2, r3_3, r3_4, r3_5, c3, rs3, gc3, ha, hk, h5, h6, h7, go_sem, ↓reduceIte, Nat.reduceLT, Nat.reduceEqDiff, Nat.reduceAdd, Nat.reduceMul, Nat.reduceSub, Int.reduceAdd, Int.reduceSub, Nat.reduceLeDiff, Int.reduceLT, Int.reduceLE, Int.reduceEq, Int.reduceNeg, Int.reduceToNat]
  repeat' ((first | refine guardB_dec (fun hy => ?_) (fun hy => ?_) | refine guardB_bool (fun hy => ?_) (fun hy => ?_) | refine guardQ_ite (fun hy => ?_) (fun hy => ?_) | refine brQ_dec (fun hy => ?_) (fun hy => ?_) | refine brQ_bool (fun hy => ?_) (fun hy => ?_)) <;> (try simp only [Bool.not_eq_true', Bool.not_eq_false', Bool.and_eq_true, Bool.or_eq_false_iff, decide_eq_true_eq, decide_eq_false_iff_not] at hy) <;> simp (disch := first | rfl | omega | exact lt_new _ | assumption | decide | (simp [tk_here, tk_app, tk_0, tk_S, gr_here, gr_app, gr_0, gr_S] <;> omega) | fail) only [r3_0, r3_1, r3_2, r3_3, r3_4, r3_5, c3, rs3, gc3, ha, hk, h5, h6, h7, go_sem, ↓reduceIte, Nat.reduceLT, Nat.reduceEqDiff, Nat.reduceAdd, Nat.reduceMul, Nat.reduceSub, Int.reduceAdd, Int.reduceSub, Nat.reduceLeDiff, Int.reduceLT, Int.reduceLE, Int.reduceEq, Int.reduceNeg, Int.reduceToNat, hy])
  all_goals (try ((first | refine finQ_same ?_ | refine finQ_app ?_ | (rw [List.append_assoc]; refine finQ_app ?_)) <;> simp (disch := first | rfl | omega | exact lt_new _ | assumption | decide | (simp [tk_here, tk_app, tk_0, tk_S, gr_here, gr_app, gr_0, gr_S] <;> omega) | fail) only [go_sem, ↓reduceIte, Nat.reduceLT, Nat.reduceEqDiff, Nat.reduceAdd, Nat.reduceMul, Nat.reduceSub, Int.reduceAdd, Int.reduceSub, Nat.reduceLeDiff, Int.reduceLT, Int.reduceLE, Int.reduceEq, Int.reduceNeg, Int.reduceToNat, List.append_assoc, List.cons_append, List.nil_append, *]))
  all_goals (try first | rfl | (simp [*]; done) | grind)
end Go.Proofs.Ytlkeomoleecfeaa
