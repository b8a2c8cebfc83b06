/-
  Texts of this seat, laid together. No statement of the seat stands here.
-/
import Derived.Test.YteeofpgnjekeaaaGreatDoorP4
/-
  Times, and the functions that look for one in a list; walked. No statement of the seat stands here.
-/
namespace Go.Proofs.YteeofpgnjekeaaaGreatDoor
open Go Go.An
set_option maxRecDepth 4000
set_option linter.unusedSimpArgs false
set_option linter.unusedVariables false

def okT (n : Int) : Bool := decide (0 ≤ n) && decide (n ≤ 1000000000000000)
theorem fn57 (n : Int) (H : Hp) : callL Tryz.prog pr 57 [.int .i64 n] H = some (.bool (okT n), H) := by
  refine run57 (Nat.le_of_ble_eq_true rfl) ?_
  unfold okT
  simp (disch := first | rfl | omega | exact lt_new _ | assumption | decide | (simp [tk_here, tk_app, tk_0, tk_S, gr_here, gr_app, gr_0, gr_S] <;> omega) | fail) only [r57_0, r57_1, c57, rs57, gc57, go_sem, ↓reduceIte, Nat.reduceLT, Nat.reduceEqDiff, Nat.reduceAdd, Nat.reduceMul, Nat.reduceSub, Int.reduceAdd, Int.reduceSub, Nat.reduceLeDiff, Int.reduceLT, Int.reduceLE, Int.reduceEq, Int.reduceNeg, Int.reduceToNat]
  repeat' ((first | refine guardB_dec (fun hy => ?_) (fun hy => ?_) | refine guardB_bool (fun hy => ?_) (fun hy => ?_) | refine guardQ_ite (fun hy => ?_) (fun hy => ?_) | refine brQ_dec (fun hy => ?_) (fun hy => ?_) | refine brQ_bool (fun hy => ?_) (fun hy => ?_)) <;> (try simp only [Bool.not_eq_true', Bool.not_eq_false', Bool.and_eq_true, Bool.or_eq_false_iff, decide_eq_true_eq, decide_eq_false_iff_not] at hy) <;> simp (disch := first | rfl | omega | exact lt_new _ | assumption | decide | (simp [tk_here, tk_app, tk_0, tk_S, gr_here, gr_app, gr_0, gr_S] <;> omega) | fail) only [r57_0, r57_1, c57, rs57, gc57, go_sem, ↓reduceIte, Nat.reduceLT, Nat.reduceEqDiff, Nat.reduceAdd, Nat.reduceMul, Nat.reduceSub, Int.reduceAdd, Int.reduceSub, Nat.reduceLeDiff, Int.reduceLT, Int.reduceLE, Int.reduceEq, Int.reduceNeg, Int.reduceToNat, hy])
  all_goals (try ((first | refine finQ_same ?_ | refine finQ_app ?_ | (rw [List.append_assoc]; refine finQ_app ?_)) <;> simp (disch := first | rfl | omega | exact lt_new _ | assumption | decide | (simp [tk_here, tk_app, tk_0, tk_S, gr_here, gr_app, gr_0, gr_S] <;> omega) | fail) only [go_sem, ↓reduceIte, Nat.reduceLT, Nat.reduceEqDiff, Nat.reduceAdd, Nat.reduceMul, Nat.reduceSub, Int.reduceAdd, Int.reduceSub, Nat.reduceLeDiff, Int.reduceLT, Int.reduceLE, Int.reduceEq, Int.reduceNeg, Int.reduceToNat, List.append_assoc, List.cons_append, List.nil_append, *]))
  all_goals (try first | rfl | (simp [*]; done) | grind)
theorem fn58 (n : Int) (H : Hp) : callL Tryz.prog pr 58 [.int .i64 n] H = some (.bool (okT n), H) := by
  refine run58 (Nat.le_of_ble_eq_true rfl) ?_
  unfold okT
  simp (disch := first | rfl | omega | exact lt_new _ | assumption | decide | (simp [tk_here, tk_app, tk_0, tk_S, gr_here, gr_app, gr_0, gr_S] <;> omega) | fail) only [r58_0, r58_1, c58, rs58, gc58, go_sem, ↓reduceIte, Nat.reduceLT, Nat.reduceEqDiff, Nat.reduceAdd, Nat.reduceMul, Nat.reduceSub, Int.reduceAdd, Int.reduceSub, Nat.reduceLeDiff, Int.reduceLT, Int.reduceLE, Int.reduceEq, Int.reduceNeg, Int.reduceToNat]
  repeat' ((first | refine guardB_dec (fun hy => ?_) (fun hy => ?_) | refine guardB_bool (fun hy => ?_) (fun hy => ?_) | refine guardQ_ite (fun hy => ?_) (fun hy => ?_) | refine brQ_dec (fun hy => ?_) (fun hy => ?_) | refine brQ_bool (fun hy => ?_) (fun hy => ?_)) <;> (try simp only [Bool.not_eq_true', Bool.not_eq_false', Bool.and_eq_true, Bool.or_eq_false_iff, decide_eq_true_eq, decide_eq_false_iff_not] at hy) <;> simp (disch := first | rfl | omega | exact lt_new _ | assumption | decide | (simp [tk_here, tk_app, tk_0, tk_S, gr_here, gr_app, gr_0, gr_S] <;> omega) | fail) only [r58_0, r58_1, c58, rs58, gc58, go_sem, ↓reduceIte, Nat.reduceLT, Nat.reduceEqDiff, Nat.reduceAdd, Nat.reduceMul, Nat.reduceSub, Int.reduceAdd, Int.reduceSub, Nat.reduceLeDiff, Int.reduceLT, Int.reduceLE, Int.reduceEq, Int.reduceNeg, Int.reduceToNat, hy])
  all_goals (try ((first | refine finQ_same ?_ | refine finQ_app ?_ | (rw [List.append_assoc]; refine finQ_app ?_)) <;> simp (disch := first | rfl | omega | exact lt_new _ | assumption | decide | (simp [tk_here, tk_app, tk_0, tk_S, gr_here, gr_app, gr_0, gr_S] <;> omega) | fail) only [go_sem, ↓reduceIte, Nat.reduceLT, Nat.reduceEqDiff, Nat.reduceAdd, Nat.reduceMul, Nat.reduceSub, Int.reduceAdd, Int.reduceSub, Nat.reduceLeDiff, Int.reduceLT, Int.reduceLE, Int.reduceEq, Int.reduceNeg, Int.reduceToNat, List.append_assoc, List.cons_append, List.nil_append, *]))
  all_goals (try first | rfl | (simp [*]; done) | grind)
theorem fn56 (n : Int) (H : Hp) : callL Tryz.prog pr 56 [.int .i64 n] H = some (.bool (!okT n), H) := by
  have h57 := fn57
  refine run56 (Nat.le_of_ble_eq_true rfl) ?_
  simp (disch := first | rfl | omega | exact lt_new _ | assumption | decide | (simp [tk_here, tk_app, tk_0, tk_S, gr_here, gr_app, gr_0, gr_S] <;> omega) | fail) only [r56_0, r56_1, c56, rs56, gc56, h57, go_sem, ↓reduceIte, Nat.reduceLT, Nat.reduceEqDiff, Nat.reduceAdd, Nat.reduceMul, Nat.reduceSub, Int.reduceAdd, Int.reduceSub, Nat.reduceLeDiff, Int.reduceLT, Int.reduceLE, Int.reduceEq, Int.reduceNeg, Int.reduceToNat]
  repeat' ((first | refine guardB_dec (fun hy => ?_) (fun hy => ?_) | refine guardB_bool (fun hy => ?_) (fun hy => ?_) | refine guardQ_ite (fun hy => ?_) (fun hy => ?_) | refine brQ_dec (fun hy => ?_) (fun hy => ?_) | refine brQ_bool (fun hy => ?_) (fun hy => ?_)) <;> (try simp only [Bool.not_eq_true', Bool.not_eq_false', Bool.and_eq_true, Bool.or_eq_false_iff, decide_eq_true_eq, decide_eq_false_iff_not] at hy) <;> simp (disch := first | rfl | omega | exact lt_new _ | assumption | decide | (simp [tk_here, tk_app, tk_0, tk_S, gr_here, gr_app, gr_0, gr_S] <;> omega) | fail) only [r56_0, r56_1, c56, rs56, gc56, h57, go_sem, ↓reduceIte, Nat.reduceLT, Nat.reduceEqDiff, Nat.reduceAdd, Nat.reduceMul, Nat.reduceSub, Int.reduceAdd, Int.reduceSub, Nat.reduceLeDiff, Int.reduceLT, Int.reduceLE, Int.reduceEq, Int.reduceNeg, Int.reduceToNat, hy])
  all_goals (try ((first | refine finQ_same ?_ | refine finQ_app ?_ | (rw [List.append_assoc]; refine finQ_app ?_)) <;> simp (disch := first | rfl | omega | exact lt_new _ | assumption | decide | (simp [tk_here, tk_app, tk_0, tk_S, gr_here, gr_app, gr_0, gr_S] <;> omega) | fail) only [go_sem, ↓reduceIte, Nat.reduceLT, Nat.reduceEqDiff, Nat.reduceAdd, Nat.reduceMul, Nat.reduceSub, Int.reduceAdd, Int.reduceSub, Nat.reduceLeDiff, Int.reduceLT, Int.reduceLE, Int.reduceEq, Int.reduceNeg, Int.reduceToNat, List.append_assoc, List.cons_append, List.nil_append, *]))
  all_goals (try first | rfl | (simp [*]; done) | grind)
theorem fn54 {b : Bool} {l : List Int} (H : Hp) : callL Tryz.prog pr 54 [slV b inE l] H = some (.bool (decide ((200 : Int) < l.length)), H) := by
  refine run54 (Nat.le_of_ble_eq_true rfl) ?_
  simp (disch := first | rfl | omega | exact lt_new _ | assumption | decide | (simp [tk_here, tk_app, tk_0, tk_S, gr_here, gr_app, gr_0, gr_S] <;> omega) | fail) only [r54_0, r54_1, c54, rs54, gc54, go_sem, ↓reduceIte, Nat.reduceLT, Nat.reduceEqDiff, Nat.reduceAdd, Nat.reduceMul, Nat.reduceSub, Int.reduceAdd, Int.reduceSub, Nat.reduceLeDiff, Int.reduceLT, Int.reduceLE, Int.reduceEq, Int.reduceNeg, Int.reduceToNat]
  repeat' ((first | refine guardB_dec (fun hy => ?_) (fun hy => ?_) | refine guardB_bool (fun hy => ?_) (fun hy => ?_) | refine guardQ_ite (fun hy => ?_) (fun hy => ?_) | refine brQ_dec (fun hy => ?_) (fun hy => ?_) | refine brQ_bool (fun hy => ?_) (fun hy => ?_)) <;> (try simp only [Bool.not_eq_true', Bool.not_eq_false', Bool.and_eq_true, Bool.or_eq_false_iff, decide_eq_true_eq, decide_eq_false_iff_not] at hy) <;> simp (disch := first | rfl | omega | exact lt_new _ | assumption | decide | (simp [tk_here, tk_app, tk_0, tk_S, gr_here, gr_app, gr_0, gr_S] <;> omega) | fail) only [r54_0, r54_1, c54, rs54, gc54, go_sem, ↓reduceIte, Nat.reduceLT, Nat.reduceEqDiff, Nat.reduceAdd, Nat.reduceMul, Nat.reduceSub, Int.reduceAdd, Int.reduceSub, Nat.reduceLeDiff, Int.reduceLT, Int.reduceLE, Int.reduceEq, Int.reduceNeg, Int.reduceToNat, hy])
  all_goals (try ((first | refine finQ_same ?_ | refine finQ_app ?_ | (rw [List.append_assoc]; refine finQ_app ?_)) <;> simp (disch := first | rfl | omega | exact lt_new _ | assumption | decide | (simp [tk_here, tk_app, tk_0, tk_S, gr_here, gr_app, gr_0, gr_S] <;> omega) | fail) only [go_sem, ↓reduceIte, Nat.reduceLT, Nat.reduceEqDiff, Nat.reduceAdd, Nat.reduceMul, Nat.reduceSub, Int.reduceAdd, Int.reduceSub, Nat.reduceLeDiff, Int.reduceLT, Int.reduceLE, Int.reduceEq, Int.reduceNeg, Int.reduceToNat, List.append_assoc, List.cons_append, List.nil_append, *]))
  all_goals (try first | rfl | (simp [*]; done) | grind)
theorem fn110L {b : Bool} {l : List Int} {H : Hp} (hlen : l.length < 2 ^ 62) (p : Int → Bool) (f : Nat) (ca cb : List V) (hk : ∀ v, demK f v = v.dem) (hf : ∀ x ∈ l, callL Tryz.prog pr f (ca ++ [.int .i64 x] ++ cb) H = some (.bool (p x), H)) : callL Tryz.prog pr 110 [slV b inE l, .fn f ca cb] H = some (.int .i64 (findI p l 0), H) := by
  have hfy := ne_demK hk
  refine run110 (Nat.le_of_ble_eq_true rfl) ?_
  simp (disch := first | rfl | omega | exact lt_new _ | assumption | decide | (simp [tk_here, tk_app, tk_0, tk_S, gr_here, gr_app, gr_0, gr_S] <;> omega) | fail) only [r110_0, r110_1, r110_2, r110_3, r110_4, r110_5, r110_6, r110_8, c110, rs110, gc110, go_sem, ↓reduceIte, Nat.reduceLT, Nat.reduceEqDiff, Nat.reduceAdd, Nat.reduceMul, Nat.reduceSub, Int.reduceAdd, Int.reduceSub, Nat.reduceLeDiff, Int.reduceLT, Int.reduceLE, Int.reduceEq, Int.reduceNeg, Int.reduceToNat]
  refine Wp_loop (fun m T D H' => ∃ i, m = l.length - i ∧ i ≤ l.length ∧ D = [] ∧ H' = H ∧ get T 0 = slV b inE l ∧ get T 1 = .fn f ca cb ∧ get T 7 = .int .i64 l.length ∧ get T 8 = .int .i64 i ∧ findI p l 0 = findI p (l.drop i) i) ?_ l.length _ _ _ ?_
  · rintro m T D H' ⟨i, rfl, hi, rfl, rfl, h0, h1, h7, h8, hp⟩
    by_cases hlt : i < l.length
    · have hlt' : (i : Int) < l.length := by omega
      have hpi := findI_drop p (inE.at_some hlt) i
      have hfi := hf _ (inE.at_mem hlt)
      have hld := fun H => @ld_cell0 _ Tryz.prog H _ inE l 3 1 i g3 rfl hlt
      simp (disch := first | rfl | omega | exact lt_new _ | assumption | decide | (simp [tk_here, tk_app, tk_0, tk_S, gr_here, gr_app, gr_0, gr_S] <;> omega) | fail) only [r110_0, r110_1, r110_2, r110_3, r110_4, r110_5, r110_6, l110_7, r110_8, c110, rs110, gc110, go_sem, ↓reduceIte, Nat.reduceLT, Nat.reduceEqDiff, Nat.reduceAdd, Nat.reduceMul, Nat.reduceSub, Int.reduceAdd, Int.reduceSub, Nat.reduceLeDiff, Int.reduceLT, Int.reduceLE, Int.reduceEq, Int.reduceNeg, Int.reduceToNat, h0, h1, h7, h8, hld, hk, hfi, hlt', decide_true]
      refine brQ_bool (fun hy => ?_) (fun hy => ?_)
      · rw [if_pos hy] at hpi
        simp (disch := first | rfl | omega | exact lt_new _ | assumption | decide | (simp [tk_here, tk_app, tk_0, tk_S, gr_here, gr_app, gr_0, gr_S] <;> omega) | fail) only [r110_0, r110_1, r110_2, r110_3, r110_4, r110_5, r110_6, l110_7, r110_8, c110, rs110, gc110, go_sem, ↓reduceIte, Nat.reduceLT, Nat.reduceEqDiff, Nat.reduceAdd, Nat.reduceMul, Nat.reduceSub, Int.reduceAdd, Int.reduceSub, Nat.reduceLeDiff, Int.reduceLT, Int.reduceLE, Int.reduceEq, Int.reduceNeg, Int.reduceToNat, h0, h1, h7, h8]
        refine finQ_same ?_
        simp (disch := first | rfl | omega | exact lt_new _ | assumption | decide | (simp [tk_here, tk_app, tk_0, tk_S, gr_here, gr_app, gr_0, gr_S] <;> omega) | fail) only [go_sem, ↓reduceIte, Nat.reduceLT, Nat.reduceEqDiff, Nat.reduceAdd, Nat.reduceMul, Nat.reduceSub, Int.reduceAdd, Int.reduceSub, Nat.reduceLeDiff, Int.reduceLT, Int.reduceLE, Int.reduceEq, Int.reduceNeg, Int.reduceToNat, hp, hpi]
      · rw [if_neg (by simp [hy])] at hpi
        simp (disch := first | rfl | omega | exact lt_new _ | assumption | decide | (simp [tk_here, tk_app, tk_0, tk_S, gr_here, gr_app, gr_0, gr_S] <;> omega) | fail) only [r110_0, r110_1, r110_2, r110_3, r110_4, r110_5, r110_6, l110_7, r110_8, c110, rs110, gc110, go_sem, ↓reduceIte, Nat.reduceLT, Nat.reduceEqDiff, Nat.reduceAdd, Nat.reduceMul, Nat.reduceSub, Int.reduceAdd, Int.reduceSub, Nat.reduceLeDiff, Int.reduceLT, Int.reduceLE, Int.reduceEq, Int.reduceNeg, Int.reduceToNat, h0, h1, h7, h8]
        exact ⟨_, by omega, i + 1, rfl, hlt, rfl, by rw [hp, hpi]; rfl⟩
    · obtain rfl : i = l.length := by omega
      simp (disch := first | rfl | omega | exact lt_new _ | assumption | decide | (simp [tk_here, tk_app, tk_0, tk_S, gr_here, gr_app, gr_0, gr_S] <;> omega) | fail) only [r110_0, r110_1, r110_2, r110_3, r110_4, r110_5, r110_6, l110_7, r110_8, c110, rs110, gc110, go_sem, ↓reduceIte, Nat.reduceLT, Nat.reduceEqDiff, Nat.reduceAdd, Nat.reduceMul, Nat.reduceSub, Int.reduceAdd, Int.reduceSub, Nat.reduceLeDiff, Int.reduceLT, Int.reduceLE, Int.reduceEq, Int.reduceNeg, Int.reduceToNat, h0, h1, h7, h8, Int.lt_irrefl, decide_false]
      refine finQ_same ?_
      rw [hp, List.drop_length]
      simp (disch := first | rfl | omega | exact lt_new _ | assumption | decide | (simp [tk_here, tk_app, tk_0, tk_S, gr_here, gr_app, gr_0, gr_S] <;> omega) | fail) only [go_sem, ↓reduceIte, Nat.reduceLT, Nat.reduceEqDiff, Nat.reduceAdd, Nat.reduceMul, Nat.reduceSub, Int.reduceAdd, Int.reduceSub, Nat.reduceLeDiff, Int.reduceLT, Int.reduceLE, Int.reduceEq, Int.reduceNeg, Int.reduceToNat, findI]
  · exact ⟨0, by simp [go_sem]⟩

theorem fn55L {b : Bool} {l : List Int} {H : Hp} (hlen : l.length < 2 ^ 62) (p : Int → Bool) (f : Nat) (ca cb : List V) (hk : ∀ v, demK f v = v.dem) (hf : ∀ x ∈ l, callL Tryz.prog pr f (ca ++ [.int .i64 x] ++ cb) H = some (.bool (p x), H)) : callL Tryz.prog pr 55 [slV b inE l, .fn f ca cb] H = some (.bool (l.any p), H) := by
  refine run55 (Nat.le_of_ble_eq_true rfl) ?_
  simp (disch := first | rfl | omega | exact lt_new _ | assumption | decide | (simp [tk_here, tk_app, tk_0, tk_S, gr_here, gr_app, gr_0, gr_S] <;> omega) | fail) only [r55_0, r55_1, c55, rs55, gc55, go_sem, ↓reduceIte, Nat.reduceLT, Nat.reduceEqDiff, Nat.reduceAdd, Nat.reduceMul, Nat.reduceSub, Int.reduceAdd, Int.reduceSub, Nat.reduceLeDiff, Int.reduceLT, Int.reduceLE, Int.reduceEq, Int.reduceNeg, Int.reduceToNat, fn110L hlen p f ca cb hk hf]
  refine finQ_same ?_
  simp (disch := first | rfl | omega | exact lt_new _ | assumption | decide | (simp [tk_here, tk_app, tk_0, tk_S, gr_here, gr_app, gr_0, gr_S] <;> omega) | fail) only [go_sem, ↓reduceIte, Nat.reduceLT, Nat.reduceEqDiff, Nat.reduceAdd, Nat.reduceMul, Nat.reduceSub, Int.reduceAdd, Int.reduceSub, Nat.reduceLeDiff, Int.reduceLT, Int.reduceLE, Int.reduceEq, Int.reduceNeg, Int.reduceToNat, findI_any p l 0 (by omega)]

@[go_sem] theorem ld_in {l : List Int} {i : Nat} {H : Hp} (h : i < l.length) : loadV Tryz.prog 3 H (.ipt (flatE inE l) (i * 1)) = some (.int .i64 (inE.at l i)) := ld_cell0 g3 rfl h
@[go_sem] theorem ld_in0 {l : List Int} {H : Hp} (h : 0 < l.length) : loadV Tryz.prog 3 H (.ipt (flatE inE l) 0) = some (.int .i64 (inE.at l 0)) := ld_in (i := 0) h
@[go_sem] theorem ld_bo {l : List Bool} {i : Nat} {H : Hp} (h : i < l.length) : loadV Tryz.prog 4 H (.ipt (flatE boE l) (i * 1)) = some (.bool (boE.at l i)) := ld_cell0 g4 rfl h
/-- A law's three numbers. -/
structure Tr where
  a : Int
  b : Int
  c : Int
  deriving DecidableEq
def trE : Enc Tr := ⟨fun p => [.int .i64 p.a, .int .i64 p.b, .int .i64 p.c], 3, ⟨0, 0, 0⟩, fun _ => rfl, by decide, fun p => by simp only [immL, slV_imm]; rfl⟩
theorem trE_f (p : Tr) : trE.f p = [.int .i64 p.a, .int .i64 p.b, .int .i64 p.c] := rfl
@[go_sem] theorem trE_w : trE.w = 3 := rfl
@[go_sem] theorem trE_l (p : Tr) : (trE.f p).length = 3 := rfl
@[go_sem] theorem trE_t (p : Tr) : (trE.f p).take 3 = trE.f p := rfl
@[go_sem] theorem trE_sa (p : Tr) : setAt [.int .i64 0, .int .i64 0, .int .i64 0] 0 (trE.f p) = trE.f p := rfl
@[go_sem] theorem trE_pa (p : Tr) : partK (some true) (some 3) (trE.f p) 0 = some (.agg (trE.f p)) := rfl
@[go_sem] theorem trE_0 (p : Tr) : (trE.f p)[0]? = some (.int .i64 p.a) := rfl
@[go_sem] theorem trE_1 (p : Tr) : (trE.f p)[1]? = some (.int .i64 p.b) := rfl
@[go_sem] theorem trE_2 (p : Tr) : (trE.f p)[2]? = some (.int .i64 p.c) := rfl
@[go_sem] theorem ld_trE {l : List Tr} {i : Nat} {H : Hp} (h : i < l.length) : loadV Tryz.prog 32 H (.ipt (flatE trE l) (i * 3)) = some (.agg (trE.f (trE.at l i))) := ld_agg g32 z32 rfl h
@[go_sem] theorem ld_trE_0 {l : List Tr} {i : Nat} {H : Hp} (h : i < l.length) : loadV Tryz.prog 3 H (.ipt (flatE trE l) (i * 3)) = some (.int .i64 (trE.at l i).a) := ld_cell0 g3 rfl h
@[go_sem] theorem ld_trE_1 {l : List Tr} {i : Nat} {H : Hp} (h : i < l.length) : loadV Tryz.prog 3 H (.ipt (flatE trE l) (i * 3 + 1)) = some (.int .i64 (trE.at l i).b) := ld_cell (j := 1) g3 rfl h (by omega)
@[go_sem] theorem ld_trE_2 {l : List Tr} {i : Nat} {H : Hp} (h : i < l.length) : loadV Tryz.prog 3 H (.ipt (flatE trE l) (i * 3 + 2)) = some (.int .i64 (trE.at l i).c) := ld_cell (j := 2) g3 rfl h (by omega)
def TrOk (p : Tr) : Prop := Inx p.a ∧ Inx p.b ∧ Inx p.c
theorem trE_3 (a b c : Int) : ([.int .i64 a, .int .i64 b, .int .i64 c] : List V) = trE.f ⟨a, b, c⟩ := rfl
@[go_sem] theorem ck_trE (x : Tr) : ckOks [.int .i64, .int .i64, .int .i64] (trE.f x) = true := rfl
@[go_sem] theorem eq_trE (x y : Tr) : eqCells (trE.f x) (trE.f y) = decide (x = y) := by
  obtain ⟨a, b, c⟩ := x
  obtain ⟨a', b', c'⟩ := y
  simp only [trE_f, eqCells_cons, eqCells_nil, eqCell_int, Tr.mk.injEq, Bool.decide_and, Bool.and_true]
@[go_sem] theorem pa3 (a b c : V) : partK (some true) (some 3) [a, b, c] 0 = some (.agg [a, b, c]) := rfl
@[go_sem] theorem sa3 (x y z a b c : V) : setAt [x, y, z] 0 [a, b, c] = [a, b, c] := rfl
@[go_sem] theorem sa3_1 (x y z a : V) : setAt [x, y, z] 1 [a] = [x, a, z] := rfl
@[go_sem] theorem sa3_2 (x y z a : V) : setAt [x, y, z] 2 [a] = [x, y, a] := rfl
/-- The last one that is shown ahead of a place. -/
def lastS (s : List Bool) : Nat → Int
  | 0 => -1
  | k + 1 => if boE.at s k = true then (k : Int) else lastS s k
theorem lastS_lt (s : List Bool) : ∀ k, -1 ≤ lastS s k ∧ lastS s k < k
  | 0 => by simp [lastS]
  | k + 1 => by
    have := lastS_lt s k
    unfold lastS
    split <;> omega
def delR (t : List Int) (s : List Bool) (k : Nat) : Tr := ⟨inE.at t k - inE.at t 0, inE.at t k - inE.at t (k - 1), if 0 ≤ lastS s k then inE.at t k - inE.at t (lastS s k).toNat else 0⟩
def dels (t : List Int) (s : List Bool) : Nat → List Tr
  | 0 => []
  | k + 1 => dels t s k ++ [delR t s k]
theorem dels_len (t : List Int) (s : List Bool) : ∀ k, (dels t s k).length = k
  | 0 => rfl
  | k + 1 => by simp [dels, dels_len t s k]
def delF (t : List Int) (s : List Bool) : List Tr × Int := if t.length ≠ s.length then ([], 10) else if 200 < t.length then ([], 3) else if (t.any fun n => !okT n) = true then ([], 1) else (dels t s t.length, 0)
theorem okT_at {t : List Int} (h : ¬ (t.any fun n => !okT n) = true) {i : Nat} (hi : i < t.length) : 0 ≤ inE.at t i ∧ inE.at t i ≤ 1000000000000000 := by
  simp only [List.any_eq_true, not_exists, not_and, Bool.not_eq_true', Bool.not_eq_false] at h
  have := h _ (inE.at_mem hi)
  simpa [okT] using this
theorem lo_max {k : Nat} : (if (k : Int) - 1 > 0 then (k : Int) - 1 else 0) = ((k - 1 : Nat) : Int) := by
  split <;> omega
set_option maxHeartbeats 4000000 in
theorem fn17 (bt bs : Bool) (t : List Int) (s : List Bool) (h1 : t.length ≤ 2 ^ 48) (h2 : s.length ≤ 2 ^ 48) (H : Hp) : callL Tryz.prog pr 17 [slV bt inE t, slV bs boE s] H = some (.tup [slV true trE (delF t s).1, .int .i64 (delF t s).2], H) := by
  have h54 := fn54 (b := bt) (l := t)
  have h55 := fun H => fn55L (b := bt) (l := t) (H := H) (by omega) (fun n => !okT n) 56 [] [] kp56 (fun x _ => fn56 x H)
  refine run17 (Nat.le_of_ble_eq_true rfl) ?_
  unfold delF
  by_cases ha : t.length = s.length
  case neg =>
    rw [if_pos ha]
    have ha2 : ¬ ((t.length : Int) = s.length) := by omega
    simp (disch := first | rfl | omega | exact lt_new _ | assumption | decide | (simp [tk_here, tk_app, tk_0, tk_S, gr_here, gr_app, gr_0, gr_S] <;> omega) | fail) only [r17_0, r17_1, r17_2, r17_3, r17_4, r17_5, r17_6, r17_7, r17_8, r17_9, r17_10, r17_11, r17_12, r17_13, r17_14, r17_15, r17_16, r17_17, r17_18, r17_20, c17, rs17, gc17, ha2, slV_nil, go_sem, ↓reduceIte, Nat.reduceLT, Nat.reduceEqDiff, Nat.reduceAdd, Nat.reduceMul, Nat.reduceSub, Int.reduceAdd, Int.reduceSub, Nat.reduceLeDiff, Int.reduceLT, Int.reduceLE, Int.reduceEq, Int.reduceNeg, Int.reduceToNat]
    repeat' ((first | refine guardB_dec (fun hy => ?_) (fun hy => ?_) | refine guardB_bool (fun hy => ?_) (fun hy => ?_) | refine guardQ_ite (fun hy => ?_) (fun hy => ?_) | refine brQ_dec (fun hy => ?_) (fun hy => ?_) | refine brQ_bool (fun hy => ?_) (fun hy => ?_)) <;> (try simp only [Bool.not_eq_true', Bool.not_eq_false', Bool.and_eq_true, Bool.or_eq_false_iff, decide_eq_true_eq, decide_eq_false_iff_not] at hy) <;> simp (disch := first | rfl | omega | exact lt_new _ | assumption | decide | (simp [tk_here, tk_app, tk_0, tk_S, gr_here, gr_app, gr_0, gr_S] <;> omega) | fail) only [r17_0, r17_1, r17_2, r17_3, r17_4, r17_5, r17_6, r17_7, r17_8, r17_9, r17_10, r17_11, r17_12, r17_13, r17_14, r17_15, r17_16, r17_17, r17_18, r17_20, c17, rs17, gc17, ha2, slV_nil, go_sem, ↓reduceIte, Nat.reduceLT, Nat.reduceEqDiff, Nat.reduceAdd, Nat.reduceMul, Nat.reduceSub, Int.reduceAdd, Int.reduceSub, Nat.reduceLeDiff, Int.reduceLT, Int.reduceLE, Int.reduceEq, Int.reduceNeg, Int.reduceToNat, hy])
    all_goals (try ((first | refine finQ_same ?_ | refine finQ_app ?_ | (rw [List.append_assoc]; refine finQ_app ?_)) <;> simp (disch := first | rfl | omega | exact lt_new _ | assumption | decide | (simp [tk_here, tk_app, tk_0, tk_S, gr_here, gr_app, gr_0, gr_S] <;> omega) | fail) only [go_sem, ↓reduceIte, Nat.reduceLT, Nat.reduceEqDiff, Nat.reduceAdd, Nat.reduceMul, Nat.reduceSub, Int.reduceAdd, Int.reduceSub, Nat.reduceLeDiff, Int.reduceLT, Int.reduceLE, Int.reduceEq, Int.reduceNeg, Int.reduceToNat, List.append_assoc, List.cons_append, List.nil_append, *]))
    all_goals (try first | rfl | (simp [*]; done) | grind)
  rw [if_neg (fun h => h ha)]
  have ha2 : (t.length : Int) = s.length := by omega
  by_cases hb : 200 < t.length
  case pos =>
    rw [if_pos hb]
    have hb2 : (200 : Int) < s.length := by omega
    simp (disch := first | rfl | omega | exact lt_new _ | assumption | decide | (simp [tk_here, tk_app, tk_0, tk_S, gr_here, gr_app, gr_0, gr_S] <;> omega) | fail) only [r17_0, r17_1, r17_2, r17_3, r17_4, r17_5, r17_6, r17_7, r17_8, r17_9, r17_10, r17_11, r17_12, r17_13, r17_14, r17_15, r17_16, r17_17, r17_18, r17_20, c17, rs17, gc17, ha2, h54, hb2, slV_nil, go_sem, ↓reduceIte, Nat.reduceLT, Nat.reduceEqDiff, Nat.reduceAdd, Nat.reduceMul, Nat.reduceSub, Int.reduceAdd, Int.reduceSub, Nat.reduceLeDiff, Int.reduceLT, Int.reduceLE, Int.reduceEq, Int.reduceNeg, Int.reduceToNat]
    repeat' ((first | refine guardB_dec (fun hy => ?_) (fun hy => ?_) | refine guardB_bool (fun hy => ?_) (fun hy => ?_) | refine guardQ_ite (fun hy => ?_) (fun hy => ?_) | refine brQ_dec (fun hy => ?_) (fun hy => ?_) | refine brQ_bool (fun hy => ?_) (fun hy => ?_)) <;> (try simp only [Bool.not_eq_true', Bool.not_eq_false', Bool.and_eq_true, Bool.or_eq_false_iff, decide_eq_true_eq, decide_eq_false_iff_not] at hy) <;> simp (disch := first | rfl | omega | exact lt_new _ | assumption | decide | (simp [tk_here, tk_app, tk_0, tk_S, gr_here, gr_app, gr_0, gr_S] <;> omega) | fail) only [r17_0, r17_1, r17_2, r17_3, r17_4, r17_5, r17_6, r17_7, r17_8, r17_9, r17_10, r17_11, r17_12, r17_13, r17_14, r17_15, r17_16, r17_17, r17_18, r17_20, c17, rs17, gc17, ha2, h54, hb2, slV_nil, go_sem, ↓reduceIte, Nat.reduceLT, Nat.reduceEqDiff, Nat.reduceAdd, Nat.reduceMul, Nat.reduceSub, Int.reduceAdd, Int.reduceSub, Nat.reduceLeDiff, Int.reduceLT, Int.reduceLE, Int.reduceEq, Int.reduceNeg, Int.reduceToNat, hy])
    all_goals (try ((first | refine finQ_same ?_ | refine finQ_app ?_ | (rw [List.append_assoc]; refine finQ_app ?_)) <;> simp (disch := first | rfl | omega | exact lt_new _ | assumption | decide | (simp [tk_here, tk_app, tk_0, tk_S, gr_here, gr_app, gr_0, gr_S] <;> omega) | fail) only [go_sem, ↓reduceIte, Nat.reduceLT, Nat.reduceEqDiff, Nat.reduceAdd, Nat.reduceMul, Nat.reduceSub, Int.reduceAdd, Int.reduceSub, Nat.reduceLeDiff, Int.reduceLT, Int.reduceLE, Int.reduceEq, Int.reduceNeg, Int.reduceToNat, List.append_assoc, List.cons_append, List.nil_append, *]))
    all_goals (try first | rfl | (simp [*]; done) | grind)
  rw [if_neg hb]
  have hb2 : ¬ (200 : Int) < s.length := by omega
  by_cases hc : (t.any fun n => !okT n) = true
  case pos =>
    rw [if_pos hc]
    simp (disch := first | rfl | omega | exact lt_new _ | assumption | decide | (simp [tk_here, tk_app, tk_0, tk_S, gr_here, gr_app, gr_0, gr_S] <;> omega) | fail) only [r17_0, r17_1, r17_2, r17_3, r17_4, r17_5, r17_6, r17_7, r17_8, r17_9, r17_10, r17_11, r17_12, r17_13, r17_14, r17_15, r17_16, r17_17, r17_18, r17_20, c17, rs17, gc17, ha2, h54, hb2, h55, hc, slV_nil, go_sem, ↓reduceIte, Nat.reduceLT, Nat.reduceEqDiff, Nat.reduceAdd, Nat.reduceMul, Nat.reduceSub, Int.reduceAdd, Int.reduceSub, Nat.reduceLeDiff, Int.reduceLT, Int.reduceLE, Int.reduceEq, Int.reduceNeg, Int.reduceToNat]
    repeat' ((first | refine guardB_dec (fun hy => ?_) (fun hy => ?_) | refine guardB_bool (fun hy => ?_) (fun hy => ?_) | refine guardQ_ite (fun hy => ?_) (fun hy => ?_) | refine brQ_dec (fun hy => ?_) (fun hy => ?_) | refine brQ_bool (fun hy => ?_) (fun hy => ?_)) <;> (try simp only [Bool.not_eq_true', Bool.not_eq_false', Bool.and_eq_true, Bool.or_eq_false_iff, decide_eq_true_eq, decide_eq_false_iff_not] at hy) <;> simp (disch := first | rfl | omega | exact lt_new _ | assumption | decide | (simp [tk_here, tk_app, tk_0, tk_S, gr_here, gr_app, gr_0, gr_S] <;> omega) | fail) only [r17_0, r17_1, r17_2, r17_3, r17_4, r17_5, r17_6, r17_7, r17_8, r17_9, r17_10, r17_11, r17_12, r17_13, r17_14, r17_15, r17_16, r17_17, r17_18, r17_20, c17, rs17, gc17, ha2, h54, hb2, h55, hc, slV_nil, go_sem, ↓reduceIte, Nat.reduceLT, Nat.reduceEqDiff, Nat.reduceAdd, Nat.reduceMul, Nat.reduceSub, Int.reduceAdd, Int.reduceSub, Nat.reduceLeDiff, Int.reduceLT, Int.reduceLE, Int.reduceEq, Int.reduceNeg, Int.reduceToNat, hy])
    all_goals (try ((first | refine finQ_same ?_ | refine finQ_app ?_ | (rw [List.append_assoc]; refine finQ_app ?_)) <;> simp (disch := first | rfl | omega | exact lt_new _ | assumption | decide | (simp [tk_here, tk_app, tk_0, tk_S, gr_here, gr_app, gr_0, gr_S] <;> omega) | fail) only [go_sem, ↓reduceIte, Nat.reduceLT, Nat.reduceEqDiff, Nat.reduceAdd, Nat.reduceMul, Nat.reduceSub, Int.reduceAdd, Int.reduceSub, Nat.reduceLeDiff, Int.reduceLT, Int.reduceLE, Int.reduceEq, Int.reduceNeg, Int.reduceToNat, List.append_assoc, List.cons_append, List.nil_append, *]))
    all_goals (try first | rfl | (simp [*]; done) | grind)
  rw [if_neg hc]
  have hc2 := Bool.not_eq_true _ ▸ hc
  simp (disch := first | rfl | omega | exact lt_new _ | assumption | decide | (simp [tk_here, tk_app, tk_0, tk_S, gr_here, gr_app, gr_0, gr_S] <;> omega) | fail) only [r17_0, r17_1, r17_2, r17_3, r17_4, r17_5, r17_6, r17_7, r17_8, r17_9, r17_10, r17_11, r17_12, r17_13, r17_14, r17_15, r17_16, r17_17, r17_18, r17_20, c17, rs17, gc17, ha2, h54, hb2, h55, hc2, go_sem, ↓reduceIte, Nat.reduceLT, Nat.reduceEqDiff, Nat.reduceAdd, Nat.reduceMul, Nat.reduceSub, Int.reduceAdd, Int.reduceSub, Nat.reduceLeDiff, Int.reduceLT, Int.reduceLE, Int.reduceEq, Int.reduceNeg, Int.reduceToNat]
  repeat' ((first | refine guardB_dec (fun hy => ?_) (fun hy => ?_) | refine guardB_bool (fun hy => ?_) (fun hy => ?_) | refine guardQ_ite (fun hy => ?_) (fun hy => ?_) | refine brQ_dec (fun hy => ?_) (fun hy => ?_) | refine brQ_bool (fun hy => ?_) (fun hy => ?_)) <;> (try simp only [Bool.not_eq_true', Bool.not_eq_false', Bool.and_eq_true, Bool.or_eq_false_iff, decide_eq_true_eq, decide_eq_false_iff_not] at hy) <;> simp (disch := first | rfl | omega | exact lt_new _ | assumption | decide | (simp [tk_here, tk_app, tk_0, tk_S, gr_here, gr_app, gr_0, gr_S] <;> omega) | fail) only [r17_0, r17_1, r17_2, r17_3, r17_4, r17_5, r17_6, r17_7, r17_8, r17_9, r17_10, r17_11, r17_12, r17_13, r17_14, r17_15, r17_16, r17_17, r17_18, r17_20, c17, rs17, gc17, ha2, h54, hb2, h55, hc2, go_sem, ↓reduceIte, Nat.reduceLT, Nat.reduceEqDiff, Nat.reduceAdd, Nat.reduceMul, Nat.reduceSub, Int.reduceAdd, Int.reduceSub, Nat.reduceLeDiff, Int.reduceLT, Int.reduceLE, Int.reduceEq, Int.reduceNeg, Int.reduceToNat, hy])
  refine Wp_loop (fun m T D H' => ∃ k G, m = t.length - k ∧ k ≤ t.length ∧ D = [] ∧ H' = H ++ .tok ((dels t s k).length * 3) :: G ∧ get T 0 = slV bt inE t ∧ get T 1 = slV bs boE s ∧ get T 6 = osV H.length trE (dels t s k) ∧ get T 7 = .int .i64 (lastS s k) ∧ get T 23 = slV bt inE t ∧ get T 24 = .int .i64 t.length ∧ get T 25 = .int .i64 k) ?_ t.length _ _ _ ?_
  case refine_2 => exact ⟨0, [], by simp (disch := first | rfl | omega | exact lt_new _ | assumption | decide | (simp [tk_here, tk_app, tk_0, tk_S, gr_here, gr_app, gr_0, gr_S] <;> omega) | fail) only [go_sem, ↓reduceIte, Nat.reduceLT, Nat.reduceEqDiff, Nat.reduceAdd, Nat.reduceMul, Nat.reduceSub, Int.reduceAdd, Int.reduceSub, Nat.reduceLeDiff, Int.reduceLT, Int.reduceLE, Int.reduceEq, Int.reduceNeg, Int.reduceToNat]; simp [dels, lastS, osV_nil, ha2]⟩
  rintro m T D H' ⟨k, G, rfl, hk, rfl, rfl, t0, t1, t6, t7, t23, t24, t25⟩
  have hdl := dels_len t s k
  by_cases hlt : k < t.length
  · have hlt' : (k : Int) < t.length := by omega
    have hls' : (k : Int) < s.length := by omega
    have hmx := lo_max (k := k)
    obtain ⟨a1, a2⟩ := okT_at hc hlt
    obtain ⟨b1, b2⟩ := okT_at hc (i := 0) (by omega)
    obtain ⟨c1, c2⟩ := okT_at hc (i := k - 1) (by omega)
    obtain ⟨d1, d2⟩ := lastS_lt s k
    have hdn : dels t s (k + 1) = dels t s k ++ [delR t s k] := rfl
    have hln : lastS s (k + 1) = if boE.at s k = true then (k : Int) else lastS s k := rfl
    by_cases hq : 0 ≤ lastS s k
    · obtain ⟨j, hj⟩ : ∃ j : Nat, lastS s k = j := ⟨(lastS s k).toNat, by omega⟩
      obtain ⟨e1, e2⟩ := okT_at hc (i := j) (by omega)
      have hr : ([.int .i64 (inE.at t k - inE.at t 0), .int .i64 (inE.at t k - inE.at t (k - 1)), .int .i64 (inE.at t k - inE.at t j)] : List V) = trE.f (delR t s k) := by
        unfold delR; rw [if_pos hq, hj]; rfl
      rw [hj] at t7 d1 d2
      have hj0 : (0 : Int) ≤ j := by omega
      simp (disch := first | rfl | omega | exact lt_new _ | assumption | decide | (simp [tk_here, tk_app, tk_0, tk_S, gr_here, gr_app, gr_0, gr_S] <;> omega) | fail) only [r17_0, r17_1, r17_2, r17_3, r17_4, r17_5, r17_6, r17_7, r17_8, r17_9, r17_10, r17_11, r17_12, r17_13, r17_14, r17_15, r17_16, r17_17, r17_18, l17_19, r17_20, c17, rs17, gc17, loadV_ptr, storeV_ptr, List.append_assoc, List.length_append, List.length_cons, List.length_nil, List.set_cons_zero, List.set_cons_succ, tk_here, tk_app, gr_here, gr_app, st_here, st_app, t0, t1, t6, t7, t23, t24, t25, hlt', hls', hmx, hr, hj0, go_sem, ↓reduceIte, Nat.reduceLT, Nat.reduceEqDiff, Nat.reduceAdd, Nat.reduceMul, Nat.reduceSub, Int.reduceAdd, Int.reduceSub, Nat.reduceLeDiff, Int.reduceLT, Int.reduceLE, Int.reduceEq, Int.reduceNeg, Int.reduceToNat]
      repeat' ((first | refine guardB_dec (fun hy => ?_) (fun hy => ?_) | refine guardB_bool (fun hy => ?_) (fun hy => ?_) | refine guardQ_ite (fun hy => ?_) (fun hy => ?_) | refine brQ_dec (fun hy => ?_) (fun hy => ?_) | refine brQ_bool (fun hy => ?_) (fun hy => ?_)) <;> (try simp only [Bool.not_eq_true', Bool.not_eq_false', Bool.and_eq_true, Bool.or_eq_false_iff, decide_eq_true_eq, decide_eq_false_iff_not] at hy) <;> simp (disch := first | rfl | omega | exact lt_new _ | assumption | decide | (simp [tk_here, tk_app, tk_0, tk_S, gr_here, gr_app, gr_0, gr_S] <;> omega) | fail) only [r17_0, r17_1, r17_2, r17_3, r17_4, r17_5, r17_6, r17_7, r17_8, r17_9, r17_10, r17_11, r17_12, r17_13, r17_14, r17_15, r17_16, r17_17, r17_18, l17_19, r17_20, c17, rs17, gc17, loadV_ptr, storeV_ptr, List.append_assoc, List.length_append, List.length_cons, List.length_nil, List.set_cons_zero, List.set_cons_succ, tk_here, tk_app, gr_here, gr_app, st_here, st_app, t0, t1, t6, t7, t23, t24, t25, hlt', hls', hmx, hr, hj0, go_sem, ↓reduceIte, Nat.reduceLT, Nat.reduceEqDiff, Nat.reduceAdd, Nat.reduceMul, Nat.reduceSub, Int.reduceAdd, Int.reduceSub, Nat.reduceLeDiff, Int.reduceLT, Int.reduceLE, Int.reduceEq, Int.reduceNeg, Int.reduceToNat, hy])
      all_goals exact ⟨_, by omega, k + 1, _, rfl, hlt, by rw [hdn, List.length_append]; rfl, by rw [hdn], by rw [hln]; simp [*], rfl⟩
    · have hr : ([.int .i64 (inE.at t k - inE.at t 0), .int .i64 (inE.at t k - inE.at t (k - 1)), .int .i64 0] : List V) = trE.f (delR t s k) := by
        unfold delR; rw [if_neg hq]; rfl
      have hr2 : setAt (trE.f (delR t s k)) 2 [.int .i64 0] = trE.f (delR t s k) := by rw [← hr]; rfl
      simp (disch := first | rfl | omega | exact lt_new _ | assumption | decide | (simp [tk_here, tk_app, tk_0, tk_S, gr_here, gr_app, gr_0, gr_S] <;> omega) | fail) only [r17_0, r17_1, r17_2, r17_3, r17_4, r17_5, r17_6, r17_7, r17_8, r17_9, r17_10, r17_11, r17_12, r17_13, r17_14, r17_15, r17_16, r17_17, r17_18, l17_19, r17_20, c17, rs17, gc17, loadV_ptr, storeV_ptr, List.append_assoc, List.length_append, List.length_cons, List.length_nil, List.set_cons_zero, List.set_cons_succ, tk_here, tk_app, gr_here, gr_app, st_here, st_app, t0, t1, t6, t7, t23, t24, t25, hlt', hls', hmx, hr, hr2, hq, go_sem, ↓reduceIte, Nat.reduceLT, Nat.reduceEqDiff, Nat.reduceAdd, Nat.reduceMul, Nat.reduceSub, Int.reduceAdd, Int.reduceSub, Nat.reduceLeDiff, Int.reduceLT, Int.reduceLE, Int.reduceEq, Int.reduceNeg, Int.reduceToNat]
      repeat' ((first | refine guardB_dec (fun hy => ?_) (fun hy => ?_) | refine guardB_bool (fun hy => ?_) (fun hy => ?_) | refine guardQ_ite (fun hy => ?_) (fun hy => ?_) | refine brQ_dec (fun hy => ?_) (fun hy => ?_) | refine brQ_bool (fun hy => ?_) (fun hy => ?_)) <;> (try simp only [Bool.not_eq_true', Bool.not_eq_false', Bool.and_eq_true, Bool.or_eq_false_iff, decide_eq_true_eq, decide_eq_false_iff_not] at hy) <;> simp (disch := first | rfl | omega | exact lt_new _ | assumption | decide | (simp [tk_here, tk_app, tk_0, tk_S, gr_here, gr_app, gr_0, gr_S] <;> omega) | fail) only [r17_0, r17_1, r17_2, r17_3, r17_4, r17_5, r17_6, r17_7, r17_8, r17_9, r17_10, r17_11, r17_12, r17_13, r17_14, r17_15, r17_16, r17_17, r17_18, l17_19, r17_20, c17, rs17, gc17, loadV_ptr, storeV_ptr, List.append_assoc, List.length_append, List.length_cons, List.length_nil, List.set_cons_zero, List.set_cons_succ, tk_here, tk_app, gr_here, gr_app, st_here, st_app, t0, t1, t6, t7, t23, t24, t25, hlt', hls', hmx, hr, hr2, hq, go_sem, ↓reduceIte, Nat.reduceLT, Nat.reduceEqDiff, Nat.reduceAdd, Nat.reduceMul, Nat.reduceSub, Int.reduceAdd, Int.reduceSub, Nat.reduceLeDiff, Int.reduceLT, Int.reduceLE, Int.reduceEq, Int.reduceNeg, Int.reduceToNat, hy])
      all_goals exact ⟨_, by omega, k + 1, _, rfl, hlt, by rw [hdn, List.length_append]; rfl, by rw [hdn], by rw [hln]; simp [*], rfl⟩
  · obtain rfl : k = t.length := by omega
    simp (disch := first | rfl | omega | exact lt_new _ | assumption | decide | (simp [tk_here, tk_app, tk_0, tk_S, gr_here, gr_app, gr_0, gr_S] <;> omega) | fail) only [r17_0, r17_1, r17_2, r17_3, r17_4, r17_5, r17_6, r17_7, r17_8, r17_9, r17_10, r17_11, r17_12, r17_13, r17_14, r17_15, r17_16, r17_17, r17_18, l17_19, r17_20, c17, rs17, gc17, loadV_ptr, storeV_ptr, List.append_assoc, List.length_append, List.length_cons, List.length_nil, List.set_cons_zero, List.set_cons_succ, tk_here, tk_app, gr_here, gr_app, st_here, st_app, t0, t1, t6, t7, t23, t24, t25, Int.lt_irrefl, go_sem, ↓reduceIte, Nat.reduceLT, Nat.reduceEqDiff, Nat.reduceAdd, Nat.reduceMul, Nat.reduceSub, Int.reduceAdd, Int.reduceSub, Nat.reduceLeDiff, Int.reduceLT, Int.reduceLE, Int.reduceEq, Int.reduceNeg, Int.reduceToNat]
    repeat' ((first | refine guardB_dec (fun hy => ?_) (fun hy => ?_) | refine guardB_bool (fun hy => ?_) (fun hy => ?_) | refine guardQ_ite (fun hy => ?_) (fun hy => ?_) | refine brQ_dec (fun hy => ?_) (fun hy => ?_) | refine brQ_bool (fun hy => ?_) (fun hy => ?_)) <;> (try simp only [Bool.not_eq_true', Bool.not_eq_false', Bool.and_eq_true, Bool.or_eq_false_iff, decide_eq_true_eq, decide_eq_false_iff_not] at hy) <;> simp (disch := first | rfl | omega | exact lt_new _ | assumption | decide | (simp [tk_here, tk_app, tk_0, tk_S, gr_here, gr_app, gr_0, gr_S] <;> omega) | fail) only [r17_0, r17_1, r17_2, r17_3, r17_4, r17_5, r17_6, r17_7, r17_8, r17_9, r17_10, r17_11, r17_12, r17_13, r17_14, r17_15, r17_16, r17_17, r17_18, l17_19, r17_20, c17, rs17, gc17, loadV_ptr, storeV_ptr, List.append_assoc, List.length_append, List.length_cons, List.length_nil, List.set_cons_zero, List.set_cons_succ, tk_here, tk_app, gr_here, gr_app, st_here, st_app, t0, t1, t6, t7, t23, t24, t25, Int.lt_irrefl, go_sem, ↓reduceIte, Nat.reduceLT, Nat.reduceEqDiff, Nat.reduceAdd, Nat.reduceMul, Nat.reduceSub, Int.reduceAdd, Int.reduceSub, Nat.reduceLeDiff, Int.reduceLT, Int.reduceLE, Int.reduceEq, Int.reduceNeg, Int.reduceToNat, hy])
    refine finQ_app ?_
    simp (disch := first | rfl | omega | exact lt_new _ | assumption | decide | (simp [tk_here, tk_app, tk_0, tk_S, gr_here, gr_app, gr_0, gr_S] <;> omega) | fail) only [go_sem, ↓reduceIte, Nat.reduceLT, Nat.reduceEqDiff, Nat.reduceAdd, Nat.reduceMul, Nat.reduceSub, Int.reduceAdd, Int.reduceSub, Nat.reduceLeDiff, Int.reduceLT, Int.reduceLE, Int.reduceEq, Int.reduceNeg, Int.reduceToNat]
end Go.Proofs.YteeofpgnjekeaaaGreatDoor
/-
  Rows whose cells are set one by one. No statement of the seat stands here.
-/
namespace Go.An
open Go
variable {α : Type}
theorem setAt_set {cs : List V} {j : Nat} (h : j < cs.length) (v : V) : setAt cs j [v] = cs.set j v := by
  rw [List.set_eq_take_append_cons_drop, if_pos h]
  simp [setAt]
theorem flatE_cons (E : Enc α) (a : α) (l : List α) : flatE E (a :: l) = E.f a ++ flatE E l := by simp [flatE]
theorem flatE_setc {E : Enc α} {j : Nat} {v : V} {x : α} (hj : j < E.w) : ∀ {l : List α} {i : Nat}, i < l.length → (E.f (E.at l i)).set j v = E.f x → (flatE E l).set (i * E.w + j) v = flatE E (l.set i x)
  | [], _, h, _ => by cases h
  | y :: ys, 0, _, h => by
    have e : E.at (y :: ys) 0 = y := by simp [Enc.at]
    rw [e] at h
    rw [flatE_cons, List.set_cons_zero, flatE_cons, List.set_append_left _ _ (by rw [E.len]; omega), Nat.zero_mul, Nat.zero_add, h]
  | y :: ys, i + 1, hi, h => by
    have e : E.at (y :: ys) (i + 1) = E.at ys i := by simp [Enc.at]
    rw [e] at h
    have ih := flatE_setc (E := E) (v := v) (x := x) hj (l := ys) (i := i) (by simpa using hi) h
    rw [flatE_cons, List.set_cons_succ, flatE_cons, List.set_append_right _ _ (by rw [E.len, Nat.add_mul]; omega), E.len, show (i + 1) * E.w + j - E.w = i * E.w + j by rw [Nat.add_mul]; omega, ih]
/-- One cell of one element of a row is set. -/
theorem flatE_at_set [Orc] {E : Enc α} {l : List α} {i j : Nat} {v : V} {x : α} (hi : i < l.length) (hj : j < E.w) (h : (E.f (E.at l i)).set j v = E.f x) : setAt (flatE E l) (i * E.w + j) [v] = flatE E (l.set i x) := by
  rw [setAt_set (by rw [flatE_len]; have : i * E.w + E.w ≤ l.length * E.w := by rw [← Nat.succ_mul]; exact Nat.mul_le_mul_right _ hi
                    omega), flatE_setc hj hi h]
/-- A list whose first elements are changed. -/
def mix (g : α → α) (l : List α) (i : Nat) : List α := (l.take i).map g ++ l.drop i
theorem mix_0 (g : α → α) (l : List α) : mix g l 0 = l := by simp [mix]
theorem mix_len (g : α → α) (l : List α) (i : Nat) : (mix g l i).length = l.length := by simp [mix]; omega
theorem mix_all (g : α → α) (l : List α) : mix g l l.length = l.map g := by simp [mix]
theorem mix_get (g : α → α) {l : List α} {i : Nat} (h : i < l.length) : (mix g l i)[i]? = l[i]? := by
  have : ((l.take i).map g).length = i := by simp; omega
  rw [mix, List.getElem?_append_right (by omega), this, Nat.sub_self]
  simp
theorem mix_at (E : Enc α) (g : α → α) {l : List α} {i : Nat} (h : i < l.length) : E.at (mix g l i) i = E.at l i := by
  have h1 := E.at_some (l := mix g l i) (i := i) (by rw [mix_len]; exact h)
  rw [mix_get g h, E.at_some h] at h1
  exact (Option.some.inj h1).symm
theorem mix_set (E : Enc α) (g : α → α) {l : List α} {i : Nat} (h : i < l.length) : (mix g l i).set i (g (E.at l i)) = mix g l (i + 1) := by
  have h0 : ((l.take i).map g).length = i := by simp; omega
  have h1 : l.drop i = E.at l i :: l.drop (i + 1) := by
    rw [List.drop_eq_getElem_cons h]
    have h2 := E.at_some h
    rw [List.getElem?_eq_getElem h] at h2
    rw [Option.some.inj h2]
  have h3 : (l.take (i + 1)).map g = (l.take i).map g ++ [g (E.at l i)] := by
    rw [List.take_add_one, E.at_some h]; simp
  unfold mix
  rw [List.set_append_right _ _ (by omega), h0, Nat.sub_self, h1, List.set_cons_zero, h3]
  simp
end Go.An
/-
  The abstract machine, part EJ: memory in the middle of a range over a function: a box in which a slice grows, and the marks of ranges. No statement of the seat stands here.
-/
namespace Go.An
open Go
set_option linter.unusedSectionVars false

section
variable [Orc] {P : Program} {Pr : Prims} {α : Type} {E : Enc α}
theorem callL_roundE {id : Nat} {H : Hp} {L : LoopA} {vs : List V} {T : Fr} {cca ccb : Cc} {R : V × Hp → Prop} (h1 : getLoopA H id = some L) (h2 : L.st = 0) (h3 : L.ps.all (fun p => p < L.N) = true) (h4 : putL L.T L.ps vs = some T) (h5 : compC P L.N L.ca = some cca) (h6 : compC P L.N L.cb = some ccb)
    (h : Wp P (callL P Pr) L.N cca T [(Y0, [])] H fun e T D H1 => e = .nor ∧ ∃ L1, getLoopA H1 id = some L1 ∧ L1.st = 0 ∧ Wp P (callL P Pr) L.N ccb T D (H1.set id (.loop { L1 with st := 1 })) fun e _ _ H2 => ∃ L2, getLoopA H2 id = some L2 ∧ R (match e with | .nor => (.bool true, H2.set id (.loop { L2 with st := 0, pend := .nor })) | e => (.bool false, H2.set id (.loop { L2 with st := 2, pend := e })))) : ∃ r, callL P Pr Y0 (.yld id :: vs) H = some r ∧ R r := by
  obtain ⟨e1, s1, b1, rfl, L1, g1, g2, e2, s2, b2, L2, g3, hr⟩ := h
  exact ⟨_, callL_round h1 h2 h3 h4 h5 h6 ⟨_, _, b1, rfl, L1, g1, g2, _, _, b2, L2, g3, rfl⟩, hr⟩

/-- What was there, the box of what grows, the marks of the ranges. -/
structure MidE (E : Enc α) (H0 H : Hp) (v : V) (out : List α) (ds : List Nat) : Prop where
  old : ∀ i, i < H0.length → H[i]? = H0[i]?
  box : H[H0.length]? = some (.row 0 [v] true)
  own : OwnE E H v out
  at_ : ∀ id, At v id → H0.length < id
  dfr : ∀ i ∈ ds, H0.length < i ∧ H[i]? = some (.dfr true)
  nd : ds.Nodup
variable {H0 H H' : Hp} {v : V} {out : List α} {ds : List Nat}
theorem MidE.lt (h : MidE E H0 H v out ds) : H0.length < H.length := (List.getElem?_eq_some_iff.1 h.box).1
theorem OwnE.isRow {l : List α} (h : OwnE E H v l) {id : Nat} (ha : At v id) : ∃ g cs, H[id]? = some (.row g cs true) := by
  obtain ⟨g, o, n, z, cp, e⟩ := ha
  rcases h with ⟨rfl, _⟩ | ⟨id', g', rfl, _, h2⟩
  · cases e
  · injection e with e1; subst e1; exact ⟨_, _, h2⟩
theorem MidE.nil (E : Enc α) (H0 : Hp) : MidE E H0 (H0 ++ [.row 0 [.nilslice] true]) .nilslice [] [] :=
  ⟨fun i hi => List.getElem?_append_left hi, by simp, ownE_nil _ _, fun id hid => (by obtain ⟨g, o, n, z, cp, e⟩ := hid; cases e), fun i hi => (by cases hi), List.nodup_nil⟩
/-- A block that is no row and no mark changes, and others come. -/
theorem MidE.loop (h : MidE E H0 H v out ds) {id : Nat} {L : LoopA} (hid : H[id]? = some (.loop L)) (hlt : H0.length < id) (hf : ∀ i, i < H.length → i ≠ id → H'[i]? = H[i]?) : MidE E H0 H' v out ds := by
  have hb := h.lt
  refine ⟨fun i hi => (hf i (by omega) (by omega)).trans (h.old i hi), (hf _ hb (by omega)).trans h.box, h.own.frame fun i hi => hf i (h.own.lt hi) ?_, h.at_, fun i hi => ⟨(h.dfr i hi).1, (hf i ?_ ?_).trans (h.dfr i hi).2⟩, h.nd⟩
  · rintro rfl
    obtain ⟨g, cs, e⟩ := h.own.isRow hi
    rw [hid] at e
    cases e
  · exact (List.getElem?_eq_some_iff.1 (h.dfr i hi).2).1
  · rintro rfl
    have := (h.dfr i hi).2
    rw [hid] at this
    cases this
theorem MidE.app (h : MidE E H0 H v out ds) (L : Hp) : MidE E H0 (H ++ L) v out ds :=
  ⟨fun i hi => (List.getElem?_append_left (by have := h.lt; omega)).trans (h.old i hi), (List.getElem?_append_left h.lt).trans h.box, h.own.app L, h.at_, fun i hi => ⟨(h.dfr i hi).1, (List.getElem?_append_left (List.getElem?_eq_some_iff.1 (h.dfr i hi).2).1).trans (h.dfr i hi).2⟩, h.nd⟩
theorem MidE.mark (h : MidE E H0 H v out ds) {i : Nat} (hn : i ∉ ds) (hi : H0.length < i) (hd : H[i]? = some (.dfr true)) : MidE E H0 H v out (i :: ds) :=
  ⟨h.old, h.box, h.own, h.at_, fun j hj => by
    rcases List.mem_cons.1 hj with rfl | hj
    · exact ⟨hi, hd⟩
    · exact h.dfr j hj, List.nodup_cons.2 ⟨hn, h.nd⟩⟩
/-- What comes out is put behind. -/
theorem MidE.push (h : MidE E H0 H v out ds) (a : α) {w by_ : Nat} {t : TypeId} (hw : E.w = w) (hb : (out.length + 1) * by_ ≤ 2 ^ 40) (hb2 : out.length + 1 ≤ 2 ^ 40) (ht : szOf P t = some 1) :
    ∃ v' H1, appOf w by_ H v (.isl (E.f a) 1 w) = some (v', H1) ∧ H.length ≤ H1.length ∧ storeV P t H1 (.ptr H0.length 0 0) v' = some (H1.set H0.length (.row 0 [v'] true)) ∧ MidE E H0 (H1.set H0.length (.row 0 [v'] true)) v' (out ++ [a]) ds ∧
    (∀ (i : Nat) (L : LoopA), H[i]? = some (.loop L) → (H1.set H0.length (.row 0 [v'] true))[i]? = some (.loop L)) ∧ v'.dem = v' := by
  obtain ⟨v', H1, e1, e2, e3, e4, e5⟩ := h.own.push (w := w) (by_ := by_) a hw hb hb2
  have hlt := h.lt
  have hnb : ¬ At v H0.length := fun x => by have := h.at_ _ x; omega
  have hbx : H1[H0.length]? = some (.row 0 [v] true) := (e3 _ hlt hnb).trans h.box
  have hns : ∀ i, i ≠ H0.length → (H1.set H0.length (.row 0 [v'] true))[i]? = H1[i]? := fun i hi => List.getElem?_set_ne (Ne.symm hi)
  have hat : ∀ id, At v' id → H0.length < id := fun id hid => by
    rcases e5 id hid with x | x
    · exact h.at_ id x
    · omega
  have hst : storeV P t H1 (.ptr H0.length 0 0) v' = some (H1.set H0.length (.row 0 [v'] true)) := by
    obtain ⟨c1, c2, _⟩ := e2.cell
    unfold storeV
    simp only [getRow_of hbx, Option.bind_some, c2, ht]
    rw [if_pos ⟨trivial, rfl, by simp, by simp [c1]⟩]
    rfl
  have hdm : v'.dem = v' := by
    rcases e2 with ⟨rfl, _⟩ | ⟨_, _, rfl, _⟩ <;> rfl
  refine ⟨v', H1, e1, e4, hst, ⟨fun i hi => ?_, ?_, ?_, hat, fun i hi => ⟨(h.dfr i hi).1, ?_⟩, h.nd⟩, fun i L hL => ?_, hdm⟩
  · rw [hns i (by omega), e3 i (by omega) (fun x => by have := h.at_ _ x; omega)]
    exact h.old i hi
  · rw [List.getElem?_set_self (by omega)]
  · exact e2.frame fun id hid => hns id (by have := hat id hid; omega)
  · rw [hns i (by have := (h.dfr i hi).1; omega), e3 i (List.getElem?_eq_some_iff.1 (h.dfr i hi).2).1 ?_]
    · exact (h.dfr i hi).2
    · intro x
      obtain ⟨g, cs, e⟩ := h.own.isRow x
      rw [(h.dfr i hi).2] at e
      cases e
  · rw [hns i ?_, e3 i (List.getElem?_eq_some_iff.1 hL).1 ?_]
    · exact hL
    · intro x
      obtain ⟨g, cs, e⟩ := h.own.isRow x
      rw [hL] at e
      cases e
    · rintro rfl
      rw [h.box] at hL
      cases hL
/-- The marks are taken away. -/
theorem MidE.marks : ∀ {ds : List Nat} {H : Hp}, MidE E H0 H v out ds → ∃ H1, dfrs Pr (ds.map fun i => (Y0, [V.ptr i 0 0])) H = some H1 ∧ MidE E H0 H1 v out []
  | [], H, h => ⟨H, rfl, h⟩
  | d :: ds, H, h => by
    obtain ⟨h1, h2⟩ := h.dfr d (by simp)
    have hm : markV [V.ptr d 0 0] H = some (H.set d (.dfr false)) := by
      unfold markV
      simp only [h2]
    have hnd := h.nd
    rw [List.nodup_cons] at hnd
    have hdl := (List.getElem?_eq_some_iff.1 h2).1
    have hns : ∀ i, i ≠ d → (H.set d (.dfr false))[i]? = H[i]? := fun i hi => List.getElem?_set_ne (Ne.symm hi)
    have hM : MidE E H0 (H.set d (.dfr false)) v out ds := by
      refine ⟨fun i hi => (hns i (by omega)).trans (h.old i hi), (hns _ (by omega)).trans h.box, h.own.frame fun id hid => hns id ?_, h.at_, fun i hi => ⟨(h.dfr i (by simp [hi])).1, (hns i ?_).trans (h.dfr i (by simp [hi])).2⟩, hnd.2⟩
      · rintro rfl
        obtain ⟨g, cs, e⟩ := h.own.isRow hid
        rw [h2] at e
        cases e
      · rintro rfl
        exact hnd.1 hi
    obtain ⟨H1, e1, e2⟩ := hM.marks
    exact ⟨H1, by rw [List.map_cons, dfrs_mark, hm]; exact e1, e2⟩
theorem inR_map (ds : List Nat) : inRound (ds.map fun i => (Y0, [V.ptr i 0 0])) = false := by
  cases ds with
  | nil => rfl
  | cons d ds => cases ds <;> rfl
/-- A list that a call has made: a row behind all, or nil. -/
def rowV (H : Hp) (E : Enc α) (l : List α) : V × Hp := if l = [] then (.nilslice, H) else (.slice H.length 0 0 l.length E.w .full, H ++ [.row 0 (flatE E l) true])
theorem gc2_own (ho : ∀ i, i < H0.length → H[i]? = H0[i]?) (hl : H0.length ≤ H.length) (hv : OwnE E H v out) (ha : ∀ id, At v id → H0.length ≤ id) : gcC H0 (v, H) = rowV H0 E out := by
  have hpre : H.take H0.length = H0 := by
    apply List.ext_getElem?
    intro i
    rw [List.getElem?_take]
    split
    · rw [ho i (by assumption)]
    · rw [List.getElem?_eq_none (by omega)]
  unfold rowV
  rcases hv with ⟨rfl, rfl⟩ | ⟨id, g, rfl, h1, h2⟩
  · rw [if_pos rfl]
    exact gc_old hpre rfl (by simp [refR, refA, refB])
  · rw [if_neg (by intro e; rw [e] at h1; simp at h1)]
    have hid := ha id ⟨_, _, _, _, _, rfl⟩
    have hL : fresh H0.length (refR (.slice id g 0 out.length E.w .full)) = [(id, g)] := by
      simp [refR, refA, refB, fresh, List.eraseDups_cons, hid]
    rw [gc_one hpre rfl hid h2 flatE_imm hL]
    have hid2 : ¬ id < H0.length := by omega
    simp [renR, renA, renB, moveTo, hid2]
theorem MidE.gc2 (h : MidE E H0 H v out ds) : gcC H0 (v, H) = rowV H0 E out :=
  gc2_own h.old (Nat.le_of_lt h.lt) h.own fun id hid => Nat.le_of_lt (h.at_ id hid)
theorem MidE.inl (h : MidE E H0 H v out ds) {f : Nat} : inlA H0.length H (f + 2) v = some (slV true E out) := by
  have hi := h.own.inl (n := H0.length) (f := f) fun id hid => by have := h.at_ id hid; omega
  rcases h.own with ⟨rfl, _⟩ | ⟨_, _, rfl, _⟩ <;> exact hi
end
end Go.An
/-
  A list's values, collected and sorted, by the library; walked. No statement of the seat stands here.
-/
namespace Go.Proofs.YteeofpgnjekeaaaGreatDoor
open Go Go.An
set_option maxRecDepth 4000
set_option linter.unusedSimpArgs false
set_option linter.unusedVariables false

theorem fn62 (b : Bool) (s : List Int) (H : Hp) : callL Tryz.prog pr 62 [slV b inE s] H = some (.fn 113 [] [.ipt [slV b inE s] 0], H) := by
  refine run62 (Nat.le_of_ble_eq_true rfl) ?_
  simp (disch := first | rfl | omega | exact lt_new _ | assumption | decide | (simp [tk_here, tk_app, tk_0, tk_S, gr_here, gr_app, gr_0, gr_S] <;> omega) | fail) only [r62_0, r62_1, c62, rs62, gc62, go_sem, ↓reduceIte, Nat.reduceLT, Nat.reduceEqDiff, Nat.reduceAdd, Nat.reduceMul, Nat.reduceSub, Int.reduceAdd, Int.reduceSub, Nat.reduceLeDiff, Int.reduceLT, Int.reduceLE, Int.reduceEq, Int.reduceNeg, Int.reduceToNat]
  repeat' ((first | refine guardB_dec (fun hy => ?_) (fun hy => ?_) | refine guardB_bool (fun hy => ?_) (fun hy => ?_) | refine guardQ_ite (fun hy => ?_) (fun hy => ?_) | refine brQ_dec (fun hy => ?_) (fun hy => ?_) | refine brQ_bool (fun hy => ?_) (fun hy => ?_)) <;> (try simp only [Bool.not_eq_true', Bool.not_eq_false', Bool.and_eq_true, Bool.or_eq_false_iff, decide_eq_true_eq, decide_eq_false_iff_not] at hy) <;> simp (disch := first | rfl | omega | exact lt_new _ | assumption | decide | (simp [tk_here, tk_app, tk_0, tk_S, gr_here, gr_app, gr_0, gr_S] <;> omega) | fail) only [r62_0, r62_1, c62, rs62, gc62, go_sem, ↓reduceIte, Nat.reduceLT, Nat.reduceEqDiff, Nat.reduceAdd, Nat.reduceMul, Nat.reduceSub, Int.reduceAdd, Int.reduceSub, Nat.reduceLeDiff, Int.reduceLT, Int.reduceLE, Int.reduceEq, Int.reduceNeg, Int.reduceToNat, hy])
  all_goals (try ((first | refine finQ_same ?_ | refine finQ_app ?_ | (rw [List.append_assoc]; refine finQ_app ?_)) <;> simp (disch := first | rfl | omega | exact lt_new _ | assumption | decide | (simp [tk_here, tk_app, tk_0, tk_S, gr_here, gr_app, gr_0, gr_S] <;> omega) | fail) only [go_sem, ↓reduceIte, Nat.reduceLT, Nat.reduceEqDiff, Nat.reduceAdd, Nat.reduceMul, Nat.reduceSub, Int.reduceAdd, Int.reduceSub, Nat.reduceLeDiff, Int.reduceLT, Int.reduceLE, Int.reduceEq, Int.reduceNeg, Int.reduceToNat, List.append_assoc, List.cons_append, List.nil_append, *]))
  all_goals (try first | rfl | (simp [*]; done) | grind)
theorem ld27_1 (b : Bool) (s : List Int) (H : Hp) : loadV Tryz.prog 27 H (.ipt [slV b inE s] 0) = some (slV b inE s) := by
  have hg : aggT Tryz.prog 27 = some false := by kernel_rfl
  rw [loadV_ipt]; unfold partV; rw [hg]; rfl
theorem fn113 {id : Nat} {b : Bool} {l : List Int} {H : Hp} (hl : l.length ≤ 2 ^ 48) (J : Nat → Hp → Prop) (E : Hp → Prop) (h0 : J 0 H)
    (hs : ∀ j < l.length, ∀ H, J j H → ∃ c H', callL Tryz.prog pr Y0 [.yld id, .int .i64 (inE.at l j)] H = some (.bool c, H') ∧ (c = true → J (j + 1) H') ∧ (c = false → E H')) :
    ∃ H', callL Tryz.prog pr 113 [.yld id, .ipt [slV b inE l] 0] H = some (.tup [], H') ∧ (J l.length H' ∨ E H') := by
  suffices h : ∃ r, callL Tryz.prog pr 113 [.yld id, .ipt [slV b inE l] 0] H = some r ∧ ∃ H', r = (.tup [], H') ∧ (J l.length H' ∨ E H') by
    obtain ⟨_, e, H', rfl, h⟩ := h
    exact ⟨H', e, h⟩
  have hld := ld27_1 b l
  refine ex113 (Nat.le_of_ble_eq_true rfl) ?_
  simp (disch := first | rfl | omega | exact lt_new _ | assumption | decide | (simp [tk_here, tk_app, tk_0, tk_S, gr_here, gr_app, gr_0, gr_S] <;> omega) | fail) only [r113_0, r113_1, r113_2, r113_3, r113_4, c113, rs113, gc113, hld, go_sem, ↓reduceIte, Nat.reduceLT, Nat.reduceEqDiff, Nat.reduceAdd, Nat.reduceMul, Nat.reduceSub, Int.reduceAdd, Int.reduceSub, Nat.reduceLeDiff, Int.reduceLT, Int.reduceLE, Int.reduceEq, Int.reduceNeg, Int.reduceToNat]
  repeat' ((first | refine guardB_dec (fun hy => ?_) (fun hy => ?_) | refine guardB_bool (fun hy => ?_) (fun hy => ?_) | refine guardQ_ite (fun hy => ?_) (fun hy => ?_) | refine brQ_dec (fun hy => ?_) (fun hy => ?_) | refine brQ_bool (fun hy => ?_) (fun hy => ?_)) <;> (try simp only [Bool.not_eq_true', Bool.not_eq_false', Bool.and_eq_true, Bool.or_eq_false_iff, decide_eq_true_eq, decide_eq_false_iff_not] at hy) <;> simp (disch := first | rfl | omega | exact lt_new _ | assumption | decide | (simp [tk_here, tk_app, tk_0, tk_S, gr_here, gr_app, gr_0, gr_S] <;> omega) | fail) only [r113_0, r113_1, r113_2, r113_3, r113_4, c113, rs113, gc113, hld, go_sem, ↓reduceIte, Nat.reduceLT, Nat.reduceEqDiff, Nat.reduceAdd, Nat.reduceMul, Nat.reduceSub, Int.reduceAdd, Int.reduceSub, Nat.reduceLeDiff, Int.reduceLT, Int.reduceLE, Int.reduceEq, Int.reduceNeg, Int.reduceToNat, hy])
  refine Wp_loop (fun m T D H1 => ∃ j, m = l.length - j ∧ j ≤ l.length ∧ D = [] ∧ J j H1 ∧ get T 0 = .yld id ∧ get T 5 = slV b inE l ∧ get T 6 = .int .i64 l.length ∧ get T 7 = .int .i64 j) ?_ l.length _ _ _ ?_
  case refine_2 => exact ⟨0, rfl, Nat.zero_le _, by simp (disch := first | rfl | omega | exact lt_new _ | assumption | decide | (simp [tk_here, tk_app, tk_0, tk_S, gr_here, gr_app, gr_0, gr_S] <;> omega) | fail) only [go_sem, ↓reduceIte, Nat.reduceLT, Nat.reduceEqDiff, Nat.reduceAdd, Nat.reduceMul, Nat.reduceSub, Int.reduceAdd, Int.reduceSub, Nat.reduceLeDiff, Int.reduceLT, Int.reduceLE, Int.reduceEq, Int.reduceNeg, Int.reduceToNat, h0]⟩
  rintro m T D H1 ⟨j, rfl, hj, rfl, hJ, t0, t5, t6, t7⟩
  by_cases hlt : j < l.length
  · have hlt' : (j : Int) < l.length := by omega
    obtain ⟨c, H2, hc, hc1, hc2⟩ := hs j hlt H1 hJ
    cases c with
    | true =>
      simp (disch := first | rfl | omega | exact lt_new _ | assumption | decide | (simp [tk_here, tk_app, tk_0, tk_S, gr_here, gr_app, gr_0, gr_S] <;> omega) | fail) only [r113_0, r113_1, r113_2, r113_3, r113_4, l113_5, c113, rs113, gc113, t0, t5, t6, t7, hlt', hc, go_sem, ↓reduceIte, Nat.reduceLT, Nat.reduceEqDiff, Nat.reduceAdd, Nat.reduceMul, Nat.reduceSub, Int.reduceAdd, Int.reduceSub, Nat.reduceLeDiff, Int.reduceLT, Int.reduceLE, Int.reduceEq, Int.reduceNeg, Int.reduceToNat]
      repeat' ((first | refine guardB_dec (fun hy => ?_) (fun hy => ?_) | refine guardB_bool (fun hy => ?_) (fun hy => ?_) | refine guardQ_ite (fun hy => ?_) (fun hy => ?_) | refine brQ_dec (fun hy => ?_) (fun hy => ?_) | refine brQ_bool (fun hy => ?_) (fun hy => ?_)) <;> (try simp only [Bool.not_eq_true', Bool.not_eq_false', Bool.and_eq_true, Bool.or_eq_false_iff, decide_eq_true_eq, decide_eq_false_iff_not] at hy) <;> simp (disch := first | rfl | omega | exact lt_new _ | assumption | decide | (simp [tk_here, tk_app, tk_0, tk_S, gr_here, gr_app, gr_0, gr_S] <;> omega) | fail) only [r113_0, r113_1, r113_2, r113_3, r113_4, l113_5, c113, rs113, gc113, t0, t5, t6, t7, hlt', hc, go_sem, ↓reduceIte, Nat.reduceLT, Nat.reduceEqDiff, Nat.reduceAdd, Nat.reduceMul, Nat.reduceSub, Int.reduceAdd, Int.reduceSub, Nat.reduceLeDiff, Int.reduceLT, Int.reduceLE, Int.reduceEq, Int.reduceNeg, Int.reduceToNat, hy])
      exact ⟨_, by omega, j + 1, rfl, hlt, hc1 rfl, rfl⟩
    | false =>
      simp (disch := first | rfl | omega | exact lt_new _ | assumption | decide | (simp [tk_here, tk_app, tk_0, tk_S, gr_here, gr_app, gr_0, gr_S] <;> omega) | fail) only [r113_0, r113_1, r113_2, r113_3, r113_4, l113_5, c113, rs113, gc113, t0, t5, t6, t7, hlt', hc, go_sem, ↓reduceIte, Nat.reduceLT, Nat.reduceEqDiff, Nat.reduceAdd, Nat.reduceMul, Nat.reduceSub, Int.reduceAdd, Int.reduceSub, Nat.reduceLeDiff, Int.reduceLT, Int.reduceLE, Int.reduceEq, Int.reduceNeg, Int.reduceToNat]
      repeat' ((first | refine guardB_dec (fun hy => ?_) (fun hy => ?_) | refine guardB_bool (fun hy => ?_) (fun hy => ?_) | refine guardQ_ite (fun hy => ?_) (fun hy => ?_) | refine brQ_dec (fun hy => ?_) (fun hy => ?_) | refine brQ_bool (fun hy => ?_) (fun hy => ?_)) <;> (try simp only [Bool.not_eq_true', Bool.not_eq_false', Bool.and_eq_true, Bool.or_eq_false_iff, decide_eq_true_eq, decide_eq_false_iff_not] at hy) <;> simp (disch := first | rfl | omega | exact lt_new _ | assumption | decide | (simp [tk_here, tk_app, tk_0, tk_S, gr_here, gr_app, gr_0, gr_S] <;> omega) | fail) only [r113_0, r113_1, r113_2, r113_3, r113_4, l113_5, c113, rs113, gc113, t0, t5, t6, t7, hlt', hc, go_sem, ↓reduceIte, Nat.reduceLT, Nat.reduceEqDiff, Nat.reduceAdd, Nat.reduceMul, Nat.reduceSub, Int.reduceAdd, Int.reduceSub, Nat.reduceLeDiff, Int.reduceLT, Int.reduceLE, Int.reduceEq, Int.reduceNeg, Int.reduceToNat, hy])
      exact ⟨_, rfl, .inr (hc2 rfl)⟩
  · obtain rfl : j = l.length := by omega
    simp (disch := first | rfl | omega | exact lt_new _ | assumption | decide | (simp [tk_here, tk_app, tk_0, tk_S, gr_here, gr_app, gr_0, gr_S] <;> omega) | fail) only [r113_0, r113_1, r113_2, r113_3, r113_4, l113_5, c113, rs113, gc113, t0, t5, t6, t7, Int.lt_irrefl, go_sem, ↓reduceIte, Nat.reduceLT, Nat.reduceEqDiff, Nat.reduceAdd, Nat.reduceMul, Nat.reduceSub, Int.reduceAdd, Int.reduceSub, Nat.reduceLeDiff, Int.reduceLT, Int.reduceLE, Int.reduceEq, Int.reduceNeg, Int.reduceToNat]
    repeat' ((first | refine guardB_dec (fun hy => ?_) (fun hy => ?_) | refine guardB_bool (fun hy => ?_) (fun hy => ?_) | refine guardQ_ite (fun hy => ?_) (fun hy => ?_) | refine brQ_dec (fun hy => ?_) (fun hy => ?_) | refine brQ_bool (fun hy => ?_) (fun hy => ?_)) <;> (try simp only [Bool.not_eq_true', Bool.not_eq_false', Bool.and_eq_true, Bool.or_eq_false_iff, decide_eq_true_eq, decide_eq_false_iff_not] at hy) <;> simp (disch := first | rfl | omega | exact lt_new _ | assumption | decide | (simp [tk_here, tk_app, tk_0, tk_S, gr_here, gr_app, gr_0, gr_S] <;> omega) | fail) only [r113_0, r113_1, r113_2, r113_3, r113_4, l113_5, c113, rs113, gc113, t0, t5, t6, t7, Int.lt_irrefl, go_sem, ↓reduceIte, Nat.reduceLT, Nat.reduceEqDiff, Nat.reduceAdd, Nat.reduceMul, Nat.reduceSub, Int.reduceAdd, Int.reduceSub, Nat.reduceLeDiff, Int.reduceLT, Int.reduceLE, Int.reduceEq, Int.reduceNeg, Int.reduceToNat, hy])
    exact ⟨_, rfl, .inl hJ⟩
noncomputable def lp160 (T : Fr) (n : Nat) : LoopA := ⟨T, 13, [7], a160_0, b160_0, 0, .nor, n⟩
theorem lp160N (T : Fr) (n : Nat) : (lp160 T n).N = 13 := rfl
theorem lp160T (T : Fr) (n : Nat) : (lp160 T n).T = T := rfl
theorem pv_bx27 (v : V) : partV Tryz.prog 27 [v] 0 = some v := by unfold partV; rw [g27]; rfl
theorem round160 {H0 H : Hp} {v : V} {out : List Int} {ds : List Nat} {T : Fr} {n id : Nat} {x : Int} (h : MidE inE H0 H v out ds) (ho : out.length ≤ 2 ^ 20) (hid : H[id]? = some (.loop (lp160 T n))) (hlt : H0.length < id) (t2 : get T 2 = .ptr H0.length 0 0) :
    ∃ H' v', callL Tryz.prog pr Y0 [.yld id, .int .i64 x] H = some (.bool true, H') ∧ MidE inE H0 H' v' (out ++ [x]) ds ∧ H'[id]? = some (.loop (lp160 T n)) := by
  have hidl := (List.getElem?_eq_some_iff.1 hid).1
  have hgl : getLoopA H id = some (lp160 T n) := by unfold getLoopA; rw [hid]
  suffices hh : ∃ r, callL Tryz.prog pr Y0 [.yld id, .int .i64 x] H = some r ∧ ∃ H' v', r = (.bool true, H') ∧ MidE inE H0 H' v' (out ++ [x]) ds ∧ H'[id]? = some (.loop (lp160 T n)) by
    obtain ⟨_, e, H', v', rfl, hh⟩ := hh
    exact ⟨H', v', e, hh⟩
  refine callL_roundE hgl rfl rfl rfl ha160_0 hb160_0 ?_
  simp (disch := first | rfl | omega | exact lt_new _ | assumption | decide | (simp [tk_here, tk_app, tk_0, tk_S, gr_here, gr_app, gr_0, gr_S] <;> omega) | fail) only [ca160_0, r160_2, lp160N, lp160T, hgl, go_sem, ↓reduceIte, Nat.reduceLT, Nat.reduceEqDiff, Nat.reduceAdd, Nat.reduceMul, Nat.reduceSub, Int.reduceAdd, Int.reduceSub, Nat.reduceLeDiff, Int.reduceLT, Int.reduceLE, Int.reduceEq, Int.reduceNeg, Int.reduceToNat]
  refine ⟨_, rfl, rfl, ?_⟩
  obtain ⟨B, hB⟩ : ∃ B, B = AB.loop { lp160 T n with st := 1 } := ⟨_, rfl⟩
  show Wp _ _ _ _ _ _ (H.set id (AB.loop { lp160 T n with st := 1 })) _
  rw [← hB]
  have hM : MidE inE H0 (H.set id B) v out ds := h.loop (H' := H.set id B) hid hlt fun i _ hi => List.getElem?_set_ne (Ne.symm hi)
  obtain ⟨v', H3, p1, p2, p3, p4, p5, p6⟩ := hM.push (w := 1) (by_ := 8) (t := 27) x rfl (by omega) (by omega) z27
  simp only [inE_f] at p1
  have hbx := getRow_of hM.box
  have hid1 : (H.set id B)[id]? = some B := List.getElem?_set_self hidl
  have h3 := p5 id _ (by rw [hid1, hB])
  have hg3 : getLoopA (H3.set H0.length (.row 0 [v'] true)) id = some { lp160 T n with st := 1 } := by unfold getLoopA; rw [h3]
  simp (disch := first | rfl | omega | exact lt_new _ | assumption | decide | (simp [tk_here, tk_app, tk_0, tk_S, gr_here, gr_app, gr_0, gr_S] <;> omega) | fail) only [cb160_0, r160_3, t2, ldR, hbx, pv_bx27, p1, p3, p6, hg3, go_sem, ↓reduceIte, Nat.reduceLT, Nat.reduceEqDiff, Nat.reduceAdd, Nat.reduceMul, Nat.reduceSub, Int.reduceAdd, Int.reduceSub, Nat.reduceLeDiff, Int.reduceLT, Int.reduceLE, Int.reduceEq, Int.reduceNeg, Int.reduceToNat]
  repeat' ((first | refine guardB_dec (fun hy => ?_) (fun hy => ?_) | refine guardB_bool (fun hy => ?_) (fun hy => ?_) | refine guardQ_ite (fun hy => ?_) (fun hy => ?_) | refine brQ_dec (fun hy => ?_) (fun hy => ?_) | refine brQ_bool (fun hy => ?_) (fun hy => ?_)) <;> (try simp only [Bool.not_eq_true', Bool.not_eq_false', Bool.and_eq_true, Bool.or_eq_false_iff, decide_eq_true_eq, decide_eq_false_iff_not] at hy) <;> simp (disch := first | rfl | omega | exact lt_new _ | assumption | decide | (simp [tk_here, tk_app, tk_0, tk_S, gr_here, gr_app, gr_0, gr_S] <;> omega) | fail) only [cb160_0, r160_3, t2, ldR, hbx, pv_bx27, p1, p3, p6, hg3, go_sem, ↓reduceIte, Nat.reduceLT, Nat.reduceEqDiff, Nat.reduceAdd, Nat.reduceMul, Nat.reduceSub, Int.reduceAdd, Int.reduceSub, Nat.reduceLeDiff, Int.reduceLT, Int.reduceLE, Int.reduceEq, Int.reduceNeg, Int.reduceToNat, hy])
  exact ⟨_, rfl, _, _, rfl, p4.loop h3 hlt fun i _ hi => List.getElem?_set_ne (Ne.symm hi), List.getElem?_set_self (List.getElem?_eq_some_iff.1 h3).1⟩
theorem rowV_nil {α : Type} (H : Hp) (E : Enc α) : rowV H E [] = (.nilslice, H) := if_pos rfl
theorem rowV_cons {α : Type} (H : Hp) (E : Enc α) {l : List α} (h : l ≠ []) : rowV H E l = (.slice H.length 0 0 l.length E.w .full, H ++ [.row 0 (flatE E l) true]) := if_neg h
theorem take_at (l : List Int) {j : Nat} (h : j < l.length) : l.take (j + 1) = l.take j ++ [inE.at l j] := by
  rw [List.take_succ_eq_append_getElem h]
  simp [Enc.at, List.getD, h]
theorem rng160 {H0 : Hp} {b : Bool} {l : List Int} (hl : l.length ≤ 2 ^ 20) {T : Fr} {Q : Ex → Fr → Dfr → Hp → Prop} (t6 : get T 6 = .fn 113 [] [.ipt [slV b inE l] 0]) (t2 : get T 2 = .ptr H0.length 0 0)
    (hq : ∀ v' H2 d, MidE inE H0 H2 v' l [d] → Q .nor T [(Y0, [V.ptr d 0 0])] H2) :
    Wp Tryz.prog (callL Tryz.prog pr) 13 (.rng (tm 6) [7] a160_0 b160_0) T [] (H0 ++ [AB.row 0 [V.nilslice] true]) Q := by
  have hn : (H0 ++ [AB.row 0 [V.nilslice] true]).length = H0.length + 1 := by simp
  have hM2 : MidE inE H0 (H0 ++ [AB.row 0 [V.nilslice] true] ++ [.dfr true, .loop (lp160 T (H0.length + 1))]) .nilslice (l.take 0) [H0.length + 1] := by
    refine ((MidE.nil inE H0).app _).mark (by simp) (by omega) ?_
    rw [List.getElem?_append_right (by omega), hn]
    simp
  have hid2 : (H0 ++ [AB.row 0 [V.nilslice] true] ++ [.dfr true, .loop (lp160 T (H0.length + 1))])[H0.length + 1 + 1]? = some (.loop (lp160 T (H0.length + 1))) := by
    rw [List.getElem?_append_right (by omega), hn]
    simp
  obtain ⟨H3, hc, hJ⟩ := fn113 (id := H0.length + 1 + 1) (b := b) (l := l) (H := H0 ++ [AB.row 0 [V.nilslice] true] ++ [.dfr true, .loop (lp160 T (H0.length + 1))]) (by omega)
    (fun j H => ∃ v, MidE inE H0 H v (l.take j) [H0.length + 1] ∧ H[H0.length + 1 + 1]? = some (.loop (lp160 T (H0.length + 1)))) (fun _ => False)
    ⟨_, hM2, hid2⟩ (fun j hj H ⟨v, m1, m2⟩ => by
      obtain ⟨H', v', r1, r2, r3⟩ := round160 (x := inE.at l j) m1 (by rw [List.length_take]; omega) m2 (by omega) t2
      refine ⟨true, H', r1, fun _ => ⟨v', ?_, r3⟩, fun h => (by cases h)⟩
      rw [take_at l hj]
      exact r2)
  rcases hJ with ⟨v, m1, m2⟩ | h
  · refine Wp_rng (q := (.tup [], H3)) (L := lp160 T (H0.length + 1)) t6 (by decide) rfl (by kernel_rfl) (by rw [hn]; exact hc) (by rw [hn]; unfold getLoopA; rw [m2]) (by show (0 : Nat) ≠ 1; decide) ?_
    rw [hn]
    refine hq v _ _ ?_
    rw [List.take_length] at m1
    exact m1.loop m2 (by omega) fun i _ hi => List.getElem?_set_ne (Ne.symm hi)
  · exact h.elim
theorem fn160 (b : Bool) (l : List Int) (hl : l.length ≤ 2 ^ 20) (H : Hp) : callL Tryz.prog pr 160 [.nilslice, .fn 113 [] [.ipt [slV b inE l] 0]] H = some (rowV H inE l) := by
  refine run160 (Nat.le_of_ble_eq_true rfl) ?_
  simp (disch := first | rfl | omega | exact lt_new _ | assumption | decide | (simp [tk_here, tk_app, tk_0, tk_S, gr_here, gr_app, gr_0, gr_S] <;> omega) | fail) only [r160_0, r160_1, c160, go_sem, ↓reduceIte, Nat.reduceLT, Nat.reduceEqDiff, Nat.reduceAdd, Nat.reduceMul, Nat.reduceSub, Int.reduceAdd, Int.reduceSub, Nat.reduceLeDiff, Int.reduceLT, Int.reduceLE, Int.reduceEq, Int.reduceNeg, Int.reduceToNat]
  repeat' ((first | refine guardB_dec (fun hy => ?_) (fun hy => ?_) | refine guardB_bool (fun hy => ?_) (fun hy => ?_) | refine guardQ_ite (fun hy => ?_) (fun hy => ?_) | refine brQ_dec (fun hy => ?_) (fun hy => ?_) | refine brQ_bool (fun hy => ?_) (fun hy => ?_)) <;> (try simp only [Bool.not_eq_true', Bool.not_eq_false', Bool.and_eq_true, Bool.or_eq_false_iff, decide_eq_true_eq, decide_eq_false_iff_not] at hy) <;> simp (disch := first | rfl | omega | exact lt_new _ | assumption | decide | (simp [tk_here, tk_app, tk_0, tk_S, gr_here, gr_app, gr_0, gr_S] <;> omega) | fail) only [r160_0, r160_1, c160, go_sem, ↓reduceIte, Nat.reduceLT, Nat.reduceEqDiff, Nat.reduceAdd, Nat.reduceMul, Nat.reduceSub, Int.reduceAdd, Int.reduceSub, Nat.reduceLeDiff, Int.reduceLT, Int.reduceLE, Int.reduceEq, Int.reduceNeg, Int.reduceToNat, hy])
  refine rng160 (b := b) hl (by simp (disch := first | rfl | omega | exact lt_new _ | assumption | decide | (simp [tk_here, tk_app, tk_0, tk_S, gr_here, gr_app, gr_0, gr_S] <;> omega) | fail) only [go_sem, ↓reduceIte, Nat.reduceLT, Nat.reduceEqDiff, Nat.reduceAdd, Nat.reduceMul, Nat.reduceSub, Int.reduceAdd, Int.reduceSub, Nat.reduceLeDiff, Int.reduceLT, Int.reduceLE, Int.reduceEq, Int.reduceNeg, Int.reduceToNat]) (by simp (disch := first | rfl | omega | exact lt_new _ | assumption | decide | (simp [tk_here, tk_app, tk_0, tk_S, gr_here, gr_app, gr_0, gr_S] <;> omega) | fail) only [go_sem, ↓reduceIte, Nat.reduceLT, Nat.reduceEqDiff, Nat.reduceAdd, Nat.reduceMul, Nat.reduceSub, Int.reduceAdd, Int.reduceSub, Nat.reduceLeDiff, Int.reduceLT, Int.reduceLE, Int.reduceEq, Int.reduceNeg, Int.reduceToNat]) fun v' H2 d hM => ?_
  have hbx : loadV Tryz.prog 27 H2 (.ptr H.length 0 0) = some v' := by rw [ldR, getRow_of hM.box]; exact pv_bx27 v'
  obtain ⟨H3, e1, e2⟩ := hM.marks (Pr := pr)
  have e1' : dfrs pr [(Y0, [V.ptr d 0 0])] H2 = some H3 := e1
  have hgc := e2.gc2
  obtain ⟨c1, c2, c3, _⟩ := e2.own.cell
  simp (disch := first | rfl | omega | exact lt_new _ | assumption | decide | (simp [tk_here, tk_app, tk_0, tk_S, gr_here, gr_app, gr_0, gr_S] <;> omega) | fail) only [r160_4, rs160, gc160, hbx, e1', hgc, go_sem, ↓reduceIte, Nat.reduceLT, Nat.reduceEqDiff, Nat.reduceAdd, Nat.reduceMul, Nat.reduceSub, Int.reduceAdd, Int.reduceSub, Nat.reduceLeDiff, Int.reduceLT, Int.reduceLE, Int.reduceEq, Int.reduceNeg, Int.reduceToNat]
  repeat' ((first | refine guardB_dec (fun hy => ?_) (fun hy => ?_) | refine guardB_bool (fun hy => ?_) (fun hy => ?_) | refine guardQ_ite (fun hy => ?_) (fun hy => ?_) | refine brQ_dec (fun hy => ?_) (fun hy => ?_) | refine brQ_bool (fun hy => ?_) (fun hy => ?_)) <;> (try simp only [Bool.not_eq_true', Bool.not_eq_false', Bool.and_eq_true, Bool.or_eq_false_iff, decide_eq_true_eq, decide_eq_false_iff_not] at hy) <;> simp (disch := first | rfl | omega | exact lt_new _ | assumption | decide | (simp [tk_here, tk_app, tk_0, tk_S, gr_here, gr_app, gr_0, gr_S] <;> omega) | fail) only [r160_4, rs160, gc160, hbx, e1', hgc, go_sem, ↓reduceIte, Nat.reduceLT, Nat.reduceEqDiff, Nat.reduceAdd, Nat.reduceMul, Nat.reduceSub, Int.reduceAdd, Int.reduceSub, Nat.reduceLeDiff, Int.reduceLT, Int.reduceLE, Int.reduceEq, Int.reduceNeg, Int.reduceToNat, hy])
  done
theorem gc2_rowV (H : Hp) (l : List Int) : gcC H (rowV H inE l) = rowV H inE l := by
  by_cases h : l = []
  · subst h
    rw [rowV_nil]
    exact gc2_own (E := inE) (out := []) (fun _ _ => rfl) (Nat.le_refl _) (ownE_nil _ _) fun id hid => by obtain ⟨g, o, n, z, cp, e⟩ := hid; cases e
  · rw [rowV_cons H inE h]
    refine (gc2_own (E := inE) (out := l) (fun i hi => List.getElem?_append_left hi) (by simp) (.inr ⟨H.length, 0, rfl, List.length_pos_iff.2 h, by simp⟩) fun id hid => ?_).trans (rowV_cons H inE h)
    obtain ⟨g, o, n, z, cp, e⟩ := hid
    injection e with e1
    omega
theorem fn111 (b : Bool) (l : List Int) (hl : l.length ≤ 2 ^ 20) (H : Hp) : callL Tryz.prog pr 111 [.fn 113 [] [.ipt [slV b inE l] 0]] H = some (rowV H inE l) := by
  have h160 := fn160 b l hl
  have hg := gc2_rowV H l
  refine run111 (Nat.le_of_ble_eq_true rfl) ?_
  by_cases h : l = []
  · have h160' : ∀ H, callL Tryz.prog pr 160 [.nilslice, .fn 113 [] [.ipt [slV b inE l] 0]] H = some (.nilslice, H) := fun H => by rw [h160, h, rowV_nil]
    rw [h, rowV_nil] at hg
    rw [h, rowV_nil]
    rw [h] at h160'
    simp (disch := first | rfl | omega | exact lt_new _ | assumption | decide | (simp [tk_here, tk_app, tk_0, tk_S, gr_here, gr_app, gr_0, gr_S] <;> omega) | fail) only [r111_0, r111_1, c111, rs111, gc111, h160', hg, go_sem, ↓reduceIte, Nat.reduceLT, Nat.reduceEqDiff, Nat.reduceAdd, Nat.reduceMul, Nat.reduceSub, Int.reduceAdd, Int.reduceSub, Nat.reduceLeDiff, Int.reduceLT, Int.reduceLE, Int.reduceEq, Int.reduceNeg, Int.reduceToNat]
    repeat' ((first | refine guardB_dec (fun hy => ?_) (fun hy => ?_) | refine guardB_bool (fun hy => ?_) (fun hy => ?_) | refine guardQ_ite (fun hy => ?_) (fun hy => ?_) | refine brQ_dec (fun hy => ?_) (fun hy => ?_) | refine brQ_bool (fun hy => ?_) (fun hy => ?_)) <;> (try simp only [Bool.not_eq_true', Bool.not_eq_false', Bool.and_eq_true, Bool.or_eq_false_iff, decide_eq_true_eq, decide_eq_false_iff_not] at hy) <;> simp (disch := first | rfl | omega | exact lt_new _ | assumption | decide | (simp [tk_here, tk_app, tk_0, tk_S, gr_here, gr_app, gr_0, gr_S] <;> omega) | fail) only [r111_0, r111_1, c111, rs111, gc111, h160', hg, go_sem, ↓reduceIte, Nat.reduceLT, Nat.reduceEqDiff, Nat.reduceAdd, Nat.reduceMul, Nat.reduceSub, Int.reduceAdd, Int.reduceSub, Nat.reduceLeDiff, Int.reduceLT, Int.reduceLE, Int.reduceEq, Int.reduceNeg, Int.reduceToNat, hy])
    done
  · have h160' := fun H => (h160 H).trans (congrArg some (rowV_cons H inE h))
    rw [rowV_cons H inE h] at hg
    rw [rowV_cons H inE h]
    simp (disch := first | rfl | omega | exact lt_new _ | assumption | decide | (simp [tk_here, tk_app, tk_0, tk_S, gr_here, gr_app, gr_0, gr_S] <;> omega) | fail) only [r111_0, r111_1, c111, rs111, gc111, h160', hg, go_sem, ↓reduceIte, Nat.reduceLT, Nat.reduceEqDiff, Nat.reduceAdd, Nat.reduceMul, Nat.reduceSub, Int.reduceAdd, Int.reduceSub, Nat.reduceLeDiff, Int.reduceLT, Int.reduceLE, Int.reduceEq, Int.reduceNeg, Int.reduceToNat]
    repeat' ((first | refine guardB_dec (fun hy => ?_) (fun hy => ?_) | refine guardB_bool (fun hy => ?_) (fun hy => ?_) | refine guardQ_ite (fun hy => ?_) (fun hy => ?_) | refine brQ_dec (fun hy => ?_) (fun hy => ?_) | refine brQ_bool (fun hy => ?_) (fun hy => ?_)) <;> (try simp only [Bool.not_eq_true', Bool.not_eq_false', Bool.and_eq_true, Bool.or_eq_false_iff, decide_eq_true_eq, decide_eq_false_iff_not] at hy) <;> simp (disch := first | rfl | omega | exact lt_new _ | assumption | decide | (simp [tk_here, tk_app, tk_0, tk_S, gr_here, gr_app, gr_0, gr_S] <;> omega) | fail) only [r111_0, r111_1, c111, rs111, gc111, h160', hg, go_sem, ↓reduceIte, Nat.reduceLT, Nat.reduceEqDiff, Nat.reduceAdd, Nat.reduceMul, Nat.reduceSub, Int.reduceAdd, Int.reduceSub, Nat.reduceLeDiff, Int.reduceLT, Int.reduceLE, Int.reduceEq, Int.reduceNeg, Int.reduceToNat, hy])
    done
theorem flat_ints : ∀ l : List Int, flatE inE l = l.map (V.int .i64)
  | [] => rfl
  | x :: l => by
    have := flat_ints l
    simp only [flatE, List.map_cons, List.flatten_cons, inE_f] at this ⊢
    rw [this]
    rfl
@[go_sem] theorem kp112 (v : V) : demK 112 v = v.dem := rfl
theorem fn112 (args : List V) (H : Hp) : callL Tryz.prog pr 112 args H = sortV args H := by rw [callL_eq]; rfl
theorem sort_row (H : Hp) {l : List Int} (h : l ≠ []) (hl : l.length ≤ 2 ^ 20) : callL Tryz.prog pr 112 [.slice H.length 0 0 l.length 1 .full] (H ++ [.row 0 (flatE inE l) true]) = some (.tup [], H ++ [.row 0 (flatE inE (sortI l)) true]) := by
  have h0 : 0 < l.length := List.length_pos_iff.2 h
  rw [fn112]
  unfold sortV
  simp only [getRow_last, Option.bind_some]
  rw [if_neg (by omega), if_pos ⟨trivial, trivial, by simp [flat_ints], by omega⟩]
  rw [flat_ints, List.drop_zero, List.take_of_length_le (by simp), intsOf_map]
  simp only [Option.map_some, set_last]
  rw [flat_ints, ← List.append_nil (l.map (V.int .i64)), setAt_whole (by simp [sortI_length]), List.append_nil]
theorem fn61 (b : Bool) (l : List Int) (hl : l.length ≤ 2 ^ 20) (H : Hp) : callL Tryz.prog pr 61 [.fn 113 [] [.ipt [slV b inE l] 0]] H = some (slV true inE (sortI l), H) := by
  have h111 := fn111 b l hl
  refine run61 (Nat.le_of_ble_eq_true rfl) ?_
  by_cases h : l = []
  · have h111' : ∀ H, callL Tryz.prog pr 111 [.fn 113 [] [.ipt [slV b inE l] 0]] H = some (.nilslice, H) := fun H => by rw [h111, h, rowV_nil]
    have hs : ∀ H, callL Tryz.prog pr 112 [.nilslice] H = some (.tup [], H) := fun H => fn112 _ _
    rw [h] at h111' ⊢
    simp (disch := first | rfl | omega | exact lt_new _ | assumption | decide | (simp [tk_here, tk_app, tk_0, tk_S, gr_here, gr_app, gr_0, gr_S] <;> omega) | fail) only [r61_0, r61_1, r61_2, r61_3, c61, rs61, gc61, h111', hs, go_sem, ↓reduceIte, Nat.reduceLT, Nat.reduceEqDiff, Nat.reduceAdd, Nat.reduceMul, Nat.reduceSub, Int.reduceAdd, Int.reduceSub, Nat.reduceLeDiff, Int.reduceLT, Int.reduceLE, Int.reduceEq, Int.reduceNeg, Int.reduceToNat]
    repeat' ((first | refine guardB_dec (fun hy => ?_) (fun hy => ?_) | refine guardB_bool (fun hy => ?_) (fun hy => ?_) | refine guardQ_ite (fun hy => ?_) (fun hy => ?_) | refine brQ_dec (fun hy => ?_) (fun hy => ?_) | refine brQ_bool (fun hy => ?_) (fun hy => ?_)) <;> (try simp only [Bool.not_eq_true', Bool.not_eq_false', Bool.and_eq_true, Bool.or_eq_false_iff, decide_eq_true_eq, decide_eq_false_iff_not] at hy) <;> simp (disch := first | rfl | omega | exact lt_new _ | assumption | decide | (simp [tk_here, tk_app, tk_0, tk_S, gr_here, gr_app, gr_0, gr_S] <;> omega) | fail) only [r61_0, r61_1, r61_2, r61_3, c61, rs61, gc61, h111', hs, go_sem, ↓reduceIte, Nat.reduceLT, Nat.reduceEqDiff, Nat.reduceAdd, Nat.reduceMul, Nat.reduceSub, Int.reduceAdd, Int.reduceSub, Nat.reduceLeDiff, Int.reduceLT, Int.reduceLE, Int.reduceEq, Int.reduceNeg, Int.reduceToNat, hy])
    refine finQ_same ?_
    simp (disch := first | rfl | omega | exact lt_new _ | assumption | decide | (simp [tk_here, tk_app, tk_0, tk_S, gr_here, gr_app, gr_0, gr_S] <;> omega) | fail) only [go_sem, ↓reduceIte, Nat.reduceLT, Nat.reduceEqDiff, Nat.reduceAdd, Nat.reduceMul, Nat.reduceSub, Int.reduceAdd, Int.reduceSub, Nat.reduceLeDiff, Int.reduceLT, Int.reduceLE, Int.reduceEq, Int.reduceNeg, Int.reduceToNat, sortI, slV_nil, List.mergeSort_nil]
  · have h111' := fun H => (h111 H).trans (congrArg some (rowV_cons H inE h))
    have hs := fun H => sort_row H h hl
    have hw : inE.w = 1 := rfl
    rw [hw] at h111'
    simp (disch := first | rfl | omega | exact lt_new _ | assumption | decide | (simp [tk_here, tk_app, tk_0, tk_S, gr_here, gr_app, gr_0, gr_S] <;> omega) | fail) only [r61_0, r61_1, r61_2, r61_3, c61, rs61, gc61, h111', hs, go_sem, ↓reduceIte, Nat.reduceLT, Nat.reduceEqDiff, Nat.reduceAdd, Nat.reduceMul, Nat.reduceSub, Int.reduceAdd, Int.reduceSub, Nat.reduceLeDiff, Int.reduceLT, Int.reduceLE, Int.reduceEq, Int.reduceNeg, Int.reduceToNat]
    repeat' ((first | refine guardB_dec (fun hy => ?_) (fun hy => ?_) | refine guardB_bool (fun hy => ?_) (fun hy => ?_) | refine guardQ_ite (fun hy => ?_) (fun hy => ?_) | refine brQ_dec (fun hy => ?_) (fun hy => ?_) | refine brQ_bool (fun hy => ?_) (fun hy => ?_)) <;> (try simp only [Bool.not_eq_true', Bool.not_eq_false', Bool.and_eq_true, Bool.or_eq_false_iff, decide_eq_true_eq, decide_eq_false_iff_not] at hy) <;> simp (disch := first | rfl | omega | exact lt_new _ | assumption | decide | (simp [tk_here, tk_app, tk_0, tk_S, gr_here, gr_app, gr_0, gr_S] <;> omega) | fail) only [r61_0, r61_1, r61_2, r61_3, c61, rs61, gc61, h111', hs, go_sem, ↓reduceIte, Nat.reduceLT, Nat.reduceEqDiff, Nat.reduceAdd, Nat.reduceMul, Nat.reduceSub, Int.reduceAdd, Int.reduceSub, Nat.reduceLeDiff, Int.reduceLT, Int.reduceLE, Int.reduceEq, Int.reduceNeg, Int.reduceToNat, hy])
    refine finQ_app ?_
    have hl2 : 0 < (sortI l).length := by rw [sortI_length]; exact List.length_pos_iff.2 h
    have hi : inlB H.length (H ++ [.row 0 (flatE inE (sortI l)) true]) 8 (.slice H.length 0 0 l.length 1 .full) = some (.isl (flatE inE (sortI l)) l.length 1) := inlB_row (f := 6) (Nat.le_refl _) (by simp) (by rw [flatE_len, sortI_length]; rfl) flatE_imm
    refine ⟨_, hi, ?_⟩
    rw [slV_some hl2, sortI_length]
    rfl
end Go.Proofs.YteeofpgnjekeaaaGreatDoor
/-
  The greatest sum in a width, told with plain lists: by order of time, and as they stand. No statement of the seat stands here.
-/
namespace Go.Proofs.YteeofpgnjekeaaaGreatDoor
open Go Go.An
set_option maxRecDepth 4000
set_option linter.unusedSimpArgs false
set_option linter.unusedVariables false

/-- The sizes of those from a time on, within a width. -/
def wsum (t s : List Int) (w x : Int) : Nat → Int
  | 0 => 0
  | k + 1 => if inE.at t k ≥ x ∧ inE.at t k - x < w then wsum t s w x k + inE.at s k else wsum t s w x k
theorem wsum_b {t s : List Int} {w x : Int} (h : ∀ i < s.length, 0 ≤ inE.at s i ∧ inE.at s i ≤ 1000000) : ∀ k ≤ s.length, 0 ≤ wsum t s w x k ∧ wsum t s w x k ≤ k * 1000000
  | 0, _ => by simp [wsum]
  | k + 1, hk => by
    have h1 := wsum_b (x := x) (w := w) (t := t) h k (by omega)
    have h2 := h k (by omega)
    unfold wsum
    split <;> omega
def bstP (f : Int → Int) (l : List Int) : Nat → Int × Int
  | 0 => (-1, 0)
  | k + 1 => if f (inE.at l k) > (bstP f l k).1 then (f (inE.at l k), inE.at l k) else bstP f l k
def bstR (f : Int → Int) (l : List Int) : Nat → Int × Int
  | 0 => (-1, 0)
  | k + 1 => if f (inE.at l k) > (bstR f l k).1 ∨ f (inE.at l k) = (bstR f l k).1 ∧ inE.at l k < (bstR f l k).2 then (f (inE.at l k), inE.at l k) else bstR f l k
def IsB (f : Int → Int) (l : List Int) (k : Nat) (p : Int × Int) : Prop := (k = 0 ∧ p = (-1, 0)) ∨ ((∃ i < k, inE.at l i = p.2) ∧ f p.2 = p.1 ∧ ∀ j < k, f (inE.at l j) ≤ p.1 ∧ (f (inE.at l j) = p.1 → p.2 ≤ inE.at l j))
theorem bstR_is {f : Int → Int} (h0 : ∀ x, 0 ≤ f x) (l : List Int) : ∀ k, IsB f l k (bstR f l k)
  | 0 => .inl ⟨rfl, rfl⟩
  | k + 1 => by
    have ih := bstR_is h0 l k
    unfold bstR
    right
    rcases ih with ⟨rfl, e⟩ | ⟨⟨i, hi, e1⟩, e2, e3⟩
    · rw [e]
      have := h0 (inE.at l 0)
      rw [if_pos (.inl (by simp only; omega))]
      refine ⟨⟨0, by omega, rfl⟩, rfl, fun j hj => ?_⟩
      obtain rfl : j = 0 := by omega
      simp
    · split
      · rename_i hc
        refine ⟨⟨k, by omega, rfl⟩, rfl, fun j hj => ?_⟩
        by_cases hjk : j = k
        · subst hjk; simp
        · have := e3 j (by omega)
          simp only
          rcases hc with hc | ⟨hc, hd⟩
          · omega
          · refine ⟨by omega, fun e => ?_⟩
            have := this.2 (by omega)
            omega
      · rename_i hc
        refine ⟨⟨i, by omega, e1⟩, e2, fun j hj => ?_⟩
        by_cases hjk : j = k
        · subst hjk
          simp only [not_or, not_and] at hc
          exact ⟨by omega, fun e => by have := hc.2 e; omega⟩
        · exact e3 j (by omega)
theorem bstP_is {f : Int → Int} (h0 : ∀ x, 0 ≤ f x) (l : List Int) (hs : ∀ i j, i < j → j < l.length → inE.at l i ≤ inE.at l j) : ∀ k ≤ l.length, IsB f l k (bstP f l k)
  | 0, _ => .inl ⟨rfl, rfl⟩
  | k + 1, hk => by
    have ih := bstP_is h0 l hs k (by omega)
    unfold bstP
    right
    rcases ih with ⟨rfl, e⟩ | ⟨⟨i, hi, e1⟩, e2, e3⟩
    · rw [e]
      have := h0 (inE.at l 0)
      rw [if_pos (by simp only; omega)]
      refine ⟨⟨0, by omega, rfl⟩, rfl, fun j hj => ?_⟩
      obtain rfl : j = 0 := by omega
      simp
    · split
      · rename_i hc
        refine ⟨⟨k, by omega, rfl⟩, rfl, fun j hj => ?_⟩
        by_cases hjk : j = k
        · subst hjk; simp
        · have := e3 j (by omega)
          simp only
          omega
      · rename_i hc
        refine ⟨⟨i, by omega, e1⟩, e2, fun j hj => ?_⟩
        by_cases hjk : j = k
        · subst hjk
          have := hs i j hi (by omega)
          exact ⟨by omega, fun _ => by omega⟩
        · exact e3 j (by omega)
theorem at_mem_iff {l : List Int} {x : Int} : x ∈ l ↔ ∃ i < l.length, inE.at l i = x := by
  constructor
  · intro h
    obtain ⟨i, hi, e⟩ := List.mem_iff_getElem.1 h
    exact ⟨i, hi, by simp [Enc.at, List.getD, hi, e]⟩
  · rintro ⟨i, hi, rfl⟩
    exact inE.at_mem hi
theorem IsB.perm {f : Int → Int} {l l' : List Int} (hp : l.Perm l') {p p' : Int × Int} (h : IsB f l l.length p) (h' : IsB f l' l'.length p') : p = p' := by
  have hl := hp.length_eq
  rcases h with ⟨e, rfl⟩ | ⟨⟨i, hi, e1⟩, e2, e3⟩
  · rcases h' with ⟨_, rfl⟩ | ⟨⟨i, hi, _⟩, _, _⟩
    · rfl
    · omega
  · rcases h' with ⟨e, _⟩ | ⟨⟨i', hi', e1'⟩, e2', e3'⟩
    · omega
    · have a : ∀ x ∈ l, f x ≤ p.1 ∧ (f x = p.1 → p.2 ≤ x) := fun x hx => by
        obtain ⟨j, hj, rfl⟩ := at_mem_iff.1 hx
        exact e3 j hj
      have a' : ∀ x ∈ l', f x ≤ p'.1 ∧ (f x = p'.1 → p'.2 ≤ x) := fun x hx => by
        obtain ⟨j, hj, rfl⟩ := at_mem_iff.1 hx
        exact e3' j hj
      have m : p.2 ∈ l := at_mem_iff.2 ⟨i, hi, e1⟩
      have m' : p'.2 ∈ l' := at_mem_iff.2 ⟨i', hi', e1'⟩
      have b1 := a _ (hp.mem_iff.2 m')
      have b2 := a' _ (hp.mem_iff.1 m)
      have c1 : p.1 = p'.1 := by omega
      have c2 : p.2 = p'.2 := by
        have := b1.2 (by omega)
        have := b2.2 (by omega)
        omega
      exact Prod.ext c1 c2
theorem sortI_perm (l : List Int) : (sortI l).Perm l := List.mergeSort_perm _ _
theorem sortI_le {l : List Int} : ∀ i j, i < j → j < (sortI l).length → inE.at (sortI l) i ≤ inE.at (sortI l) j := by
  intro i j hij hj
  have hp : (sortI l).Pairwise fun x y => decide (x ≤ y) = true := List.pairwise_mergeSort (le := fun x y => decide (x ≤ y)) (fun a b c h1 h2 => by simp at *; omega) (fun a b => by simp; omega) l
  have := List.pairwise_iff_getElem.1 hp i j (by omega) hj hij
  simp only [decide_eq_true_eq] at this
  simpa [Enc.at, List.getD, hj, show i < (sortI l).length by omega] using this
theorem burst_eq {f : Int → Int} (h0 : ∀ x, 0 ≤ f x) (l : List Int) : bstP f (sortI l) l.length = bstR f l l.length := by
  have h1 := bstP_is h0 (sortI l) sortI_le l.length (by rw [sortI_length]; exact Nat.le_refl _)
  rw [← sortI_length l] at h1
  have := IsB.perm (sortI_perm l) h1 (bstR_is h0 l l.length)
  rw [sortI_length] at this
  exact this
theorem bstR_b {f : Int → Int} {m : Int} (hf : ∀ x, f x ≤ m) (hm : 0 ≤ m) (l : List Int) : ∀ k, (bstR f l k).1 ≤ m
  | 0 => by simp [bstR]; omega
  | k + 1 => by
    have := bstR_b hf hm l k
    have := hf (inE.at l k)
    unfold bstR
    split
    · exact this
    · omega
def badS (n : Int) : Bool := decide (n < 0) || decide (1000000 < n)
def burF (t s : List Int) (w : Int) : (Int × Int) × Int :=
  if t.length ≠ s.length then ((0, 0), 10) else if 200 < t.length then ((0, 0), 3) else if t.length = 0 then ((0, 0), 4) else
  if w < 1 ∨ (t.any fun n => !okT n) = true ∨ s.any badS = true then ((0, 0), 1) else (bstR (fun x => wsum t s w x t.length) t t.length, 0)
end Go.Proofs.YteeofpgnjekeaaaGreatDoor
/-
  The greatest sum in a width, as the reference has it; walked. No statement of the seat stands here.
-/
namespace Go.Proofs.YteeofpgnjekeaaaGreatDoor
open Go Go.An
set_option maxRecDepth 4000
set_option linter.unusedSimpArgs false
set_option linter.unusedVariables false

theorem fn60 (n : Int) (H : Hp) : callL Tryz.prog pr 60 [.int .i64 n] H = some (.bool (badS n), H) := by
  refine run60 (Nat.le_of_ble_eq_true rfl) ?_
  unfold badS
  simp (disch := first | rfl | omega | exact lt_new _ | assumption | decide | (simp [tk_here, tk_app, tk_0, tk_S, gr_here, gr_app, gr_0, gr_S] <;> omega) | fail) only [r60_0, r60_1, c60, rs60, gc60, go_sem, ↓reduceIte, Nat.reduceLT, Nat.reduceEqDiff, Nat.reduceAdd, Nat.reduceMul, Nat.reduceSub, Int.reduceAdd, Int.reduceSub, Nat.reduceLeDiff, Int.reduceLT, Int.reduceLE, Int.reduceEq, Int.reduceNeg, Int.reduceToNat]
  repeat' ((first | refine guardB_dec (fun hy => ?_) (fun hy => ?_) | refine guardB_bool (fun hy => ?_) (fun hy => ?_) | refine guardQ_ite (fun hy => ?_) (fun hy => ?_) | refine brQ_dec (fun hy => ?_) (fun hy => ?_) | refine brQ_bool (fun hy => ?_) (fun hy => ?_)) <;> (try simp only [Bool.not_eq_true', Bool.not_eq_false', Bool.and_eq_true, Bool.or_eq_false_iff, decide_eq_true_eq, decide_eq_false_iff_not] at hy) <;> simp (disch := first | rfl | omega | exact lt_new _ | assumption | decide | (simp [tk_here, tk_app, tk_0, tk_S, gr_here, gr_app, gr_0, gr_S] <;> omega) | fail) only [r60_0, r60_1, c60, rs60, gc60, go_sem, ↓reduceIte, Nat.reduceLT, Nat.reduceEqDiff, Nat.reduceAdd, Nat.reduceMul, Nat.reduceSub, Int.reduceAdd, Int.reduceSub, Nat.reduceLeDiff, Int.reduceLT, Int.reduceLE, Int.reduceEq, Int.reduceNeg, Int.reduceToNat, hy])
  all_goals (try ((first | refine finQ_same ?_ | refine finQ_app ?_ | (rw [List.append_assoc]; refine finQ_app ?_)) <;> simp (disch := first | rfl | omega | exact lt_new _ | assumption | decide | (simp [tk_here, tk_app, tk_0, tk_S, gr_here, gr_app, gr_0, gr_S] <;> omega) | fail) only [go_sem, ↓reduceIte, Nat.reduceLT, Nat.reduceEqDiff, Nat.reduceAdd, Nat.reduceMul, Nat.reduceSub, Int.reduceAdd, Int.reduceSub, Nat.reduceLeDiff, Int.reduceLT, Int.reduceLE, Int.reduceEq, Int.reduceNeg, Int.reduceToNat, List.append_assoc, List.cons_append, List.nil_append, *]))
  all_goals (try first | rfl | (simp [*]; done) | grind)
theorem fn59 (n : Int) (H : Hp) : callL Tryz.prog pr 59 [.int .i64 n] H = some (.bool (!okT n), H) := by
  have h57 := fn57
  refine run59 (Nat.le_of_ble_eq_true rfl) ?_
  simp (disch := first | rfl | omega | exact lt_new _ | assumption | decide | (simp [tk_here, tk_app, tk_0, tk_S, gr_here, gr_app, gr_0, gr_S] <;> omega) | fail) only [r59_0, r59_1, c59, rs59, gc59, h57, go_sem, ↓reduceIte, Nat.reduceLT, Nat.reduceEqDiff, Nat.reduceAdd, Nat.reduceMul, Nat.reduceSub, Int.reduceAdd, Int.reduceSub, Nat.reduceLeDiff, Int.reduceLT, Int.reduceLE, Int.reduceEq, Int.reduceNeg, Int.reduceToNat]
  repeat' ((first | refine guardB_dec (fun hy => ?_) (fun hy => ?_) | refine guardB_bool (fun hy => ?_) (fun hy => ?_) | refine guardQ_ite (fun hy => ?_) (fun hy => ?_) | refine brQ_dec (fun hy => ?_) (fun hy => ?_) | refine brQ_bool (fun hy => ?_) (fun hy => ?_)) <;> (try simp only [Bool.not_eq_true', Bool.not_eq_false', Bool.and_eq_true, Bool.or_eq_false_iff, decide_eq_true_eq, decide_eq_false_iff_not] at hy) <;> simp (disch := first | rfl | omega | exact lt_new _ | assumption | decide | (simp [tk_here, tk_app, tk_0, tk_S, gr_here, gr_app, gr_0, gr_S] <;> omega) | fail) only [r59_0, r59_1, c59, rs59, gc59, h57, go_sem, ↓reduceIte, Nat.reduceLT, Nat.reduceEqDiff, Nat.reduceAdd, Nat.reduceMul, Nat.reduceSub, Int.reduceAdd, Int.reduceSub, Nat.reduceLeDiff, Int.reduceLT, Int.reduceLE, Int.reduceEq, Int.reduceNeg, Int.reduceToNat, hy])
  all_goals (try ((first | refine finQ_same ?_ | refine finQ_app ?_ | (rw [List.append_assoc]; refine finQ_app ?_)) <;> simp (disch := first | rfl | omega | exact lt_new _ | assumption | decide | (simp [tk_here, tk_app, tk_0, tk_S, gr_here, gr_app, gr_0, gr_S] <;> omega) | fail) only [go_sem, ↓reduceIte, Nat.reduceLT, Nat.reduceEqDiff, Nat.reduceAdd, Nat.reduceMul, Nat.reduceSub, Int.reduceAdd, Int.reduceSub, Nat.reduceLeDiff, Int.reduceLT, Int.reduceLE, Int.reduceEq, Int.reduceNeg, Int.reduceToNat, List.append_assoc, List.cons_append, List.nil_append, *]))
  all_goals (try first | rfl | (simp [*]; done) | grind)
theorem badS_at {s : List Int} (h : s.any badS = false) {i : Nat} (hi : i < s.length) : 0 ≤ inE.at s i ∧ inE.at s i ≤ 1000000 := by
  rw [List.any_eq_false] at h
  have := h _ (inE.at_mem hi)
  simp [badS] at this
  omega
theorem iany_at {l : List Int} {p : Int → Bool} {i : Nat} (hi : i < l.length) (h : p (inE.at l i) = true) : l.any p = true := List.any_eq_true.2 ⟨_, inE.at_mem hi, h⟩
theorem iany_no {l : List Int} {p : Int → Bool} (h : ∀ i < l.length, p (inE.at l i) = false) : l.any p = false := by
  rw [List.any_eq_false]
  intro x hx
  obtain ⟨j, hj, rfl⟩ := at_mem_iff.1 hx
  rw [h j hj]
  decide
set_option maxHeartbeats 8000000 in
theorem fn20 (bt bs : Bool) (t s : List Int) (w : Int) (h1 : t.length ≤ 2 ^ 48) (h2 : s.length ≤ 2 ^ 48) (H : Hp) : callL Tryz.prog pr 20 [slV bt inE t, slV bs inE s, .int .i64 w] H = some (.tup [.int .i64 (burF t s w).1.1, .int .i64 (burF t s w).1.2, .int .i64 (burF t s w).2], H) := by
  have h58 := fn58
  refine run20 (Nat.le_of_ble_eq_true rfl) ?_
  unfold burF
  by_cases ha : t.length ≠ s.length
  case pos =>
    rw [if_pos ha]
    have ha2 : ¬ (t.length : Int) = s.length := by omega
    simp (disch := first | rfl | omega | exact lt_new _ | assumption | decide | (simp [tk_here, tk_app, tk_0, tk_S, gr_here, gr_app, gr_0, gr_S] <;> omega) | fail) only [r20_0, r20_1, r20_2, r20_3, r20_4, r20_5, r20_6, r20_7, r20_8, r20_9, r20_10, r20_11, r20_12, r20_13, r20_15, r20_16, r20_17, r20_18, r20_19, r20_20, r20_21, r20_22, r20_23, r20_24, r20_26, r20_27, r20_28, r20_30, c20, rs20, gc20, ha2, go_sem, ↓reduceIte, Nat.reduceLT, Nat.reduceEqDiff, Nat.reduceAdd, Nat.reduceMul, Nat.reduceSub, Int.reduceAdd, Int.reduceSub, Nat.reduceLeDiff, Int.reduceLT, Int.reduceLE, Int.reduceEq, Int.reduceNeg, Int.reduceToNat]
    repeat' ((first | refine guardB_dec (fun hy => ?_) (fun hy => ?_) | refine guardB_bool (fun hy => ?_) (fun hy => ?_) | refine guardQ_ite (fun hy => ?_) (fun hy => ?_) | refine brQ_dec (fun hy => ?_) (fun hy => ?_) | refine brQ_bool (fun hy => ?_) (fun hy => ?_)) <;> (try simp only [Bool.not_eq_true', Bool.not_eq_false', Bool.and_eq_true, Bool.or_eq_false_iff, decide_eq_true_eq, decide_eq_false_iff_not] at hy) <;> simp (disch := first | rfl | omega | exact lt_new _ | assumption | decide | (simp [tk_here, tk_app, tk_0, tk_S, gr_here, gr_app, gr_0, gr_S] <;> omega) | fail) only [r20_0, r20_1, r20_2, r20_3, r20_4, r20_5, r20_6, r20_7, r20_8, r20_9, r20_10, r20_11, r20_12, r20_13, r20_15, r20_16, r20_17, r20_18, r20_19, r20_20, r20_21, r20_22, r20_23, r20_24, r20_26, r20_27, r20_28, r20_30, c20, rs20, gc20, ha2, go_sem, ↓reduceIte, Nat.reduceLT, Nat.reduceEqDiff, Nat.reduceAdd, Nat.reduceMul, Nat.reduceSub, Int.reduceAdd, Int.reduceSub, Nat.reduceLeDiff, Int.reduceLT, Int.reduceLE, Int.reduceEq, Int.reduceNeg, Int.reduceToNat, hy])
    all_goals (try ((first | refine finQ_same ?_ | refine finQ_app ?_ | (rw [List.append_assoc]; refine finQ_app ?_)) <;> simp (disch := first | rfl | omega | exact lt_new _ | assumption | decide | (simp [tk_here, tk_app, tk_0, tk_S, gr_here, gr_app, gr_0, gr_S] <;> omega) | fail) only [go_sem, ↓reduceIte, Nat.reduceLT, Nat.reduceEqDiff, Nat.reduceAdd, Nat.reduceMul, Nat.reduceSub, Int.reduceAdd, Int.reduceSub, Nat.reduceLeDiff, Int.reduceLT, Int.reduceLE, Int.reduceEq, Int.reduceNeg, Int.reduceToNat, List.append_assoc, List.cons_append, List.nil_append, *]))
    all_goals (try first | rfl | (simp [*]; done) | grind)
  rw [if_neg ha]
  have ha2 : (t.length : Int) = s.length := by omega
  by_cases hb : 200 < t.length
  case pos =>
    rw [if_pos hb]
    have hb2 : (200 : Int) < s.length := by omega
    simp (disch := first | rfl | omega | exact lt_new _ | assumption | decide | (simp [tk_here, tk_app, tk_0, tk_S, gr_here, gr_app, gr_0, gr_S] <;> omega) | fail) only [r20_0, r20_1, r20_2, r20_3, r20_4, r20_5, r20_6, r20_7, r20_8, r20_9, r20_10, r20_11, r20_12, r20_13, r20_15, r20_16, r20_17, r20_18, r20_19, r20_20, r20_21, r20_22, r20_23, r20_24, r20_26, r20_27, r20_28, r20_30, c20, rs20, gc20, ha2, hb2, go_sem, ↓reduceIte, Nat.reduceLT, Nat.reduceEqDiff, Nat.reduceAdd, Nat.reduceMul, Nat.reduceSub, Int.reduceAdd, Int.reduceSub, Nat.reduceLeDiff, Int.reduceLT, Int.reduceLE, Int.reduceEq, Int.reduceNeg, Int.reduceToNat]
    repeat' ((first | refine guardB_dec (fun hy => ?_) (fun hy => ?_) | refine guardB_bool (fun hy => ?_) (fun hy => ?_) | refine guardQ_ite (fun hy => ?_) (fun hy => ?_) | refine brQ_dec (fun hy => ?_) (fun hy => ?_) | refine brQ_bool (fun hy => ?_) (fun hy => ?_)) <;> (try simp only [Bool.not_eq_true', Bool.not_eq_false', Bool.and_eq_true, Bool.or_eq_false_iff, decide_eq_true_eq, decide_eq_false_iff_not] at hy) <;> simp (disch := first | rfl | omega | exact lt_new _ | assumption | decide | (simp [tk_here, tk_app, tk_0, tk_S, gr_here, gr_app, gr_0, gr_S] <;> omega) | fail) only [r20_0, r20_1, r20_2, r20_3, r20_4, r20_5, r20_6, r20_7, r20_8, r20_9, r20_10, r20_11, r20_12, r20_13, r20_15, r20_16, r20_17, r20_18, r20_19, r20_20, r20_21, r20_22, r20_23, r20_24, r20_26, r20_27, r20_28, r20_30, c20, rs20, gc20, ha2, hb2, go_sem, ↓reduceIte, Nat.reduceLT, Nat.reduceEqDiff, Nat.reduceAdd, Nat.reduceMul, Nat.reduceSub, Int.reduceAdd, Int.reduceSub, Nat.reduceLeDiff, Int.reduceLT, Int.reduceLE, Int.reduceEq, Int.reduceNeg, Int.reduceToNat, hy])
    all_goals (try ((first | refine finQ_same ?_ | refine finQ_app ?_ | (rw [List.append_assoc]; refine finQ_app ?_)) <;> simp (disch := first | rfl | omega | exact lt_new _ | assumption | decide | (simp [tk_here, tk_app, tk_0, tk_S, gr_here, gr_app, gr_0, gr_S] <;> omega) | fail) only [go_sem, ↓reduceIte, Nat.reduceLT, Nat.reduceEqDiff, Nat.reduceAdd, Nat.reduceMul, Nat.reduceSub, Int.reduceAdd, Int.reduceSub, Nat.reduceLeDiff, Int.reduceLT, Int.reduceLE, Int.reduceEq, Int.reduceNeg, Int.reduceToNat, List.append_assoc, List.cons_append, List.nil_append, *]))
    all_goals (try first | rfl | (simp [*]; done) | grind)
  rw [if_neg hb]
  have hb2 : ¬ (200 : Int) < s.length := by omega
  by_cases hc : t.length = 0
  case pos =>
    rw [if_pos hc]
    have hc2 : (s.length : Int) = 0 := by omega
    simp (disch := first | rfl | omega | exact lt_new _ | assumption | decide | (simp [tk_here, tk_app, tk_0, tk_S, gr_here, gr_app, gr_0, gr_S] <;> omega) | fail) only [r20_0, r20_1, r20_2, r20_3, r20_4, r20_5, r20_6, r20_7, r20_8, r20_9, r20_10, r20_11, r20_12, r20_13, r20_15, r20_16, r20_17, r20_18, r20_19, r20_20, r20_21, r20_22, r20_23, r20_24, r20_26, r20_27, r20_28, r20_30, c20, rs20, gc20, ha2, hb2, hc2, go_sem, ↓reduceIte, Nat.reduceLT, Nat.reduceEqDiff, Nat.reduceAdd, Nat.reduceMul, Nat.reduceSub, Int.reduceAdd, Int.reduceSub, Nat.reduceLeDiff, Int.reduceLT, Int.reduceLE, Int.reduceEq, Int.reduceNeg, Int.reduceToNat]
    repeat' ((first | refine guardB_dec (fun hy => ?_) (fun hy => ?_) | refine guardB_bool (fun hy => ?_) (fun hy => ?_) | refine guardQ_ite (fun hy => ?_) (fun hy => ?_) | refine brQ_dec (fun hy => ?_) (fun hy => ?_) | refine brQ_bool (fun hy => ?_) (fun hy => ?_)) <;> (try simp only [Bool.not_eq_true', Bool.not_eq_false', Bool.and_eq_true, Bool.or_eq_false_iff, decide_eq_true_eq, decide_eq_false_iff_not] at hy) <;> simp (disch := first | rfl | omega | exact lt_new _ | assumption | decide | (simp [tk_here, tk_app, tk_0, tk_S, gr_here, gr_app, gr_0, gr_S] <;> omega) | fail) only [r20_0, r20_1, r20_2, r20_3, r20_4, r20_5, r20_6, r20_7, r20_8, r20_9, r20_10, r20_11, r20_12, r20_13, r20_15, r20_16, r20_17, r20_18, r20_19, r20_20, r20_21, r20_22, r20_23, r20_24, r20_26, r20_27, r20_28, r20_30, c20, rs20, gc20, ha2, hb2, hc2, go_sem, ↓reduceIte, Nat.reduceLT, Nat.reduceEqDiff, Nat.reduceAdd, Nat.reduceMul, Nat.reduceSub, Int.reduceAdd, Int.reduceSub, Nat.reduceLeDiff, Int.reduceLT, Int.reduceLE, Int.reduceEq, Int.reduceNeg, Int.reduceToNat, hy])
    all_goals (try ((first | refine finQ_same ?_ | refine finQ_app ?_ | (rw [List.append_assoc]; refine finQ_app ?_)) <;> simp (disch := first | rfl | omega | exact lt_new _ | assumption | decide | (simp [tk_here, tk_app, tk_0, tk_S, gr_here, gr_app, gr_0, gr_S] <;> omega) | fail) only [go_sem, ↓reduceIte, Nat.reduceLT, Nat.reduceEqDiff, Nat.reduceAdd, Nat.reduceMul, Nat.reduceSub, Int.reduceAdd, Int.reduceSub, Nat.reduceLeDiff, Int.reduceLT, Int.reduceLE, Int.reduceEq, Int.reduceNeg, Int.reduceToNat, List.append_assoc, List.cons_append, List.nil_append, *]))
    all_goals (try first | rfl | (simp [*]; done) | grind)
  rw [if_neg hc]
  have hc2 : ¬ (s.length : Int) = 0 := by omega
  by_cases hd : w < 1
  case pos =>
    rw [if_pos (.inl hd)]
    simp (disch := first | rfl | omega | exact lt_new _ | assumption | decide | (simp [tk_here, tk_app, tk_0, tk_S, gr_here, gr_app, gr_0, gr_S] <;> omega) | fail) only [r20_0, r20_1, r20_2, r20_3, r20_4, r20_5, r20_6, r20_7, r20_8, r20_9, r20_10, r20_11, r20_12, r20_13, r20_15, r20_16, r20_17, r20_18, r20_19, r20_20, r20_21, r20_22, r20_23, r20_24, r20_26, r20_27, r20_28, r20_30, c20, rs20, gc20, ha2, hb2, hc2, hd, go_sem, ↓reduceIte, Nat.reduceLT, Nat.reduceEqDiff, Nat.reduceAdd, Nat.reduceMul, Nat.reduceSub, Int.reduceAdd, Int.reduceSub, Nat.reduceLeDiff, Int.reduceLT, Int.reduceLE, Int.reduceEq, Int.reduceNeg, Int.reduceToNat]
    repeat' ((first | refine guardB_dec (fun hy => ?_) (fun hy => ?_) | refine guardB_bool (fun hy => ?_) (fun hy => ?_) | refine guardQ_ite (fun hy => ?_) (fun hy => ?_) | refine brQ_dec (fun hy => ?_) (fun hy => ?_) | refine brQ_bool (fun hy => ?_) (fun hy => ?_)) <;> (try simp only [Bool.not_eq_true', Bool.not_eq_false', Bool.and_eq_true, Bool.or_eq_false_iff, decide_eq_true_eq, decide_eq_false_iff_not] at hy) <;> simp (disch := first | rfl | omega | exact lt_new _ | assumption | decide | (simp [tk_here, tk_app, tk_0, tk_S, gr_here, gr_app, gr_0, gr_S] <;> omega) | fail) only [r20_0, r20_1, r20_2, r20_3, r20_4, r20_5, r20_6, r20_7, r20_8, r20_9, r20_10, r20_11, r20_12, r20_13, r20_15, r20_16, r20_17, r20_18, r20_19, r20_20, r20_21, r20_22, r20_23, r20_24, r20_26, r20_27, r20_28, r20_30, c20, rs20, gc20, ha2, hb2, hc2, hd, go_sem, ↓reduceIte, Nat.reduceLT, Nat.reduceEqDiff, Nat.reduceAdd, Nat.reduceMul, Nat.reduceSub, Int.reduceAdd, Int.reduceSub, Nat.reduceLeDiff, Int.reduceLT, Int.reduceLE, Int.reduceEq, Int.reduceNeg, Int.reduceToNat, hy])
    all_goals (try ((first | refine finQ_same ?_ | refine finQ_app ?_ | (rw [List.append_assoc]; refine finQ_app ?_)) <;> simp (disch := first | rfl | omega | exact lt_new _ | assumption | decide | (simp [tk_here, tk_app, tk_0, tk_S, gr_here, gr_app, gr_0, gr_S] <;> omega) | fail) only [go_sem, ↓reduceIte, Nat.reduceLT, Nat.reduceEqDiff, Nat.reduceAdd, Nat.reduceMul, Nat.reduceSub, Int.reduceAdd, Int.reduceSub, Nat.reduceLeDiff, Int.reduceLT, Int.reduceLE, Int.reduceEq, Int.reduceNeg, Int.reduceToNat, List.append_assoc, List.cons_append, List.nil_append, *]))
    all_goals (try first | rfl | (simp [*]; done) | grind)
  have hts : s.length = t.length := by omega
  simp (disch := first | rfl | omega | exact lt_new _ | assumption | decide | (simp [tk_here, tk_app, tk_0, tk_S, gr_here, gr_app, gr_0, gr_S] <;> omega) | fail) only [r20_0, r20_1, r20_2, r20_3, r20_4, r20_5, r20_6, r20_7, r20_8, r20_9, r20_10, r20_11, r20_12, r20_13, r20_15, r20_16, r20_17, r20_18, r20_19, r20_20, r20_21, r20_22, r20_23, r20_24, r20_26, r20_27, r20_28, r20_30, c20, rs20, gc20, ha2, hb2, hc2, hd, go_sem, ↓reduceIte, Nat.reduceLT, Nat.reduceEqDiff, Nat.reduceAdd, Nat.reduceMul, Nat.reduceSub, Int.reduceAdd, Int.reduceSub, Nat.reduceLeDiff, Int.reduceLT, Int.reduceLE, Int.reduceEq, Int.reduceNeg, Int.reduceToNat]
  repeat' ((first | refine guardB_dec (fun hy => ?_) (fun hy => ?_) | refine guardB_bool (fun hy => ?_) (fun hy => ?_) | refine guardQ_ite (fun hy => ?_) (fun hy => ?_) | refine brQ_dec (fun hy => ?_) (fun hy => ?_) | refine brQ_bool (fun hy => ?_) (fun hy => ?_)) <;> (try simp only [Bool.not_eq_true', Bool.not_eq_false', Bool.and_eq_true, Bool.or_eq_false_iff, decide_eq_true_eq, decide_eq_false_iff_not] at hy) <;> simp (disch := first | rfl | omega | exact lt_new _ | assumption | decide | (simp [tk_here, tk_app, tk_0, tk_S, gr_here, gr_app, gr_0, gr_S] <;> omega) | fail) only [r20_0, r20_1, r20_2, r20_3, r20_4, r20_5, r20_6, r20_7, r20_8, r20_9, r20_10, r20_11, r20_12, r20_13, r20_15, r20_16, r20_17, r20_18, r20_19, r20_20, r20_21, r20_22, r20_23, r20_24, r20_26, r20_27, r20_28, r20_30, c20, rs20, gc20, ha2, hb2, hc2, hd, go_sem, ↓reduceIte, Nat.reduceLT, Nat.reduceEqDiff, Nat.reduceAdd, Nat.reduceMul, Nat.reduceSub, Int.reduceAdd, Int.reduceSub, Nat.reduceLeDiff, Int.reduceLT, Int.reduceLE, Int.reduceEq, Int.reduceNeg, Int.reduceToNat, hy])
  refine Wp_loop (fun m T D H' => ∃ i, m = t.length - i ∧ i ≤ t.length ∧ D = [] ∧ H' = H ∧ get T 0 = slV bt inE t ∧ get T 1 = slV bs inE s ∧ get T 2 = .int .i64 w ∧ get T 9 = .int .i64 i ∧ (∀ j < i, okT (inE.at t j) = true ∧ badS (inE.at s j) = false)) ?_ t.length _ _ _ ?_
  case refine_2 => exact ⟨0, by simp (disch := first | rfl | omega | exact lt_new _ | assumption | decide | (simp [tk_here, tk_app, tk_0, tk_S, gr_here, gr_app, gr_0, gr_S] <;> omega) | fail) only [go_sem, ↓reduceIte, Nat.reduceLT, Nat.reduceEqDiff, Nat.reduceAdd, Nat.reduceMul, Nat.reduceSub, Int.reduceAdd, Int.reduceSub, Nat.reduceLeDiff, Int.reduceLT, Int.reduceLE, Int.reduceEq, Int.reduceNeg, Int.reduceToNat]; simp⟩
  rintro m T D H' ⟨i, rfl, hi, rfl, rfl, t0, t1, t2, t9, hall⟩
  by_cases hlt : i < t.length
  · have hlt' : (i : Int) < s.length := by omega
    by_cases hq : okT (inE.at t i) = true
    · by_cases hr : badS (inE.at s i) = true
      · rw [if_pos (.inr (.inr (iany_at (by omega) hr)))]
        by_cases hr0 : inE.at s i < 0
        · skip
          simp (disch := first | rfl | omega | exact lt_new _ | assumption | decide | (simp [tk_here, tk_app, tk_0, tk_S, gr_here, gr_app, gr_0, gr_S] <;> omega) | fail) only [l20_14, r20_10, r20_11, r20_12, rs20, gc20, t0, t1, t2, t9, ha2, hlt', h58, hq, hr0, go_sem, ↓reduceIte, Nat.reduceLT, Nat.reduceEqDiff, Nat.reduceAdd, Nat.reduceMul, Nat.reduceSub, Int.reduceAdd, Int.reduceSub, Nat.reduceLeDiff, Int.reduceLT, Int.reduceLE, Int.reduceEq, Int.reduceNeg, Int.reduceToNat]
          repeat' ((first | refine guardB_dec (fun hy => ?_) (fun hy => ?_) | refine guardB_bool (fun hy => ?_) (fun hy => ?_) | refine guardQ_ite (fun hy => ?_) (fun hy => ?_) | refine brQ_dec (fun hy => ?_) (fun hy => ?_) | refine brQ_bool (fun hy => ?_) (fun hy => ?_)) <;> (try simp only [Bool.not_eq_true', Bool.not_eq_false', Bool.and_eq_true, Bool.or_eq_false_iff, decide_eq_true_eq, decide_eq_false_iff_not] at hy) <;> simp (disch := first | rfl | omega | exact lt_new _ | assumption | decide | (simp [tk_here, tk_app, tk_0, tk_S, gr_here, gr_app, gr_0, gr_S] <;> omega) | fail) only [l20_14, r20_10, r20_11, r20_12, rs20, gc20, t0, t1, t2, t9, ha2, hlt', h58, hq, hr0, go_sem, ↓reduceIte, Nat.reduceLT, Nat.reduceEqDiff, Nat.reduceAdd, Nat.reduceMul, Nat.reduceSub, Int.reduceAdd, Int.reduceSub, Nat.reduceLeDiff, Int.reduceLT, Int.reduceLE, Int.reduceEq, Int.reduceNeg, Int.reduceToNat, hy])
          all_goals (try ((first | refine finQ_same ?_ | refine finQ_app ?_ | (rw [List.append_assoc]; refine finQ_app ?_)) <;> simp (disch := first | rfl | omega | exact lt_new _ | assumption | decide | (simp [tk_here, tk_app, tk_0, tk_S, gr_here, gr_app, gr_0, gr_S] <;> omega) | fail) only [go_sem, ↓reduceIte, Nat.reduceLT, Nat.reduceEqDiff, Nat.reduceAdd, Nat.reduceMul, Nat.reduceSub, Int.reduceAdd, Int.reduceSub, Nat.reduceLeDiff, Int.reduceLT, Int.reduceLE, Int.reduceEq, Int.reduceNeg, Int.reduceToNat, List.append_assoc, List.cons_append, List.nil_append, *]))
          all_goals (try first | rfl | (simp [*]; done) | grind)
        · have hr1 : (1000000 : Int) < inE.at s i := by simp [badS] at hr; omega
          simp (disch := first | rfl | omega | exact lt_new _ | assumption | decide | (simp [tk_here, tk_app, tk_0, tk_S, gr_here, gr_app, gr_0, gr_S] <;> omega) | fail) only [l20_14, r20_10, r20_11, r20_12, rs20, gc20, t0, t1, t2, t9, ha2, hlt', h58, hq, hr0, hr1, go_sem, ↓reduceIte, Nat.reduceLT, Nat.reduceEqDiff, Nat.reduceAdd, Nat.reduceMul, Nat.reduceSub, Int.reduceAdd, Int.reduceSub, Nat.reduceLeDiff, Int.reduceLT, Int.reduceLE, Int.reduceEq, Int.reduceNeg, Int.reduceToNat]
          repeat' ((first | refine guardB_dec (fun hy => ?_) (fun hy => ?_) | refine guardB_bool (fun hy => ?_) (fun hy => ?_) | refine guardQ_ite (fun hy => ?_) (fun hy => ?_) | refine brQ_dec (fun hy => ?_) (fun hy => ?_) | refine brQ_bool (fun hy => ?_) (fun hy => ?_)) <;> (try simp only [Bool.not_eq_true', Bool.not_eq_false', Bool.and_eq_true, Bool.or_eq_false_iff, decide_eq_true_eq, decide_eq_false_iff_not] at hy) <;> simp (disch := first | rfl | omega | exact lt_new _ | assumption | decide | (simp [tk_here, tk_app, tk_0, tk_S, gr_here, gr_app, gr_0, gr_S] <;> omega) | fail) only [l20_14, r20_10, r20_11, r20_12, rs20, gc20, t0, t1, t2, t9, ha2, hlt', h58, hq, hr0, hr1, go_sem, ↓reduceIte, Nat.reduceLT, Nat.reduceEqDiff, Nat.reduceAdd, Nat.reduceMul, Nat.reduceSub, Int.reduceAdd, Int.reduceSub, Nat.reduceLeDiff, Int.reduceLT, Int.reduceLE, Int.reduceEq, Int.reduceNeg, Int.reduceToNat, hy])
          all_goals (try ((first | refine finQ_same ?_ | refine finQ_app ?_ | (rw [List.append_assoc]; refine finQ_app ?_)) <;> simp (disch := first | rfl | omega | exact lt_new _ | assumption | decide | (simp [tk_here, tk_app, tk_0, tk_S, gr_here, gr_app, gr_0, gr_S] <;> omega) | fail) only [go_sem, ↓reduceIte, Nat.reduceLT, Nat.reduceEqDiff, Nat.reduceAdd, Nat.reduceMul, Nat.reduceSub, Int.reduceAdd, Int.reduceSub, Nat.reduceLeDiff, Int.reduceLT, Int.reduceLE, Int.reduceEq, Int.reduceNeg, Int.reduceToNat, List.append_assoc, List.cons_append, List.nil_append, *]))
          all_goals (try first | rfl | (simp [*]; done) | grind)
      · rw [Bool.not_eq_true] at hr
        have hr0 : ¬ inE.at s i < 0 := by simp [badS] at hr; omega
        have hr1 : ¬ (1000000 : Int) < inE.at s i := by simp [badS] at hr; omega
        simp (disch := first | rfl | omega | exact lt_new _ | assumption | decide | (simp [tk_here, tk_app, tk_0, tk_S, gr_here, gr_app, gr_0, gr_S] <;> omega) | fail) only [l20_14, r20_10, r20_11, r20_13, t0, t1, t2, t9, ha2, hlt', h58, hq, hr0, hr1, go_sem, ↓reduceIte, Nat.reduceLT, Nat.reduceEqDiff, Nat.reduceAdd, Nat.reduceMul, Nat.reduceSub, Int.reduceAdd, Int.reduceSub, Nat.reduceLeDiff, Int.reduceLT, Int.reduceLE, Int.reduceEq, Int.reduceNeg, Int.reduceToNat]
        repeat' ((first | refine guardB_dec (fun hy => ?_) (fun hy => ?_) | refine guardB_bool (fun hy => ?_) (fun hy => ?_) | refine guardQ_ite (fun hy => ?_) (fun hy => ?_) | refine brQ_dec (fun hy => ?_) (fun hy => ?_) | refine brQ_bool (fun hy => ?_) (fun hy => ?_)) <;> (try simp only [Bool.not_eq_true', Bool.not_eq_false', Bool.and_eq_true, Bool.or_eq_false_iff, decide_eq_true_eq, decide_eq_false_iff_not] at hy) <;> simp (disch := first | rfl | omega | exact lt_new _ | assumption | decide | (simp [tk_here, tk_app, tk_0, tk_S, gr_here, gr_app, gr_0, gr_S] <;> omega) | fail) only [l20_14, r20_10, r20_11, r20_13, t0, t1, t2, t9, ha2, hlt', h58, hq, hr0, hr1, go_sem, ↓reduceIte, Nat.reduceLT, Nat.reduceEqDiff, Nat.reduceAdd, Nat.reduceMul, Nat.reduceSub, Int.reduceAdd, Int.reduceSub, Nat.reduceLeDiff, Int.reduceLT, Int.reduceLE, Int.reduceEq, Int.reduceNeg, Int.reduceToNat, hy])
        refine ⟨_, by omega, i + 1, rfl, hlt, rfl, fun j hj => ?_⟩
        by_cases e : j = i
        · subst e; exact ⟨hq, hr⟩
        · exact hall j (by omega)
    · rw [Bool.not_eq_true] at hq
      rw [if_pos (.inr (.inl (iany_at hlt (by simp [hq]))))]
      simp (disch := first | rfl | omega | exact lt_new _ | assumption | decide | (simp [tk_here, tk_app, tk_0, tk_S, gr_here, gr_app, gr_0, gr_S] <;> omega) | fail) only [l20_14, r20_10, r20_11, r20_12, rs20, gc20, t0, t1, t2, t9, ha2, hlt', h58, hq, go_sem, ↓reduceIte, Nat.reduceLT, Nat.reduceEqDiff, Nat.reduceAdd, Nat.reduceMul, Nat.reduceSub, Int.reduceAdd, Int.reduceSub, Nat.reduceLeDiff, Int.reduceLT, Int.reduceLE, Int.reduceEq, Int.reduceNeg, Int.reduceToNat]
      repeat' ((first | refine guardB_dec (fun hy => ?_) (fun hy => ?_) | refine guardB_bool (fun hy => ?_) (fun hy => ?_) | refine guardQ_ite (fun hy => ?_) (fun hy => ?_) | refine brQ_dec (fun hy => ?_) (fun hy => ?_) | refine brQ_bool (fun hy => ?_) (fun hy => ?_)) <;> (try simp only [Bool.not_eq_true', Bool.not_eq_false', Bool.and_eq_true, Bool.or_eq_false_iff, decide_eq_true_eq, decide_eq_false_iff_not] at hy) <;> simp (disch := first | rfl | omega | exact lt_new _ | assumption | decide | (simp [tk_here, tk_app, tk_0, tk_S, gr_here, gr_app, gr_0, gr_S] <;> omega) | fail) only [l20_14, r20_10, r20_11, r20_12, rs20, gc20, t0, t1, t2, t9, ha2, hlt', h58, hq, go_sem, ↓reduceIte, Nat.reduceLT, Nat.reduceEqDiff, Nat.reduceAdd, Nat.reduceMul, Nat.reduceSub, Int.reduceAdd, Int.reduceSub, Nat.reduceLeDiff, Int.reduceLT, Int.reduceLE, Int.reduceEq, Int.reduceNeg, Int.reduceToNat, hy])
      all_goals (try ((first | refine finQ_same ?_ | refine finQ_app ?_ | (rw [List.append_assoc]; refine finQ_app ?_)) <;> simp (disch := first | rfl | omega | exact lt_new _ | assumption | decide | (simp [tk_here, tk_app, tk_0, tk_S, gr_here, gr_app, gr_0, gr_S] <;> omega) | fail) only [go_sem, ↓reduceIte, Nat.reduceLT, Nat.reduceEqDiff, Nat.reduceAdd, Nat.reduceMul, Nat.reduceSub, Int.reduceAdd, Int.reduceSub, Nat.reduceLeDiff, Int.reduceLT, Int.reduceLE, Int.reduceEq, Int.reduceNeg, Int.reduceToNat, List.append_assoc, List.cons_append, List.nil_append, *]))
      all_goals (try first | rfl | (simp [*]; done) | grind)
  obtain rfl : i = t.length := by omega
  have c5 : (t.any fun n => !okT n) = false := iany_no fun j hj => by simp [(hall j hj).1]
  have c6 : s.any badS = false := iany_no fun j hj => (hall j (by omega)).2
  clear hall
  rw [if_neg (by simp [c5, c6, hd])]
  have hsb : ∀ j < s.length, 0 ≤ inE.at s j ∧ inE.at s j ≤ 1000000 := fun j hj => badS_at c6 hj
  have htb : ∀ j < t.length, 0 ≤ inE.at t j ∧ inE.at t j ≤ 1000000000000000 := fun j hj => okT_at (by simp [c5]) hj
  have hwb := fun x => wsum_b (t := t) (w := w) (x := x) hsb
  obtain ⟨f, hf⟩ : ∃ f : Int → Int, (fun x => wsum t s w x t.length) = f := ⟨_, rfl⟩
  have hfx : ∀ x, wsum t s w x t.length = f x := fun x => congrFun hf x
  rw [hf]
  simp (disch := first | rfl | omega | exact lt_new _ | assumption | decide | (simp [tk_here, tk_app, tk_0, tk_S, gr_here, gr_app, gr_0, gr_S] <;> omega) | fail) only [l20_14, r20_10, r20_15, r20_16, t0, t1, t2, t9, ha2, Int.lt_irrefl, go_sem, ↓reduceIte, Nat.reduceLT, Nat.reduceEqDiff, Nat.reduceAdd, Nat.reduceMul, Nat.reduceSub, Int.reduceAdd, Int.reduceSub, Nat.reduceLeDiff, Int.reduceLT, Int.reduceLE, Int.reduceEq, Int.reduceNeg, Int.reduceToNat]
  repeat' ((first | refine guardB_dec (fun hy => ?_) (fun hy => ?_) | refine guardB_bool (fun hy => ?_) (fun hy => ?_) | refine guardQ_ite (fun hy => ?_) (fun hy => ?_) | refine brQ_dec (fun hy => ?_) (fun hy => ?_) | refine brQ_bool (fun hy => ?_) (fun hy => ?_)) <;> (try simp only [Bool.not_eq_true', Bool.not_eq_false', Bool.and_eq_true, Bool.or_eq_false_iff, decide_eq_true_eq, decide_eq_false_iff_not] at hy) <;> simp (disch := first | rfl | omega | exact lt_new _ | assumption | decide | (simp [tk_here, tk_app, tk_0, tk_S, gr_here, gr_app, gr_0, gr_S] <;> omega) | fail) only [l20_14, r20_10, r20_15, r20_16, t0, t1, t2, t9, ha2, Int.lt_irrefl, go_sem, ↓reduceIte, Nat.reduceLT, Nat.reduceEqDiff, Nat.reduceAdd, Nat.reduceMul, Nat.reduceSub, Int.reduceAdd, Int.reduceSub, Nat.reduceLeDiff, Int.reduceLT, Int.reduceLE, Int.reduceEq, Int.reduceNeg, Int.reduceToNat, hy])
  refine Wp_loop (fun m T D H1 => ∃ k, m = t.length - k ∧ k ≤ t.length ∧ D = [] ∧ H1 = H' ∧ get T 0 = slV bt inE t ∧ get T 1 = slV bs inE s ∧ get T 2 = .int .i64 w ∧ get T 12 = .int .i64 k ∧ get T 10 = .int .i64 (bstR f t k).1 ∧ get T 11 = .int .i64 (bstR f t k).2) ?_ t.length _ _ _ ?_
  case refine_2 => exact ⟨0, by simp (disch := first | rfl | omega | exact lt_new _ | assumption | decide | (simp [tk_here, tk_app, tk_0, tk_S, gr_here, gr_app, gr_0, gr_S] <;> omega) | fail) only [go_sem, ↓reduceIte, Nat.reduceLT, Nat.reduceEqDiff, Nat.reduceAdd, Nat.reduceMul, Nat.reduceSub, Int.reduceAdd, Int.reduceSub, Nat.reduceLeDiff, Int.reduceLT, Int.reduceLE, Int.reduceEq, Int.reduceNeg, Int.reduceToNat, t0, t1, t2, bstR]; simp⟩
  clear t0 t1 t2 t9
  rintro m T D H' ⟨k, rfl, hk, rfl, rfl, t0, t1, t2, t12, t10, t11⟩
  by_cases hlt : k < t.length
  · have hlt' : (k : Int) < s.length := by omega
    obtain ⟨tk1, tk2⟩ := htb k hlt
    simp (disch := first | rfl | omega | exact lt_new _ | assumption | decide | (simp [tk_here, tk_app, tk_0, tk_S, gr_here, gr_app, gr_0, gr_S] <;> omega) | fail) only [l20_29, r20_17, r20_18, r20_19, t0, t1, t2, t12, t10, t11, ha2, hlt', go_sem, ↓reduceIte, Nat.reduceLT, Nat.reduceEqDiff, Nat.reduceAdd, Nat.reduceMul, Nat.reduceSub, Int.reduceAdd, Int.reduceSub, Nat.reduceLeDiff, Int.reduceLT, Int.reduceLE, Int.reduceEq, Int.reduceNeg, Int.reduceToNat]
    repeat' ((first | refine guardB_dec (fun hy => ?_) (fun hy => ?_) | refine guardB_bool (fun hy => ?_) (fun hy => ?_) | refine guardQ_ite (fun hy => ?_) (fun hy => ?_) | refine brQ_dec (fun hy => ?_) (fun hy => ?_) | refine brQ_bool (fun hy => ?_) (fun hy => ?_)) <;> (try simp only [Bool.not_eq_true', Bool.not_eq_false', Bool.and_eq_true, Bool.or_eq_false_iff, decide_eq_true_eq, decide_eq_false_iff_not] at hy) <;> simp (disch := first | rfl | omega | exact lt_new _ | assumption | decide | (simp [tk_here, tk_app, tk_0, tk_S, gr_here, gr_app, gr_0, gr_S] <;> omega) | fail) only [l20_29, r20_17, r20_18, r20_19, t0, t1, t2, t12, t10, t11, ha2, hlt', go_sem, ↓reduceIte, Nat.reduceLT, Nat.reduceEqDiff, Nat.reduceAdd, Nat.reduceMul, Nat.reduceSub, Int.reduceAdd, Int.reduceSub, Nat.reduceLeDiff, Int.reduceLT, Int.reduceLE, Int.reduceEq, Int.reduceNeg, Int.reduceToNat, hy])
    refine Wp_loop (fun m T D H2 => ∃ j, m = t.length - j ∧ j ≤ t.length ∧ D = [] ∧ H2 = H' ∧ get T 0 = slV bt inE t ∧ get T 1 = slV bs inE s ∧ get T 2 = .int .i64 w ∧ get T 12 = .int .i64 k ∧ get T 10 = .int .i64 (bstR f t k).1 ∧ get T 11 = .int .i64 (bstR f t k).2 ∧ get T 14 = .int .i64 j ∧ get T 13 = .int .i64 (wsum t s w (inE.at t k) j)) ?_ t.length _ _ _ ?_
    case refine_2 => exact ⟨0, by simp (disch := first | rfl | omega | exact lt_new _ | assumption | decide | (simp [tk_here, tk_app, tk_0, tk_S, gr_here, gr_app, gr_0, gr_S] <;> omega) | fail) only [go_sem, ↓reduceIte, Nat.reduceLT, Nat.reduceEqDiff, Nat.reduceAdd, Nat.reduceMul, Nat.reduceSub, Int.reduceAdd, Int.reduceSub, Nat.reduceLeDiff, Int.reduceLT, Int.reduceLE, Int.reduceEq, Int.reduceNeg, Int.reduceToNat, t0, t1, t2, t12, t10, t11, wsum]; simp⟩
    clear t0 t1 t2 t12 t10 t11
    rintro m T D H' ⟨j, rfl, hj, rfl, rfl, t0, t1, t2, t12, t10, t11, t14, t13⟩
    by_cases hjt : j < t.length
    · have hjt' : (j : Int) < s.length := by omega
      obtain ⟨tj1, tj2⟩ := htb j hjt
      obtain ⟨sj1, sj2⟩ := hsb j (by omega)
      have hwj := hwb (inE.at t k) j (by omega)
      have hw1 : wsum t s w (inE.at t k) (j + 1) = if inE.at t j ≥ inE.at t k ∧ inE.at t j - inE.at t k < w then wsum t s w (inE.at t k) j + inE.at s j else wsum t s w (inE.at t k) j := rfl
      by_cases q1 : 0 ≤ inE.at t j - inE.at t k
      · by_cases q2 : inE.at t j - inE.at t k < w
        · rw [if_pos ⟨by omega, q2⟩] at hw1
          simp (disch := first | rfl | omega | exact lt_new _ | assumption | decide | (simp [tk_here, tk_app, tk_0, tk_S, gr_here, gr_app, gr_0, gr_S] <;> omega) | fail) only [l20_25, r20_20, r20_21, r20_22, r20_23, r20_24, t0, t1, t2, t12, t10, t11, t14, t13, ha2, hlt', hjt', q1, q2, go_sem, ↓reduceIte, Nat.reduceLT, Nat.reduceEqDiff, Nat.reduceAdd, Nat.reduceMul, Nat.reduceSub, Int.reduceAdd, Int.reduceSub, Nat.reduceLeDiff, Int.reduceLT, Int.reduceLE, Int.reduceEq, Int.reduceNeg, Int.reduceToNat]
          repeat' ((first | refine guardB_dec (fun hy => ?_) (fun hy => ?_) | refine guardB_bool (fun hy => ?_) (fun hy => ?_) | refine guardQ_ite (fun hy => ?_) (fun hy => ?_) | refine brQ_dec (fun hy => ?_) (fun hy => ?_) | refine brQ_bool (fun hy => ?_) (fun hy => ?_)) <;> (try simp only [Bool.not_eq_true', Bool.not_eq_false', Bool.and_eq_true, Bool.or_eq_false_iff, decide_eq_true_eq, decide_eq_false_iff_not] at hy) <;> simp (disch := first | rfl | omega | exact lt_new _ | assumption | decide | (simp [tk_here, tk_app, tk_0, tk_S, gr_here, gr_app, gr_0, gr_S] <;> omega) | fail) only [l20_25, r20_20, r20_21, r20_22, r20_23, r20_24, t0, t1, t2, t12, t10, t11, t14, t13, ha2, hlt', hjt', q1, q2, go_sem, ↓reduceIte, Nat.reduceLT, Nat.reduceEqDiff, Nat.reduceAdd, Nat.reduceMul, Nat.reduceSub, Int.reduceAdd, Int.reduceSub, Nat.reduceLeDiff, Int.reduceLT, Int.reduceLE, Int.reduceEq, Int.reduceNeg, Int.reduceToNat, hy])
          exact ⟨_, by omega, j + 1, rfl, hjt, rfl, by rw [hw1]⟩
        · rw [if_neg (fun z => q2 z.2)] at hw1
          simp (disch := first | rfl | omega | exact lt_new _ | assumption | decide | (simp [tk_here, tk_app, tk_0, tk_S, gr_here, gr_app, gr_0, gr_S] <;> omega) | fail) only [l20_25, r20_20, r20_21, r20_22, r20_24, t0, t1, t2, t12, t10, t11, t14, t13, ha2, hlt', hjt', q1, q2, go_sem, ↓reduceIte, Nat.reduceLT, Nat.reduceEqDiff, Nat.reduceAdd, Nat.reduceMul, Nat.reduceSub, Int.reduceAdd, Int.reduceSub, Nat.reduceLeDiff, Int.reduceLT, Int.reduceLE, Int.reduceEq, Int.reduceNeg, Int.reduceToNat]
          repeat' ((first | refine guardB_dec (fun hy => ?_) (fun hy => ?_) | refine guardB_bool (fun hy => ?_) (fun hy => ?_) | refine guardQ_ite (fun hy => ?_) (fun hy => ?_) | refine brQ_dec (fun hy => ?_) (fun hy => ?_) | refine brQ_bool (fun hy => ?_) (fun hy => ?_)) <;> (try simp only [Bool.not_eq_true', Bool.not_eq_false', Bool.and_eq_true, Bool.or_eq_false_iff, decide_eq_true_eq, decide_eq_false_iff_not] at hy) <;> simp (disch := first | rfl | omega | exact lt_new _ | assumption | decide | (simp [tk_here, tk_app, tk_0, tk_S, gr_here, gr_app, gr_0, gr_S] <;> omega) | fail) only [l20_25, r20_20, r20_21, r20_22, r20_24, t0, t1, t2, t12, t10, t11, t14, t13, ha2, hlt', hjt', q1, q2, go_sem, ↓reduceIte, Nat.reduceLT, Nat.reduceEqDiff, Nat.reduceAdd, Nat.reduceMul, Nat.reduceSub, Int.reduceAdd, Int.reduceSub, Nat.reduceLeDiff, Int.reduceLT, Int.reduceLE, Int.reduceEq, Int.reduceNeg, Int.reduceToNat, hy])
          exact ⟨_, by omega, j + 1, rfl, hjt, rfl, by rw [hw1]⟩
      · rw [if_neg (fun z => q1 (by omega))] at hw1
        simp (disch := first | rfl | omega | exact lt_new _ | assumption | decide | (simp [tk_here, tk_app, tk_0, tk_S, gr_here, gr_app, gr_0, gr_S] <;> omega) | fail) only [l20_25, r20_20, r20_21, r20_22, r20_24, t0, t1, t2, t12, t10, t11, t14, t13, ha2, hlt', hjt', q1, go_sem, ↓reduceIte, Nat.reduceLT, Nat.reduceEqDiff, Nat.reduceAdd, Nat.reduceMul, Nat.reduceSub, Int.reduceAdd, Int.reduceSub, Nat.reduceLeDiff, Int.reduceLT, Int.reduceLE, Int.reduceEq, Int.reduceNeg, Int.reduceToNat]
        repeat' ((first | refine guardB_dec (fun hy => ?_) (fun hy => ?_) | refine guardB_bool (fun hy => ?_) (fun hy => ?_) | refine guardQ_ite (fun hy => ?_) (fun hy => ?_) | refine brQ_dec (fun hy => ?_) (fun hy => ?_) | refine brQ_bool (fun hy => ?_) (fun hy => ?_)) <;> (try simp only [Bool.not_eq_true', Bool.not_eq_false', Bool.and_eq_true, Bool.or_eq_false_iff, decide_eq_true_eq, decide_eq_false_iff_not] at hy) <;> simp (disch := first | rfl | omega | exact lt_new _ | assumption | decide | (simp [tk_here, tk_app, tk_0, tk_S, gr_here, gr_app, gr_0, gr_S] <;> omega) | fail) only [l20_25, r20_20, r20_21, r20_22, r20_24, t0, t1, t2, t12, t10, t11, t14, t13, ha2, hlt', hjt', q1, go_sem, ↓reduceIte, Nat.reduceLT, Nat.reduceEqDiff, Nat.reduceAdd, Nat.reduceMul, Nat.reduceSub, Int.reduceAdd, Int.reduceSub, Nat.reduceLeDiff, Int.reduceLT, Int.reduceLE, Int.reduceEq, Int.reduceNeg, Int.reduceToNat, hy])
        exact ⟨_, by omega, j + 1, rfl, hjt, rfl, by rw [hw1]⟩
    · obtain rfl : j = t.length := by omega
      rw [hfx] at t13
      have hb1 : bstR f t (k + 1) = if f (inE.at t k) > (bstR f t k).1 ∨ f (inE.at t k) = (bstR f t k).1 ∧ inE.at t k < (bstR f t k).2 then (f (inE.at t k), inE.at t k) else bstR f t k := rfl
      by_cases q1 : (bstR f t k).1 < f (inE.at t k)
      · rw [if_pos (.inl q1)] at hb1
        simp (disch := first | rfl | omega | exact lt_new _ | assumption | decide | (simp [tk_here, tk_app, tk_0, tk_S, gr_here, gr_app, gr_0, gr_S] <;> omega) | fail) only [l20_25, r20_20, r20_26, r20_27, r20_28, t0, t1, t2, t12, t10, t11, t14, t13, ha2, hlt', Int.lt_irrefl, q1, go_sem, ↓reduceIte, Nat.reduceLT, Nat.reduceEqDiff, Nat.reduceAdd, Nat.reduceMul, Nat.reduceSub, Int.reduceAdd, Int.reduceSub, Nat.reduceLeDiff, Int.reduceLT, Int.reduceLE, Int.reduceEq, Int.reduceNeg, Int.reduceToNat]
        repeat' ((first | refine guardB_dec (fun hy => ?_) (fun hy => ?_) | refine guardB_bool (fun hy => ?_) (fun hy => ?_) | refine guardQ_ite (fun hy => ?_) (fun hy => ?_) | refine brQ_dec (fun hy => ?_) (fun hy => ?_) | refine brQ_bool (fun hy => ?_) (fun hy => ?_)) <;> (try simp only [Bool.not_eq_true', Bool.not_eq_false', Bool.and_eq_true, Bool.or_eq_false_iff, decide_eq_true_eq, decide_eq_false_iff_not] at hy) <;> simp (disch := first | rfl | omega | exact lt_new _ | assumption | decide | (simp [tk_here, tk_app, tk_0, tk_S, gr_here, gr_app, gr_0, gr_S] <;> omega) | fail) only [l20_25, r20_20, r20_26, r20_27, r20_28, t0, t1, t2, t12, t10, t11, t14, t13, ha2, hlt', Int.lt_irrefl, q1, go_sem, ↓reduceIte, Nat.reduceLT, Nat.reduceEqDiff, Nat.reduceAdd, Nat.reduceMul, Nat.reduceSub, Int.reduceAdd, Int.reduceSub, Nat.reduceLeDiff, Int.reduceLT, Int.reduceLE, Int.reduceEq, Int.reduceNeg, Int.reduceToNat, hy])
        exact ⟨_, by omega, k + 1, rfl, hlt, rfl, by rw [hb1], by rw [hb1]⟩
      · by_cases q2 : f (inE.at t k) = (bstR f t k).1
        · by_cases q3 : inE.at t k < (bstR f t k).2
          · rw [if_pos (.inr ⟨q2, q3⟩)] at hb1
            simp (disch := first | rfl | omega | exact lt_new _ | assumption | decide | (simp [tk_here, tk_app, tk_0, tk_S, gr_here, gr_app, gr_0, gr_S] <;> omega) | fail) only [l20_25, r20_20, r20_26, r20_27, r20_28, t0, t1, t2, t12, t10, t11, t14, t13, ha2, hlt', Int.lt_irrefl, q1, q2, q3, go_sem, ↓reduceIte, Nat.reduceLT, Nat.reduceEqDiff, Nat.reduceAdd, Nat.reduceMul, Nat.reduceSub, Int.reduceAdd, Int.reduceSub, Nat.reduceLeDiff, Int.reduceLT, Int.reduceLE, Int.reduceEq, Int.reduceNeg, Int.reduceToNat]
            repeat' ((first | refine guardB_dec (fun hy => ?_) (fun hy => ?_) | refine guardB_bool (fun hy => ?_) (fun hy => ?_) | refine guardQ_ite (fun hy => ?_) (fun hy => ?_) | refine brQ_dec (fun hy => ?_) (fun hy => ?_) | refine brQ_bool (fun hy => ?_) (fun hy => ?_)) <;> (try simp only [Bool.not_eq_true', Bool.not_eq_false', Bool.and_eq_true, Bool.or_eq_false_iff, decide_eq_true_eq, decide_eq_false_iff_not] at hy) <;> simp (disch := first | rfl | omega | exact lt_new _ | assumption | decide | (simp [tk_here, tk_app, tk_0, tk_S, gr_here, gr_app, gr_0, gr_S] <;> omega) | fail) only [l20_25, r20_20, r20_26, r20_27, r20_28, t0, t1, t2, t12, t10, t11, t14, t13, ha2, hlt', Int.lt_irrefl, q1, q2, q3, go_sem, ↓reduceIte, Nat.reduceLT, Nat.reduceEqDiff, Nat.reduceAdd, Nat.reduceMul, Nat.reduceSub, Int.reduceAdd, Int.reduceSub, Nat.reduceLeDiff, Int.reduceLT, Int.reduceLE, Int.reduceEq, Int.reduceNeg, Int.reduceToNat, hy])
            exact ⟨_, by omega, k + 1, rfl, hlt, rfl, by rw [hb1, q2], by rw [hb1]⟩
          · rw [if_neg (fun z => z.elim (fun y => q1 y) fun y => q3 y.2)] at hb1
            simp (disch := first | rfl | omega | exact lt_new _ | assumption | decide | (simp [tk_here, tk_app, tk_0, tk_S, gr_here, gr_app, gr_0, gr_S] <;> omega) | fail) only [l20_25, r20_20, r20_26, r20_28, t0, t1, t2, t12, t10, t11, t14, t13, ha2, hlt', Int.lt_irrefl, q1, q2, q3, go_sem, ↓reduceIte, Nat.reduceLT, Nat.reduceEqDiff, Nat.reduceAdd, Nat.reduceMul, Nat.reduceSub, Int.reduceAdd, Int.reduceSub, Nat.reduceLeDiff, Int.reduceLT, Int.reduceLE, Int.reduceEq, Int.reduceNeg, Int.reduceToNat]
            repeat' ((first | refine guardB_dec (fun hy => ?_) (fun hy => ?_) | refine guardB_bool (fun hy => ?_) (fun hy => ?_) | refine guardQ_ite (fun hy => ?_) (fun hy => ?_) | refine brQ_dec (fun hy => ?_) (fun hy => ?_) | refine brQ_bool (fun hy => ?_) (fun hy => ?_)) <;> (try simp only [Bool.not_eq_true', Bool.not_eq_false', Bool.and_eq_true, Bool.or_eq_false_iff, decide_eq_true_eq, decide_eq_false_iff_not] at hy) <;> simp (disch := first | rfl | omega | exact lt_new _ | assumption | decide | (simp [tk_here, tk_app, tk_0, tk_S, gr_here, gr_app, gr_0, gr_S] <;> omega) | fail) only [l20_25, r20_20, r20_26, r20_28, t0, t1, t2, t12, t10, t11, t14, t13, ha2, hlt', Int.lt_irrefl, q1, q2, q3, go_sem, ↓reduceIte, Nat.reduceLT, Nat.reduceEqDiff, Nat.reduceAdd, Nat.reduceMul, Nat.reduceSub, Int.reduceAdd, Int.reduceSub, Nat.reduceLeDiff, Int.reduceLT, Int.reduceLE, Int.reduceEq, Int.reduceNeg, Int.reduceToNat, hy])
            exact ⟨_, by omega, k + 1, rfl, hlt, rfl, by rw [hb1], by rw [hb1]⟩
        · rw [if_neg (fun z => z.elim (fun y => q1 y) fun y => q2 y.1)] at hb1
          simp (disch := first | rfl | omega | exact lt_new _ | assumption | decide | (simp [tk_here, tk_app, tk_0, tk_S, gr_here, gr_app, gr_0, gr_S] <;> omega) | fail) only [l20_25, r20_20, r20_26, r20_28, t0, t1, t2, t12, t10, t11, t14, t13, ha2, hlt', Int.lt_irrefl, q1, q2, go_sem, ↓reduceIte, Nat.reduceLT, Nat.reduceEqDiff, Nat.reduceAdd, Nat.reduceMul, Nat.reduceSub, Int.reduceAdd, Int.reduceSub, Nat.reduceLeDiff, Int.reduceLT, Int.reduceLE, Int.reduceEq, Int.reduceNeg, Int.reduceToNat]
          repeat' ((first | refine guardB_dec (fun hy => ?_) (fun hy => ?_) | refine guardB_bool (fun hy => ?_) (fun hy => ?_) | refine guardQ_ite (fun hy => ?_) (fun hy => ?_) | refine brQ_dec (fun hy => ?_) (fun hy => ?_) | refine brQ_bool (fun hy => ?_) (fun hy => ?_)) <;> (try simp only [Bool.not_eq_true', Bool.not_eq_false', Bool.and_eq_true, Bool.or_eq_false_iff, decide_eq_true_eq, decide_eq_false_iff_not] at hy) <;> simp (disch := first | rfl | omega | exact lt_new _ | assumption | decide | (simp [tk_here, tk_app, tk_0, tk_S, gr_here, gr_app, gr_0, gr_S] <;> omega) | fail) only [l20_25, r20_20, r20_26, r20_28, t0, t1, t2, t12, t10, t11, t14, t13, ha2, hlt', Int.lt_irrefl, q1, q2, go_sem, ↓reduceIte, Nat.reduceLT, Nat.reduceEqDiff, Nat.reduceAdd, Nat.reduceMul, Nat.reduceSub, Int.reduceAdd, Int.reduceSub, Nat.reduceLeDiff, Int.reduceLT, Int.reduceLE, Int.reduceEq, Int.reduceNeg, Int.reduceToNat, hy])
          exact ⟨_, by omega, k + 1, rfl, hlt, rfl, by rw [hb1], by rw [hb1]⟩
  · obtain rfl : k = t.length := by omega
    simp (disch := first | rfl | omega | exact lt_new _ | assumption | decide | (simp [tk_here, tk_app, tk_0, tk_S, gr_here, gr_app, gr_0, gr_S] <;> omega) | fail) only [l20_29, r20_17, r20_30, rs20, gc20, t0, t1, t2, t12, t10, t11, ha2, Int.lt_irrefl, go_sem, ↓reduceIte, Nat.reduceLT, Nat.reduceEqDiff, Nat.reduceAdd, Nat.reduceMul, Nat.reduceSub, Int.reduceAdd, Int.reduceSub, Nat.reduceLeDiff, Int.reduceLT, Int.reduceLE, Int.reduceEq, Int.reduceNeg, Int.reduceToNat]
    repeat' ((first | refine guardB_dec (fun hy => ?_) (fun hy => ?_) | refine guardB_bool (fun hy => ?_) (fun hy => ?_) | refine guardQ_ite (fun hy => ?_) (fun hy => ?_) | refine brQ_dec (fun hy => ?_) (fun hy => ?_) | refine brQ_bool (fun hy => ?_) (fun hy => ?_)) <;> (try simp only [Bool.not_eq_true', Bool.not_eq_false', Bool.and_eq_true, Bool.or_eq_false_iff, decide_eq_true_eq, decide_eq_false_iff_not] at hy) <;> simp (disch := first | rfl | omega | exact lt_new _ | assumption | decide | (simp [tk_here, tk_app, tk_0, tk_S, gr_here, gr_app, gr_0, gr_S] <;> omega) | fail) only [l20_29, r20_17, r20_30, rs20, gc20, t0, t1, t2, t12, t10, t11, ha2, Int.lt_irrefl, go_sem, ↓reduceIte, Nat.reduceLT, Nat.reduceEqDiff, Nat.reduceAdd, Nat.reduceMul, Nat.reduceSub, Int.reduceAdd, Int.reduceSub, Nat.reduceLeDiff, Int.reduceLT, Int.reduceLE, Int.reduceEq, Int.reduceNeg, Int.reduceToNat, hy])
    all_goals (try ((first | refine finQ_same ?_ | refine finQ_app ?_ | (rw [List.append_assoc]; refine finQ_app ?_)) <;> simp (disch := first | rfl | omega | exact lt_new _ | assumption | decide | (simp [tk_here, tk_app, tk_0, tk_S, gr_here, gr_app, gr_0, gr_S] <;> omega) | fail) only [go_sem, ↓reduceIte, Nat.reduceLT, Nat.reduceEqDiff, Nat.reduceAdd, Nat.reduceMul, Nat.reduceSub, Int.reduceAdd, Int.reduceSub, Nat.reduceLeDiff, Int.reduceLT, Int.reduceLE, Int.reduceEq, Int.reduceNeg, Int.reduceToNat, List.append_assoc, List.cons_append, List.nil_append, *]))
    all_goals (try first | rfl | (simp [*]; done) | grind)
end Go.Proofs.YteeofpgnjekeaaaGreatDoor
/-
  The greatest sum in a width, as the program has it; walked. No statement of the seat stands here.
-/
namespace Go.Proofs.YteeofpgnjekeaaaGreatDoor
open Go Go.An
set_option maxRecDepth 4000
set_option linter.unusedSimpArgs false
set_option linter.unusedVariables false

set_option maxHeartbeats 8000000 in
theorem fn19 (bt bs : Bool) (t s : List Int) (w : Int) (h1 : t.length ≤ 2 ^ 48) (h2 : s.length ≤ 2 ^ 48) (H : Hp) : callL Tryz.prog pr 19 [slV bt inE t, slV bs inE s, .int .i64 w] H = some (.tup [.int .i64 (burF t s w).1.1, .int .i64 (burF t s w).1.2, .int .i64 (burF t s w).2], H) := by
  have h54 := fun b l H => fn54 (b := b) (l := l) H
  refine run19 (Nat.le_of_ble_eq_true rfl) ?_
  unfold burF
  by_cases ha : t.length ≠ s.length
  case pos =>
    rw [if_pos ha]
    have ha2 : ¬ (t.length : Int) = s.length := by omega
    simp (disch := first | rfl | omega | exact lt_new _ | assumption | decide | (simp [tk_here, tk_app, tk_0, tk_S, gr_here, gr_app, gr_0, gr_S] <;> omega) | fail) only [r19_0, r19_1, r19_2, r19_3, r19_4, r19_5, r19_6, r19_7, r19_8, r19_9, r19_10, r19_11, r19_12, r19_13, r19_14, r19_15, r19_16, r19_17, r19_18, r19_19, r19_21, r19_22, r19_23, r19_25, c19, rs19, gc19, ha2, go_sem, ↓reduceIte, Nat.reduceLT, Nat.reduceEqDiff, Nat.reduceAdd, Nat.reduceMul, Nat.reduceSub, Int.reduceAdd, Int.reduceSub, Nat.reduceLeDiff, Int.reduceLT, Int.reduceLE, Int.reduceEq, Int.reduceNeg, Int.reduceToNat]
    repeat' ((first | refine guardB_dec (fun hy => ?_) (fun hy => ?_) | refine guardB_bool (fun hy => ?_) (fun hy => ?_) | refine guardQ_ite (fun hy => ?_) (fun hy => ?_) | refine brQ_dec (fun hy => ?_) (fun hy => ?_) | refine brQ_bool (fun hy => ?_) (fun hy => ?_)) <;> (try simp only [Bool.not_eq_true', Bool.not_eq_false', Bool.and_eq_true, Bool.or_eq_false_iff, decide_eq_true_eq, decide_eq_false_iff_not] at hy) <;> simp (disch := first | rfl | omega | exact lt_new _ | assumption | decide | (simp [tk_here, tk_app, tk_0, tk_S, gr_here, gr_app, gr_0, gr_S] <;> omega) | fail) only [r19_0, r19_1, r19_2, r19_3, r19_4, r19_5, r19_6, r19_7, r19_8, r19_9, r19_10, r19_11, r19_12, r19_13, r19_14, r19_15, r19_16, r19_17, r19_18, r19_19, r19_21, r19_22, r19_23, r19_25, c19, rs19, gc19, ha2, go_sem, ↓reduceIte, Nat.reduceLT, Nat.reduceEqDiff, Nat.reduceAdd, Nat.reduceMul, Nat.reduceSub, Int.reduceAdd, Int.reduceSub, Nat.reduceLeDiff, Int.reduceLT, Int.reduceLE, Int.reduceEq, Int.reduceNeg, Int.reduceToNat, hy])
    all_goals (try ((first | refine finQ_same ?_ | refine finQ_app ?_ | (rw [List.append_assoc]; refine finQ_app ?_)) <;> simp (disch := first | rfl | omega | exact lt_new _ | assumption | decide | (simp [tk_here, tk_app, tk_0, tk_S, gr_here, gr_app, gr_0, gr_S] <;> omega) | fail) only [go_sem, ↓reduceIte, Nat.reduceLT, Nat.reduceEqDiff, Nat.reduceAdd, Nat.reduceMul, Nat.reduceSub, Int.reduceAdd, Int.reduceSub, Nat.reduceLeDiff, Int.reduceLT, Int.reduceLE, Int.reduceEq, Int.reduceNeg, Int.reduceToNat, List.append_assoc, List.cons_append, List.nil_append, *]))
    all_goals (try first | rfl | (simp [*]; done) | grind)
  rw [if_neg ha]
  have ha2 : (t.length : Int) = s.length := by omega
  by_cases hb : 200 < t.length
  case pos =>
    rw [if_pos hb]
    have hb2 : (200 : Int) < s.length := by omega
    simp (disch := first | rfl | omega | exact lt_new _ | assumption | decide | (simp [tk_here, tk_app, tk_0, tk_S, gr_here, gr_app, gr_0, gr_S] <;> omega) | fail) only [r19_0, r19_1, r19_2, r19_3, r19_4, r19_5, r19_6, r19_7, r19_8, r19_9, r19_10, r19_11, r19_12, r19_13, r19_14, r19_15, r19_16, r19_17, r19_18, r19_19, r19_21, r19_22, r19_23, r19_25, c19, rs19, gc19, h54, ha2, hb2, go_sem, ↓reduceIte, Nat.reduceLT, Nat.reduceEqDiff, Nat.reduceAdd, Nat.reduceMul, Nat.reduceSub, Int.reduceAdd, Int.reduceSub, Nat.reduceLeDiff, Int.reduceLT, Int.reduceLE, Int.reduceEq, Int.reduceNeg, Int.reduceToNat]
    repeat' ((first | refine guardB_dec (fun hy => ?_) (fun hy => ?_) | refine guardB_bool (fun hy => ?_) (fun hy => ?_) | refine guardQ_ite (fun hy => ?_) (fun hy => ?_) | refine brQ_dec (fun hy => ?_) (fun hy => ?_) | refine brQ_bool (fun hy => ?_) (fun hy => ?_)) <;> (try simp only [Bool.not_eq_true', Bool.not_eq_false', Bool.and_eq_true, Bool.or_eq_false_iff, decide_eq_true_eq, decide_eq_false_iff_not] at hy) <;> simp (disch := first | rfl | omega | exact lt_new _ | assumption | decide | (simp [tk_here, tk_app, tk_0, tk_S, gr_here, gr_app, gr_0, gr_S] <;> omega) | fail) only [r19_0, r19_1, r19_2, r19_3, r19_4, r19_5, r19_6, r19_7, r19_8, r19_9, r19_10, r19_11, r19_12, r19_13, r19_14, r19_15, r19_16, r19_17, r19_18, r19_19, r19_21, r19_22, r19_23, r19_25, c19, rs19, gc19, h54, ha2, hb2, go_sem, ↓reduceIte, Nat.reduceLT, Nat.reduceEqDiff, Nat.reduceAdd, Nat.reduceMul, Nat.reduceSub, Int.reduceAdd, Int.reduceSub, Nat.reduceLeDiff, Int.reduceLT, Int.reduceLE, Int.reduceEq, Int.reduceNeg, Int.reduceToNat, hy])
    all_goals (try ((first | refine finQ_same ?_ | refine finQ_app ?_ | (rw [List.append_assoc]; refine finQ_app ?_)) <;> simp (disch := first | rfl | omega | exact lt_new _ | assumption | decide | (simp [tk_here, tk_app, tk_0, tk_S, gr_here, gr_app, gr_0, gr_S] <;> omega) | fail) only [go_sem, ↓reduceIte, Nat.reduceLT, Nat.reduceEqDiff, Nat.reduceAdd, Nat.reduceMul, Nat.reduceSub, Int.reduceAdd, Int.reduceSub, Nat.reduceLeDiff, Int.reduceLT, Int.reduceLE, Int.reduceEq, Int.reduceNeg, Int.reduceToNat, List.append_assoc, List.cons_append, List.nil_append, *]))
    all_goals (try first | rfl | (simp [*]; done) | grind)
  rw [if_neg hb]
  have hb2 : ¬ (200 : Int) < s.length := by omega
  by_cases hc : t.length = 0
  case pos =>
    rw [if_pos hc]
    have hc2 : (s.length : Int) = 0 := by omega
    simp (disch := first | rfl | omega | exact lt_new _ | assumption | decide | (simp [tk_here, tk_app, tk_0, tk_S, gr_here, gr_app, gr_0, gr_S] <;> omega) | fail) only [r19_0, r19_1, r19_2, r19_3, r19_4, r19_5, r19_6, r19_7, r19_8, r19_9, r19_10, r19_11, r19_12, r19_13, r19_14, r19_15, r19_16, r19_17, r19_18, r19_19, r19_21, r19_22, r19_23, r19_25, c19, rs19, gc19, h54, ha2, hb2, hc2, go_sem, ↓reduceIte, Nat.reduceLT, Nat.reduceEqDiff, Nat.reduceAdd, Nat.reduceMul, Nat.reduceSub, Int.reduceAdd, Int.reduceSub, Nat.reduceLeDiff, Int.reduceLT, Int.reduceLE, Int.reduceEq, Int.reduceNeg, Int.reduceToNat]
    repeat' ((first | refine guardB_dec (fun hy => ?_) (fun hy => ?_) | refine guardB_bool (fun hy => ?_) (fun hy => ?_) | refine guardQ_ite (fun hy => ?_) (fun hy => ?_) | refine brQ_dec (fun hy => ?_) (fun hy => ?_) | refine brQ_bool (fun hy => ?_) (fun hy => ?_)) <;> (try simp only [Bool.not_eq_true', Bool.not_eq_false', Bool.and_eq_true, Bool.or_eq_false_iff, decide_eq_true_eq, decide_eq_false_iff_not] at hy) <;> simp (disch := first | rfl | omega | exact lt_new _ | assumption | decide | (simp [tk_here, tk_app, tk_0, tk_S, gr_here, gr_app, gr_0, gr_S] <;> omega) | fail) only [r19_0, r19_1, r19_2, r19_3, r19_4, r19_5, r19_6, r19_7, r19_8, r19_9, r19_10, r19_11, r19_12, r19_13, r19_14, r19_15, r19_16, r19_17, r19_18, r19_19, r19_21, r19_22, r19_23, r19_25, c19, rs19, gc19, h54, ha2, hb2, hc2, go_sem, ↓reduceIte, Nat.reduceLT, Nat.reduceEqDiff, Nat.reduceAdd, Nat.reduceMul, Nat.reduceSub, Int.reduceAdd, Int.reduceSub, Nat.reduceLeDiff, Int.reduceLT, Int.reduceLE, Int.reduceEq, Int.reduceNeg, Int.reduceToNat, hy])
    all_goals (try ((first | refine finQ_same ?_ | refine finQ_app ?_ | (rw [List.append_assoc]; refine finQ_app ?_)) <;> simp (disch := first | rfl | omega | exact lt_new _ | assumption | decide | (simp [tk_here, tk_app, tk_0, tk_S, gr_here, gr_app, gr_0, gr_S] <;> omega) | fail) only [go_sem, ↓reduceIte, Nat.reduceLT, Nat.reduceEqDiff, Nat.reduceAdd, Nat.reduceMul, Nat.reduceSub, Int.reduceAdd, Int.reduceSub, Nat.reduceLeDiff, Int.reduceLT, Int.reduceLE, Int.reduceEq, Int.reduceNeg, Int.reduceToNat, List.append_assoc, List.cons_append, List.nil_append, *]))
    all_goals (try first | rfl | (simp [*]; done) | grind)
  rw [if_neg hc]
  have hc2 : ¬ (s.length : Int) = 0 := by omega
  by_cases hd : w < 1
  case pos =>
    rw [if_pos (.inl hd)]
    simp (disch := first | rfl | omega | exact lt_new _ | assumption | decide | (simp [tk_here, tk_app, tk_0, tk_S, gr_here, gr_app, gr_0, gr_S] <;> omega) | fail) only [r19_0, r19_1, r19_2, r19_3, r19_4, r19_5, r19_6, r19_7, r19_8, r19_9, r19_10, r19_11, r19_12, r19_13, r19_14, r19_15, r19_16, r19_17, r19_18, r19_19, r19_21, r19_22, r19_23, r19_25, c19, rs19, gc19, h54, ha2, hb2, hc2, hd, go_sem, ↓reduceIte, Nat.reduceLT, Nat.reduceEqDiff, Nat.reduceAdd, Nat.reduceMul, Nat.reduceSub, Int.reduceAdd, Int.reduceSub, Nat.reduceLeDiff, Int.reduceLT, Int.reduceLE, Int.reduceEq, Int.reduceNeg, Int.reduceToNat]
    repeat' ((first | refine guardB_dec (fun hy => ?_) (fun hy => ?_) | refine guardB_bool (fun hy => ?_) (fun hy => ?_) | refine guardQ_ite (fun hy => ?_) (fun hy => ?_) | refine brQ_dec (fun hy => ?_) (fun hy => ?_) | refine brQ_bool (fun hy => ?_) (fun hy => ?_)) <;> (try simp only [Bool.not_eq_true', Bool.not_eq_false', Bool.and_eq_true, Bool.or_eq_false_iff, decide_eq_true_eq, decide_eq_false_iff_not] at hy) <;> simp (disch := first | rfl | omega | exact lt_new _ | assumption | decide | (simp [tk_here, tk_app, tk_0, tk_S, gr_here, gr_app, gr_0, gr_S] <;> omega) | fail) only [r19_0, r19_1, r19_2, r19_3, r19_4, r19_5, r19_6, r19_7, r19_8, r19_9, r19_10, r19_11, r19_12, r19_13, r19_14, r19_15, r19_16, r19_17, r19_18, r19_19, r19_21, r19_22, r19_23, r19_25, c19, rs19, gc19, h54, ha2, hb2, hc2, hd, go_sem, ↓reduceIte, Nat.reduceLT, Nat.reduceEqDiff, Nat.reduceAdd, Nat.reduceMul, Nat.reduceSub, Int.reduceAdd, Int.reduceSub, Nat.reduceLeDiff, Int.reduceLT, Int.reduceLE, Int.reduceEq, Int.reduceNeg, Int.reduceToNat, hy])
    all_goals (try ((first | refine finQ_same ?_ | refine finQ_app ?_ | (rw [List.append_assoc]; refine finQ_app ?_)) <;> simp (disch := first | rfl | omega | exact lt_new _ | assumption | decide | (simp [tk_here, tk_app, tk_0, tk_S, gr_here, gr_app, gr_0, gr_S] <;> omega) | fail) only [go_sem, ↓reduceIte, Nat.reduceLT, Nat.reduceEqDiff, Nat.reduceAdd, Nat.reduceMul, Nat.reduceSub, Int.reduceAdd, Int.reduceSub, Nat.reduceLeDiff, Int.reduceLT, Int.reduceLE, Int.reduceEq, Int.reduceNeg, Int.reduceToNat, List.append_assoc, List.cons_append, List.nil_append, *]))
    all_goals (try first | rfl | (simp [*]; done) | grind)
  have hts : s.length = t.length := by omega
  have h55t := fun H => fn55L (b := bt) (l := t) (H := H) (by omega) (fun n => !okT n) 59 [] [] (fun _ => rfl) fun x _ => fn59 x H
  have h55s := fun H => fn55L (b := bs) (l := s) (H := H) (by omega) badS 60 [] [] (fun _ => rfl) fun x _ => fn60 x H
  by_cases c5 : (t.any fun n => !okT n) = true
  · rw [if_pos (.inr (.inl c5))]
    rw [c5] at h55t
    simp (disch := first | rfl | omega | exact lt_new _ | assumption | decide | (simp [tk_here, tk_app, tk_0, tk_S, gr_here, gr_app, gr_0, gr_S] <;> omega) | fail) only [r19_0, r19_1, r19_2, r19_3, r19_4, r19_5, r19_6, r19_7, r19_8, r19_9, r19_10, r19_11, r19_12, r19_13, r19_14, r19_15, r19_16, r19_17, r19_18, r19_19, r19_21, r19_22, r19_23, r19_25, c19, rs19, gc19, h54, h55t, ha2, hb2, hc2, hd, go_sem, ↓reduceIte, Nat.reduceLT, Nat.reduceEqDiff, Nat.reduceAdd, Nat.reduceMul, Nat.reduceSub, Int.reduceAdd, Int.reduceSub, Nat.reduceLeDiff, Int.reduceLT, Int.reduceLE, Int.reduceEq, Int.reduceNeg, Int.reduceToNat]
    repeat' ((first | refine guardB_dec (fun hy => ?_) (fun hy => ?_) | refine guardB_bool (fun hy => ?_) (fun hy => ?_) | refine guardQ_ite (fun hy => ?_) (fun hy => ?_) | refine brQ_dec (fun hy => ?_) (fun hy => ?_) | refine brQ_bool (fun hy => ?_) (fun hy => ?_)) <;> (try simp only [Bool.not_eq_true', Bool.not_eq_false', Bool.and_eq_true, Bool.or_eq_false_iff, decide_eq_true_eq, decide_eq_false_iff_not] at hy) <;> simp (disch := first | rfl | omega | exact lt_new _ | assumption | decide | (simp [tk_here, tk_app, tk_0, tk_S, gr_here, gr_app, gr_0, gr_S] <;> omega) | fail) only [r19_0, r19_1, r19_2, r19_3, r19_4, r19_5, r19_6, r19_7, r19_8, r19_9, r19_10, r19_11, r19_12, r19_13, r19_14, r19_15, r19_16, r19_17, r19_18, r19_19, r19_21, r19_22, r19_23, r19_25, c19, rs19, gc19, h54, h55t, ha2, hb2, hc2, hd, go_sem, ↓reduceIte, Nat.reduceLT, Nat.reduceEqDiff, Nat.reduceAdd, Nat.reduceMul, Nat.reduceSub, Int.reduceAdd, Int.reduceSub, Nat.reduceLeDiff, Int.reduceLT, Int.reduceLE, Int.reduceEq, Int.reduceNeg, Int.reduceToNat, hy])
    all_goals (try ((first | refine finQ_same ?_ | refine finQ_app ?_ | (rw [List.append_assoc]; refine finQ_app ?_)) <;> simp (disch := first | rfl | omega | exact lt_new _ | assumption | decide | (simp [tk_here, tk_app, tk_0, tk_S, gr_here, gr_app, gr_0, gr_S] <;> omega) | fail) only [go_sem, ↓reduceIte, Nat.reduceLT, Nat.reduceEqDiff, Nat.reduceAdd, Nat.reduceMul, Nat.reduceSub, Int.reduceAdd, Int.reduceSub, Nat.reduceLeDiff, Int.reduceLT, Int.reduceLE, Int.reduceEq, Int.reduceNeg, Int.reduceToNat, List.append_assoc, List.cons_append, List.nil_append, *]))
    all_goals (try first | rfl | (simp [*]; done) | grind)
  rw [Bool.not_eq_true] at c5
  rw [c5] at h55t
  by_cases c6 : s.any badS = true
  · rw [if_pos (.inr (.inr c6))]
    rw [c6] at h55s
    simp (disch := first | rfl | omega | exact lt_new _ | assumption | decide | (simp [tk_here, tk_app, tk_0, tk_S, gr_here, gr_app, gr_0, gr_S] <;> omega) | fail) only [r19_0, r19_1, r19_2, r19_3, r19_4, r19_5, r19_6, r19_7, r19_8, r19_9, r19_10, r19_11, r19_12, r19_13, r19_14, r19_15, r19_16, r19_17, r19_18, r19_19, r19_21, r19_22, r19_23, r19_25, c19, rs19, gc19, h54, h55t, h55s, ha2, hb2, hc2, hd, go_sem, ↓reduceIte, Nat.reduceLT, Nat.reduceEqDiff, Nat.reduceAdd, Nat.reduceMul, Nat.reduceSub, Int.reduceAdd, Int.reduceSub, Nat.reduceLeDiff, Int.reduceLT, Int.reduceLE, Int.reduceEq, Int.reduceNeg, Int.reduceToNat]
    repeat' ((first | refine guardB_dec (fun hy => ?_) (fun hy => ?_) | refine guardB_bool (fun hy => ?_) (fun hy => ?_) | refine guardQ_ite (fun hy => ?_) (fun hy => ?_) | refine brQ_dec (fun hy => ?_) (fun hy => ?_) | refine brQ_bool (fun hy => ?_) (fun hy => ?_)) <;> (try simp only [Bool.not_eq_true', Bool.not_eq_false', Bool.and_eq_true, Bool.or_eq_false_iff, decide_eq_true_eq, decide_eq_false_iff_not] at hy) <;> simp (disch := first | rfl | omega | exact lt_new _ | assumption | decide | (simp [tk_here, tk_app, tk_0, tk_S, gr_here, gr_app, gr_0, gr_S] <;> omega) | fail) only [r19_0, r19_1, r19_2, r19_3, r19_4, r19_5, r19_6, r19_7, r19_8, r19_9, r19_10, r19_11, r19_12, r19_13, r19_14, r19_15, r19_16, r19_17, r19_18, r19_19, r19_21, r19_22, r19_23, r19_25, c19, rs19, gc19, h54, h55t, h55s, ha2, hb2, hc2, hd, go_sem, ↓reduceIte, Nat.reduceLT, Nat.reduceEqDiff, Nat.reduceAdd, Nat.reduceMul, Nat.reduceSub, Int.reduceAdd, Int.reduceSub, Nat.reduceLeDiff, Int.reduceLT, Int.reduceLE, Int.reduceEq, Int.reduceNeg, Int.reduceToNat, hy])
    all_goals (try ((first | refine finQ_same ?_ | refine finQ_app ?_ | (rw [List.append_assoc]; refine finQ_app ?_)) <;> simp (disch := first | rfl | omega | exact lt_new _ | assumption | decide | (simp [tk_here, tk_app, tk_0, tk_S, gr_here, gr_app, gr_0, gr_S] <;> omega) | fail) only [go_sem, ↓reduceIte, Nat.reduceLT, Nat.reduceEqDiff, Nat.reduceAdd, Nat.reduceMul, Nat.reduceSub, Int.reduceAdd, Int.reduceSub, Nat.reduceLeDiff, Int.reduceLT, Int.reduceLE, Int.reduceEq, Int.reduceNeg, Int.reduceToNat, List.append_assoc, List.cons_append, List.nil_append, *]))
    all_goals (try first | rfl | (simp [*]; done) | grind)
  rw [Bool.not_eq_true] at c6
  rw [c6] at h55s
  rw [if_neg (by simp [c5, c6, hd])]
  have h62 := fn62 bt t
  have h61 := fn61 bt t (by omega)
  have hsb : ∀ j < s.length, 0 ≤ inE.at s j ∧ inE.at s j ≤ 1000000 := fun j hj => badS_at c6 hj
  have htb : ∀ j < t.length, 0 ≤ inE.at t j ∧ inE.at t j ≤ 1000000000000000 := fun j hj => okT_at (by simp [c5]) hj
  have hwb := fun x => wsum_b (t := t) (w := w) (x := x) hsb
  obtain ⟨f, hf⟩ : ∃ f : Int → Int, (fun x => wsum t s w x t.length) = f := ⟨_, rfl⟩
  have hfx : ∀ x, wsum t s w x t.length = f x := fun x => congrFun hf x
  have hf0 : ∀ x, 0 ≤ f x := fun x => by rw [← hfx]; exact (hwb x t.length (by omega)).1
  rw [hf, ← burst_eq hf0]
  have hsl := sortI_length t
  have hslI : ((sortI t).length : Int) = s.length := by omega
  have hub : ∀ j < (sortI t).length, 0 ≤ inE.at (sortI t) j ∧ inE.at (sortI t) j ≤ 1000000000000000 := fun j hj => by
    obtain ⟨i, hi, e⟩ := at_mem_iff.1 ((sortI_perm t).mem_iff.1 (inE.at_mem hj))
    rw [← e]
    exact htb i hi
  obtain ⟨u, hu⟩ : ∃ u, sortI t = u := ⟨_, rfl⟩
  rw [hu] at h61 hsl hslI hub ⊢
  simp (disch := first | rfl | omega | exact lt_new _ | assumption | decide | (simp [tk_here, tk_app, tk_0, tk_S, gr_here, gr_app, gr_0, gr_S] <;> omega) | fail) only [r19_0, r19_1, r19_2, r19_3, r19_4, r19_5, r19_6, r19_7, r19_8, r19_9, r19_10, r19_11, r19_12, r19_13, r19_14, r19_15, r19_16, r19_17, r19_18, r19_19, r19_21, r19_22, r19_23, r19_25, c19, rs19, gc19, h54, h55t, h55s, h61, h62, ha2, hb2, hc2, hd, hslI, go_sem, ↓reduceIte, Nat.reduceLT, Nat.reduceEqDiff, Nat.reduceAdd, Nat.reduceMul, Nat.reduceSub, Int.reduceAdd, Int.reduceSub, Nat.reduceLeDiff, Int.reduceLT, Int.reduceLE, Int.reduceEq, Int.reduceNeg, Int.reduceToNat]
  repeat' ((first | refine guardB_dec (fun hy => ?_) (fun hy => ?_) | refine guardB_bool (fun hy => ?_) (fun hy => ?_) | refine guardQ_ite (fun hy => ?_) (fun hy => ?_) | refine brQ_dec (fun hy => ?_) (fun hy => ?_) | refine brQ_bool (fun hy => ?_) (fun hy => ?_)) <;> (try simp only [Bool.not_eq_true', Bool.not_eq_false', Bool.and_eq_true, Bool.or_eq_false_iff, decide_eq_true_eq, decide_eq_false_iff_not] at hy) <;> simp (disch := first | rfl | omega | exact lt_new _ | assumption | decide | (simp [tk_here, tk_app, tk_0, tk_S, gr_here, gr_app, gr_0, gr_S] <;> omega) | fail) only [r19_0, r19_1, r19_2, r19_3, r19_4, r19_5, r19_6, r19_7, r19_8, r19_9, r19_10, r19_11, r19_12, r19_13, r19_14, r19_15, r19_16, r19_17, r19_18, r19_19, r19_21, r19_22, r19_23, r19_25, c19, rs19, gc19, h54, h55t, h55s, h61, h62, ha2, hb2, hc2, hd, hslI, go_sem, ↓reduceIte, Nat.reduceLT, Nat.reduceEqDiff, Nat.reduceAdd, Nat.reduceMul, Nat.reduceSub, Int.reduceAdd, Int.reduceSub, Nat.reduceLeDiff, Int.reduceLT, Int.reduceLE, Int.reduceEq, Int.reduceNeg, Int.reduceToNat, hy])
  refine Wp_loop (fun m T D H1 => ∃ k, m = t.length - k ∧ k ≤ t.length ∧ D = [] ∧ H1 = H ∧ get T 0 = slV bt inE t ∧ get T 1 = slV bs inE s ∧ get T 2 = .int .i64 w ∧ get T 42 = slV true inE u ∧ get T 43 = .int .i64 s.length ∧ get T 44 = .int .i64 k ∧ get T 9 = .int .i64 (bstP f u k).1 ∧ get T 10 = .int .i64 (bstP f u k).2) ?_ t.length _ _ _ ?_
  case refine_2 => exact ⟨0, by simp (disch := first | rfl | omega | exact lt_new _ | assumption | decide | (simp [tk_here, tk_app, tk_0, tk_S, gr_here, gr_app, gr_0, gr_S] <;> omega) | fail) only [go_sem, ↓reduceIte, Nat.reduceLT, Nat.reduceEqDiff, Nat.reduceAdd, Nat.reduceMul, Nat.reduceSub, Int.reduceAdd, Int.reduceSub, Nat.reduceLeDiff, Int.reduceLT, Int.reduceLE, Int.reduceEq, Int.reduceNeg, Int.reduceToNat, bstP]; simp⟩
  rintro m T D H' ⟨k, rfl, hk, rfl, rfl, t0, t1, t2, t42, t43, t44, t9, t10⟩
  by_cases hlt : k < t.length
  · have hlt' : (k : Int) < s.length := by omega
    have hltu : k < u.length := by omega
    have hltu' : (k : Int) < u.length := by omega
    obtain ⟨tk1, tk2⟩ := hub k hltu
    simp (disch := first | rfl | omega | exact lt_new _ | assumption | decide | (simp [tk_here, tk_app, tk_0, tk_S, gr_here, gr_app, gr_0, gr_S] <;> omega) | fail) only [l19_24, r19_11, r19_12, r19_13, r19_14, t0, t1, t2, t42, t43, t44, t9, t10, ha2, hlt', go_sem, ↓reduceIte, Nat.reduceLT, Nat.reduceEqDiff, Nat.reduceAdd, Nat.reduceMul, Nat.reduceSub, Int.reduceAdd, Int.reduceSub, Nat.reduceLeDiff, Int.reduceLT, Int.reduceLE, Int.reduceEq, Int.reduceNeg, Int.reduceToNat]
    repeat' ((first | refine guardB_dec (fun hy => ?_) (fun hy => ?_) | refine guardB_bool (fun hy => ?_) (fun hy => ?_) | refine guardQ_ite (fun hy => ?_) (fun hy => ?_) | refine brQ_dec (fun hy => ?_) (fun hy => ?_) | refine brQ_bool (fun hy => ?_) (fun hy => ?_)) <;> (try simp only [Bool.not_eq_true', Bool.not_eq_false', Bool.and_eq_true, Bool.or_eq_false_iff, decide_eq_true_eq, decide_eq_false_iff_not] at hy) <;> simp (disch := first | rfl | omega | exact lt_new _ | assumption | decide | (simp [tk_here, tk_app, tk_0, tk_S, gr_here, gr_app, gr_0, gr_S] <;> omega) | fail) only [l19_24, r19_11, r19_12, r19_13, r19_14, t0, t1, t2, t42, t43, t44, t9, t10, ha2, hlt', go_sem, ↓reduceIte, Nat.reduceLT, Nat.reduceEqDiff, Nat.reduceAdd, Nat.reduceMul, Nat.reduceSub, Int.reduceAdd, Int.reduceSub, Nat.reduceLeDiff, Int.reduceLT, Int.reduceLE, Int.reduceEq, Int.reduceNeg, Int.reduceToNat, hy])
    refine Wp_loop (fun m T D H2 => ∃ j, m = t.length - j ∧ j ≤ t.length ∧ D = [] ∧ H2 = H' ∧ get T 0 = slV bt inE t ∧ get T 1 = slV bs inE s ∧ get T 2 = .int .i64 w ∧ get T 42 = slV true inE u ∧ get T 43 = .int .i64 s.length ∧ get T 44 = .int .i64 k ∧ get T 9 = .int .i64 (bstP f u k).1 ∧ get T 10 = .int .i64 (bstP f u k).2 ∧ get T 12 = .int .i64 (inE.at u k) ∧ get T 48 = slV bt inE t ∧ get T 49 = .int .i64 s.length ∧ get T 50 = .int .i64 j ∧ get T 13 = .int .i64 (wsum t s w (inE.at u k) j)) ?_ t.length _ _ _ ?_
    case refine_2 => exact ⟨0, by simp (disch := first | rfl | omega | exact lt_new _ | assumption | decide | (simp [tk_here, tk_app, tk_0, tk_S, gr_here, gr_app, gr_0, gr_S] <;> omega) | fail) only [go_sem, ↓reduceIte, Nat.reduceLT, Nat.reduceEqDiff, Nat.reduceAdd, Nat.reduceMul, Nat.reduceSub, Int.reduceAdd, Int.reduceSub, Nat.reduceLeDiff, Int.reduceLT, Int.reduceLE, Int.reduceEq, Int.reduceNeg, Int.reduceToNat, t0, t1, t2, t42, t43, t44, t9, t10, wsum]; simp⟩
    clear t0 t1 t2 t42 t43 t44 t9 t10
    rintro m T D H' ⟨j, rfl, hj, rfl, rfl, t0, t1, t2, t42, t43, t44, t9, t10, t12, t48, t49, t50, t13⟩
    by_cases hjt : j < t.length
    · have hjt' : (j : Int) < s.length := by omega
      have hjtt' : (j : Int) < t.length := by omega
      obtain ⟨tj1, tj2⟩ := htb j hjt
      obtain ⟨sj1, sj2⟩ := hsb j (by omega)
      have hwj := hwb (inE.at u k) j (by omega)
      have hw1 : wsum t s w (inE.at u k) (j + 1) = if inE.at t j ≥ inE.at u k ∧ inE.at t j - inE.at u k < w then wsum t s w (inE.at u k) j + inE.at s j else wsum t s w (inE.at u k) j := rfl
      by_cases q1 : inE.at u k ≤ inE.at t j
      · by_cases q2 : inE.at t j - inE.at u k < w
        · rw [if_pos ⟨q1, q2⟩] at hw1
          simp (disch := first | rfl | omega | exact lt_new _ | assumption | decide | (simp [tk_here, tk_app, tk_0, tk_S, gr_here, gr_app, gr_0, gr_S] <;> omega) | fail) only [l19_20, r19_15, r19_16, r19_17, r19_18, r19_19, t0, t1, t2, t42, t43, t44, t9, t10, t12, t48, t49, t50, t13, ha2, hlt', hjt', hjtt', q1, q2, go_sem, ↓reduceIte, Nat.reduceLT, Nat.reduceEqDiff, Nat.reduceAdd, Nat.reduceMul, Nat.reduceSub, Int.reduceAdd, Int.reduceSub, Nat.reduceLeDiff, Int.reduceLT, Int.reduceLE, Int.reduceEq, Int.reduceNeg, Int.reduceToNat]
          repeat' ((first | refine guardB_dec (fun hy => ?_) (fun hy => ?_) | refine guardB_bool (fun hy => ?_) (fun hy => ?_) | refine guardQ_ite (fun hy => ?_) (fun hy => ?_) | refine brQ_dec (fun hy => ?_) (fun hy => ?_) | refine brQ_bool (fun hy => ?_) (fun hy => ?_)) <;> (try simp only [Bool.not_eq_true', Bool.not_eq_false', Bool.and_eq_true, Bool.or_eq_false_iff, decide_eq_true_eq, decide_eq_false_iff_not] at hy) <;> simp (disch := first | rfl | omega | exact lt_new _ | assumption | decide | (simp [tk_here, tk_app, tk_0, tk_S, gr_here, gr_app, gr_0, gr_S] <;> omega) | fail) only [l19_20, r19_15, r19_16, r19_17, r19_18, r19_19, t0, t1, t2, t42, t43, t44, t9, t10, t12, t48, t49, t50, t13, ha2, hlt', hjt', hjtt', q1, q2, go_sem, ↓reduceIte, Nat.reduceLT, Nat.reduceEqDiff, Nat.reduceAdd, Nat.reduceMul, Nat.reduceSub, Int.reduceAdd, Int.reduceSub, Nat.reduceLeDiff, Int.reduceLT, Int.reduceLE, Int.reduceEq, Int.reduceNeg, Int.reduceToNat, hy])
          exact ⟨_, by omega, j + 1, rfl, hjt, rfl, by rw [hw1]⟩
        · rw [if_neg (fun z => q2 z.2)] at hw1
          simp (disch := first | rfl | omega | exact lt_new _ | assumption | decide | (simp [tk_here, tk_app, tk_0, tk_S, gr_here, gr_app, gr_0, gr_S] <;> omega) | fail) only [l19_20, r19_15, r19_16, r19_17, r19_19, t0, t1, t2, t42, t43, t44, t9, t10, t12, t48, t49, t50, t13, ha2, hlt', hjt', hjtt', q1, q2, go_sem, ↓reduceIte, Nat.reduceLT, Nat.reduceEqDiff, Nat.reduceAdd, Nat.reduceMul, Nat.reduceSub, Int.reduceAdd, Int.reduceSub, Nat.reduceLeDiff, Int.reduceLT, Int.reduceLE, Int.reduceEq, Int.reduceNeg, Int.reduceToNat]
          repeat' ((first | refine guardB_dec (fun hy => ?_) (fun hy => ?_) | refine guardB_bool (fun hy => ?_) (fun hy => ?_) | refine guardQ_ite (fun hy => ?_) (fun hy => ?_) | refine brQ_dec (fun hy => ?_) (fun hy => ?_) | refine brQ_bool (fun hy => ?_) (fun hy => ?_)) <;> (try simp only [Bool.not_eq_true', Bool.not_eq_false', Bool.and_eq_true, Bool.or_eq_false_iff, decide_eq_true_eq, decide_eq_false_iff_not] at hy) <;> simp (disch := first | rfl | omega | exact lt_new _ | assumption | decide | (simp [tk_here, tk_app, tk_0, tk_S, gr_here, gr_app, gr_0, gr_S] <;> omega) | fail) only [l19_20, r19_15, r19_16, r19_17, r19_19, t0, t1, t2, t42, t43, t44, t9, t10, t12, t48, t49, t50, t13, ha2, hlt', hjt', hjtt', q1, q2, go_sem, ↓reduceIte, Nat.reduceLT, Nat.reduceEqDiff, Nat.reduceAdd, Nat.reduceMul, Nat.reduceSub, Int.reduceAdd, Int.reduceSub, Nat.reduceLeDiff, Int.reduceLT, Int.reduceLE, Int.reduceEq, Int.reduceNeg, Int.reduceToNat, hy])
          exact ⟨_, by omega, j + 1, rfl, hjt, rfl, by rw [hw1]⟩
      · rw [if_neg (fun z => q1 z.1)] at hw1
        simp (disch := first | rfl | omega | exact lt_new _ | assumption | decide | (simp [tk_here, tk_app, tk_0, tk_S, gr_here, gr_app, gr_0, gr_S] <;> omega) | fail) only [l19_20, r19_15, r19_16, r19_17, r19_19, t0, t1, t2, t42, t43, t44, t9, t10, t12, t48, t49, t50, t13, ha2, hlt', hjt', hjtt', q1, go_sem, ↓reduceIte, Nat.reduceLT, Nat.reduceEqDiff, Nat.reduceAdd, Nat.reduceMul, Nat.reduceSub, Int.reduceAdd, Int.reduceSub, Nat.reduceLeDiff, Int.reduceLT, Int.reduceLE, Int.reduceEq, Int.reduceNeg, Int.reduceToNat]
        repeat' ((first | refine guardB_dec (fun hy => ?_) (fun hy => ?_) | refine guardB_bool (fun hy => ?_) (fun hy => ?_) | refine guardQ_ite (fun hy => ?_) (fun hy => ?_) | refine brQ_dec (fun hy => ?_) (fun hy => ?_) | refine brQ_bool (fun hy => ?_) (fun hy => ?_)) <;> (try simp only [Bool.not_eq_true', Bool.not_eq_false', Bool.and_eq_true, Bool.or_eq_false_iff, decide_eq_true_eq, decide_eq_false_iff_not] at hy) <;> simp (disch := first | rfl | omega | exact lt_new _ | assumption | decide | (simp [tk_here, tk_app, tk_0, tk_S, gr_here, gr_app, gr_0, gr_S] <;> omega) | fail) only [l19_20, r19_15, r19_16, r19_17, r19_19, t0, t1, t2, t42, t43, t44, t9, t10, t12, t48, t49, t50, t13, ha2, hlt', hjt', hjtt', q1, go_sem, ↓reduceIte, Nat.reduceLT, Nat.reduceEqDiff, Nat.reduceAdd, Nat.reduceMul, Nat.reduceSub, Int.reduceAdd, Int.reduceSub, Nat.reduceLeDiff, Int.reduceLT, Int.reduceLE, Int.reduceEq, Int.reduceNeg, Int.reduceToNat, hy])
        exact ⟨_, by omega, j + 1, rfl, hjt, rfl, by rw [hw1]⟩
    · obtain rfl : j = t.length := by omega
      rw [hfx] at t13
      have hb1 : bstP f u (k + 1) = if f (inE.at u k) > (bstP f u k).1 then (f (inE.at u k), inE.at u k) else bstP f u k := rfl
      by_cases q1 : (bstP f u k).1 < f (inE.at u k)
      · rw [if_pos q1] at hb1
        simp (disch := first | rfl | omega | exact lt_new _ | assumption | decide | (simp [tk_here, tk_app, tk_0, tk_S, gr_here, gr_app, gr_0, gr_S] <;> omega) | fail) only [l19_20, r19_15, r19_21, r19_22, r19_23, t0, t1, t2, t42, t43, t44, t9, t10, t12, t48, t49, t50, t13, ha2, hlt', Int.lt_irrefl, q1, go_sem, ↓reduceIte, Nat.reduceLT, Nat.reduceEqDiff, Nat.reduceAdd, Nat.reduceMul, Nat.reduceSub, Int.reduceAdd, Int.reduceSub, Nat.reduceLeDiff, Int.reduceLT, Int.reduceLE, Int.reduceEq, Int.reduceNeg, Int.reduceToNat]
        repeat' ((first | refine guardB_dec (fun hy => ?_) (fun hy => ?_) | refine guardB_bool (fun hy => ?_) (fun hy => ?_) | refine guardQ_ite (fun hy => ?_) (fun hy => ?_) | refine brQ_dec (fun hy => ?_) (fun hy => ?_) | refine brQ_bool (fun hy => ?_) (fun hy => ?_)) <;> (try simp only [Bool.not_eq_true', Bool.not_eq_false', Bool.and_eq_true, Bool.or_eq_false_iff, decide_eq_true_eq, decide_eq_false_iff_not] at hy) <;> simp (disch := first | rfl | omega | exact lt_new _ | assumption | decide | (simp [tk_here, tk_app, tk_0, tk_S, gr_here, gr_app, gr_0, gr_S] <;> omega) | fail) only [l19_20, r19_15, r19_21, r19_22, r19_23, t0, t1, t2, t42, t43, t44, t9, t10, t12, t48, t49, t50, t13, ha2, hlt', Int.lt_irrefl, q1, go_sem, ↓reduceIte, Nat.reduceLT, Nat.reduceEqDiff, Nat.reduceAdd, Nat.reduceMul, Nat.reduceSub, Int.reduceAdd, Int.reduceSub, Nat.reduceLeDiff, Int.reduceLT, Int.reduceLE, Int.reduceEq, Int.reduceNeg, Int.reduceToNat, hy])
        exact ⟨_, by omega, k + 1, rfl, hlt, rfl, by rw [hb1], by rw [hb1]⟩
      · rw [if_neg q1] at hb1
        simp (disch := first | rfl | omega | exact lt_new _ | assumption | decide | (simp [tk_here, tk_app, tk_0, tk_S, gr_here, gr_app, gr_0, gr_S] <;> omega) | fail) only [l19_20, r19_15, r19_21, r19_23, t0, t1, t2, t42, t43, t44, t9, t10, t12, t48, t49, t50, t13, ha2, hlt', Int.lt_irrefl, q1, go_sem, ↓reduceIte, Nat.reduceLT, Nat.reduceEqDiff, Nat.reduceAdd, Nat.reduceMul, Nat.reduceSub, Int.reduceAdd, Int.reduceSub, Nat.reduceLeDiff, Int.reduceLT, Int.reduceLE, Int.reduceEq, Int.reduceNeg, Int.reduceToNat]
        repeat' ((first | refine guardB_dec (fun hy => ?_) (fun hy => ?_) | refine guardB_bool (fun hy => ?_) (fun hy => ?_) | refine guardQ_ite (fun hy => ?_) (fun hy => ?_) | refine brQ_dec (fun hy => ?_) (fun hy => ?_) | refine brQ_bool (fun hy => ?_) (fun hy => ?_)) <;> (try simp only [Bool.not_eq_true', Bool.not_eq_false', Bool.and_eq_true, Bool.or_eq_false_iff, decide_eq_true_eq, decide_eq_false_iff_not] at hy) <;> simp (disch := first | rfl | omega | exact lt_new _ | assumption | decide | (simp [tk_here, tk_app, tk_0, tk_S, gr_here, gr_app, gr_0, gr_S] <;> omega) | fail) only [l19_20, r19_15, r19_21, r19_23, t0, t1, t2, t42, t43, t44, t9, t10, t12, t48, t49, t50, t13, ha2, hlt', Int.lt_irrefl, q1, go_sem, ↓reduceIte, Nat.reduceLT, Nat.reduceEqDiff, Nat.reduceAdd, Nat.reduceMul, Nat.reduceSub, Int.reduceAdd, Int.reduceSub, Nat.reduceLeDiff, Int.reduceLT, Int.reduceLE, Int.reduceEq, Int.reduceNeg, Int.reduceToNat, hy])
        exact ⟨_, by omega, k + 1, rfl, hlt, rfl, by rw [hb1], by rw [hb1]⟩
  · obtain rfl : k = t.length := by omega
    simp (disch := first | rfl | omega | exact lt_new _ | assumption | decide | (simp [tk_here, tk_app, tk_0, tk_S, gr_here, gr_app, gr_0, gr_S] <;> omega) | fail) only [l19_24, r19_11, r19_25, rs19, gc19, t0, t1, t2, t42, t43, t44, t9, t10, ha2, Int.lt_irrefl, go_sem, ↓reduceIte, Nat.reduceLT, Nat.reduceEqDiff, Nat.reduceAdd, Nat.reduceMul, Nat.reduceSub, Int.reduceAdd, Int.reduceSub, Nat.reduceLeDiff, Int.reduceLT, Int.reduceLE, Int.reduceEq, Int.reduceNeg, Int.reduceToNat]
    repeat' ((first | refine guardB_dec (fun hy => ?_) (fun hy => ?_) | refine guardB_bool (fun hy => ?_) (fun hy => ?_) | refine guardQ_ite (fun hy => ?_) (fun hy => ?_) | refine brQ_dec (fun hy => ?_) (fun hy => ?_) | refine brQ_bool (fun hy => ?_) (fun hy => ?_)) <;> (try simp only [Bool.not_eq_true', Bool.not_eq_false', Bool.and_eq_true, Bool.or_eq_false_iff, decide_eq_true_eq, decide_eq_false_iff_not] at hy) <;> simp (disch := first | rfl | omega | exact lt_new _ | assumption | decide | (simp [tk_here, tk_app, tk_0, tk_S, gr_here, gr_app, gr_0, gr_S] <;> omega) | fail) only [l19_24, r19_11, r19_25, rs19, gc19, t0, t1, t2, t42, t43, t44, t9, t10, ha2, Int.lt_irrefl, go_sem, ↓reduceIte, Nat.reduceLT, Nat.reduceEqDiff, Nat.reduceAdd, Nat.reduceMul, Nat.reduceSub, Int.reduceAdd, Int.reduceSub, Nat.reduceLeDiff, Int.reduceLT, Int.reduceLE, Int.reduceEq, Int.reduceNeg, Int.reduceToNat, hy])
    all_goals (try ((first | refine finQ_same ?_ | refine finQ_app ?_ | (rw [List.append_assoc]; refine finQ_app ?_)) <;> simp (disch := first | rfl | omega | exact lt_new _ | assumption | decide | (simp [tk_here, tk_app, tk_0, tk_S, gr_here, gr_app, gr_0, gr_S] <;> omega) | fail) only [go_sem, ↓reduceIte, Nat.reduceLT, Nat.reduceEqDiff, Nat.reduceAdd, Nat.reduceMul, Nat.reduceSub, Int.reduceAdd, Int.reduceSub, Nat.reduceLeDiff, Int.reduceLT, Int.reduceLE, Int.reduceEq, Int.reduceNeg, Int.reduceToNat, List.append_assoc, List.cons_append, List.nil_append, *]))
    all_goals (try first | rfl | (simp [*]; done) | grind)
theorem fn5 (bt bs : Bool) (t s : List Int) (w : Int) (h1 : t.length ≤ 2 ^ 47) (h2 : s.length ≤ 2 ^ 47) (H : Hp) : callL Tryz.prog pr 5 [slV bt inE t, slV bs inE s, .int .i64 w] H = some (.bool true, H) := by
  have h19 := fn19 bt bs t s w (by omega) (by omega)
  have h20 := fn20 bt bs t s w (by omega) (by omega)
  have hk := known_call
  obtain ⟨r, hr⟩ : ∃ r, burF t s w = r := ⟨_, rfl⟩
  rw [hr] at h19 h20
  refine run5 (Nat.le_of_ble_eq_true rfl) ?_
  by_cases ha : (20000 : Int) < t.length + s.length
  · skip
    simp (disch := first | rfl | omega | exact lt_new _ | assumption | decide | (simp [tk_here, tk_app, tk_0, tk_S, gr_here, gr_app, gr_0, gr_S] <;> omega) | fail) only [r5_0, r5_1, r5_2, r5_3, r5_4, r5_5, c5, rs5, gc5, ha, hk, go_sem, ↓reduceIte, Nat.reduceLT, Nat.reduceEqDiff, Nat.reduceAdd, Nat.reduceMul, Nat.reduceSub, Int.reduceAdd, Int.reduceSub, Nat.reduceLeDiff, Int.reduceLT, Int.reduceLE, Int.reduceEq, Int.reduceNeg, Int.reduceToNat]
    repeat' ((first | refine guardB_dec (fun hy => ?_) (fun hy => ?_) | refine guardB_bool (fun hy => ?_) (fun hy => ?_) | refine guardQ_ite (fun hy => ?_) (fun hy => ?_) | refine brQ_dec (fun hy => ?_) (fun hy => ?_) | refine brQ_bool (fun hy => ?_) (fun hy => ?_)) <;> (try simp only [Bool.not_eq_true', Bool.not_eq_false', Bool.and_eq_true, Bool.or_eq_false_iff, decide_eq_true_eq, decide_eq_false_iff_not] at hy) <;> simp (disch := first | rfl | omega | exact lt_new _ | assumption | decide | (simp [tk_here, tk_app, tk_0, tk_S, gr_here, gr_app, gr_0, gr_S] <;> omega) | fail) only [r5_0, r5_1, r5_2, r5_3, r5_4, r5_5, c5, rs5, gc5, ha, hk, go_sem, ↓reduceIte, Nat.reduceLT, Nat.reduceEqDiff, Nat.reduceAdd, Nat.reduceMul, Nat.reduceSub, Int.reduceAdd, Int.reduceSub, Nat.reduceLeDiff, Int.reduceLT, Int.reduceLE, Int.reduceEq, Int.reduceNeg, Int.reduceToNat, hy])
    all_goals (try ((first | refine finQ_same ?_ | refine finQ_app ?_ | (rw [List.append_assoc]; refine finQ_app ?_)) <;> simp (disch := first | rfl | omega | exact lt_new _ | assumption | decide | (simp [tk_here, tk_app, tk_0, tk_S, gr_here, gr_app, gr_0, gr_S] <;> omega) | fail) only [go_sem, ↓reduceIte, Nat.reduceLT, Nat.reduceEqDiff, Nat.reduceAdd, Nat.reduceMul, Nat.reduceSub, Int.reduceAdd, Int.reduceSub, Nat.reduceLeDiff, Int.reduceLT, Int.reduceLE, Int.reduceEq, Int.reduceNeg, Int.reduceToNat, List.append_assoc, List.cons_append, List.nil_append, *]))
    all_goals (try first | rfl | (simp [*]; done) | grind)
  simp (disch := first | rfl | omega | exact lt_new _ | assumption | decide | (simp [tk_here, tk_app, tk_0, tk_S, gr_here, gr_app, gr_0, gr_S] <;> omega) | fail) only [r5_0, r5_1, r5_2, r5_3, r5_4, r5_5, c5, rs5, gc5, ha, h19, h20, hk, go_sem, ↓reduceIte, Nat.reduceLT, Nat.reduceEqDiff, Nat.reduceAdd, Nat.reduceMul, Nat.reduceSub, Int.reduceAdd, Int.reduceSub, Nat.reduceLeDiff, Int.reduceLT, Int.reduceLE, Int.reduceEq, Int.reduceNeg, Int.reduceToNat]
  repeat' ((first | refine guardB_dec (fun hy => ?_) (fun hy => ?_) | refine guardB_bool (fun hy => ?_) (fun hy => ?_) | refine guardQ_ite (fun hy => ?_) (fun hy => ?_) | refine brQ_dec (fun hy => ?_) (fun hy => ?_) | refine brQ_bool (fun hy => ?_) (fun hy => ?_)) <;> (try simp only [Bool.not_eq_true', Bool.not_eq_false', Bool.and_eq_true, Bool.or_eq_false_iff, decide_eq_true_eq, decide_eq_false_iff_not] at hy) <;> simp (disch := first | rfl | omega | exact lt_new _ | assumption | decide | (simp [tk_here, tk_app, tk_0, tk_S, gr_here, gr_app, gr_0, gr_S] <;> omega) | fail) only [r5_0, r5_1, r5_2, r5_3, r5_4, r5_5, c5, rs5, gc5, ha, h19, h20, hk, go_sem, ↓reduceIte, Nat.reduceLT, Nat.reduceEqDiff, Nat.reduceAdd, Nat.reduceMul, Nat.reduceSub, Int.reduceAdd, Int.reduceSub, Nat.reduceLeDiff, Int.reduceLT, Int.reduceLE, Int.reduceEq, Int.reduceNeg, Int.reduceToNat, hy])
  all_goals (try ((first | refine finQ_same ?_ | refine finQ_app ?_ | (rw [List.append_assoc]; refine finQ_app ?_)) <;> simp (disch := first | rfl | omega | exact lt_new _ | assumption | decide | (simp [tk_here, tk_app, tk_0, tk_S, gr_here, gr_app, gr_0, gr_S] <;> omega) | fail) only [go_sem, ↓reduceIte, Nat.reduceLT, Nat.reduceEqDiff, Nat.reduceAdd, Nat.reduceMul, Nat.reduceSub, Int.reduceAdd, Int.reduceSub, Nat.reduceLeDiff, Int.reduceLT, Int.reduceLE, Int.reduceEq, Int.reduceNeg, Int.reduceToNat, List.append_assoc, List.cons_append, List.nil_append, *]))
  all_goals (try first | rfl | (simp [*]; done) | grind)
end Go.Proofs.YteeofpgnjekeaaaGreatDoor
