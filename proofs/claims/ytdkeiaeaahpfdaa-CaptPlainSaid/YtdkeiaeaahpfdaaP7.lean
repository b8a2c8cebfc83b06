/-
  Texts of this seat, laid together. No statement of the seat stands here.
-/
import Derived.Test.YtdkeiaeaahpfdaaP6
/-
  The reference's Plain, walked. No statement of the seat stands here.
-/
namespace Go.Proofs.Ytdkeiaeaahpfdaa
open Go Go.An
set_option maxRecDepth 4000
set_option linter.unusedSimpArgs false
set_option linter.unusedVariables false

def plQ (l : List Pk) : List Pk := (l.filter oldB).map fun p => noN (cpk p)
def plR (c : Cp) : Cp × Int := if valE c = 0 then (⟨[], false, [{fcE.at c.faces 0 with name := []}], true, [], true, [], true, plQ c.packets⟩, 0) else (noCp, valE c)
theorem plQ_snoc {l : List Pk} {i : Nat} (h : i < l.length) : plQ (l.take (i + 1)) = if oldB (pkE.at l i) then plQ (l.take i) ++ [noN (cpk (pkE.at l i))] else plQ (l.take i) := by
  unfold plQ
  rw [pkE.take_at h, List.filter_append, List.map_append]
  by_cases hb : oldB (pkE.at l i) = true
  · simp [hb]
  · simp [hb]
theorem plQ_len (l : List Pk) : (plQ l).length ≤ l.length := by
  unfold plQ
  rw [List.length_map]
  exact List.length_filter_le _ _
theorem div_ok {a : Int} (h0 : 0 ≤ a) (h1 : a ≤ 1000000000000000000) : IntKind.i64.wrap (a.tdiv 1000000) = a / 1000000 := by
  rw [Int.tdiv_eq_ediv_of_nonneg h0]
  exact IntWalk.i64_in _ (by omega)
set_option maxHeartbeats 4000000 in
theorem fn9 (c : Cp) (hc : CpOk c) (H : Hp) : ∃ d, callL Try.prog pr 9 [.agg (cpE.f c)] H = some (.tup [.agg (cpE.f d), .int .i64 (plR c).2], H) ∧ CpEq d (plR c).1 := by
  suffices h : ∃ r, callL Try.prog pr 9 [.agg (cpE.f c)] H = some r ∧ ∃ d, r = (.tup [.agg (cpE.f d), .int .i64 (plR c).2], H) ∧ CpEq d (plR c).1 by
    obtain ⟨_, h1, d, rfl, h2⟩ := h; exact ⟨d, h1, h2⟩
  have hval := fn19 c hc
  refine ex9 (Nat.le_of_ble_eq_true rfl) ?_
  unfold plR
  by_cases hv : valE c = 0
  case neg =>
    rw [if_neg hv]
    have hy := True.intro
    repeat' (first | simp (disch := first | rfl | omega | exact lt_new _ | assumption | decide | (simp [tk_here, tk_app, tk_0, tk_S, gr_here, gr_app, gr_0, gr_S] <;> omega) | fail) only [r9_0, r9_1, r9_2, r9_3, r9_4, r9_5, r9_6, r9_7, r9_8, r9_9, r9_10, r9_11, r9_12, r9_13, r9_15, c9, rs9, gc9, loadV_ptr, storeV_ptr, List.append_assoc, List.length_append, List.length_cons, List.length_nil, List.set_cons_zero, List.set_cons_succ, tk_here, tk_app, gr_here, gr_app, st_here, st_app, hval, hv, go_sem, ↓reduceIte, Nat.reduceLT, Nat.reduceEqDiff, Nat.reduceAdd, Nat.reduceMul, Nat.reduceSub, Int.reduceAdd, Int.reduceSub, Nat.reduceLeDiff, Int.reduceLT, Int.reduceLE, Int.reduceEq, Int.reduceNeg, Int.reduceToNat, hy] | ((first | refine guardB_dec (fun hy => ?_) (fun hy => ?_) | refine guardB_bool (fun hy => ?_) (fun hy => ?_) | refine guardQ_ite (fun hy => ?_) (fun hy => ?_) | refine brQ_dec (fun hy => ?_) (fun hy => ?_) | refine brQ_bool (fun hy => ?_) (fun hy => ?_)) <;> (try simp only [Bool.not_eq_true', Bool.not_eq_false', Bool.and_eq_true, Bool.or_eq_false_iff, decide_eq_true_eq, decide_eq_false_iff_not] at hy)))
    exact ⟨noCp, finQ_app (by rw [noCp_f]; simp (disch := first | rfl | omega | exact lt_new _ | assumption | decide | (simp [tk_here, tk_app, tk_0, tk_S, gr_here, gr_app, gr_0, gr_S] <;> omega) | fail) only [go_sem, ↓reduceIte, Nat.reduceLT, Nat.reduceEqDiff, Nat.reduceAdd, Nat.reduceMul, Nat.reduceSub, Int.reduceAdd, Int.reduceSub, Nat.reduceLeDiff, Int.reduceLT, Int.reduceLE, Int.reduceEq, Int.reduceNeg, Int.reduceToNat]), CpEq.rfl' _⟩
  rw [if_pos hv]
  obtain ⟨hpf, ⟨l4, l3, l2, l1⟩, hf1⟩ := val_pk hv
  have hc0 : cpE.f c = [.str c.note, slV c.facesN fcE c.faces, slV c.namesN nmE c.names, slV c.secretsN scE c.secrets, slV c.packetsN pkE c.packets] := rfl
  obtain ⟨f, hf⟩ : ∃ f, fcE.at c.faces 0 = f := ⟨_, rfl⟩
  have p1 : ∀ H, loadV Try.prog 46 H (.ipt (flatE fcE c.faces) 0) = some (.agg (fcE.f f)) := fun H => by
    have := ld_fcE (l := c.faces) (i := 0) (H := H) hf1
    rw [hf, Nat.zero_mul] at this
    exact this
  have hf0 : (0 : Int) < c.faces.length := by omega
  have hsn : setAt (fcE.f f) 0 [.str []] = fcE.f {f with name := []} := rfl
  obtain ⟨f', hf'⟩ : ∃ f' : Fc, {f with name := []} = f' := ⟨_, rfl⟩
  rw [hf]
  rw [hf'] at hsn ⊢
  have hy := True.intro
  repeat' (first | simp (disch := first | rfl | omega | exact lt_new _ | assumption | decide | (simp [tk_here, tk_app, tk_0, tk_S, gr_here, gr_app, gr_0, gr_S] <;> omega) | fail) only [r9_0, r9_1, r9_2, r9_3, r9_4, r9_5, r9_6, r9_7, r9_8, r9_9, r9_10, r9_11, r9_12, r9_13, r9_15, c9, rs9, gc9, loadV_ptr, storeV_ptr, List.append_assoc, List.length_append, List.length_cons, List.length_nil, List.set_cons_zero, List.set_cons_succ, tk_here, tk_app, gr_here, gr_app, st_here, st_app, hval, hv, hf0, p1, hsn, go_sem, ↓reduceIte, Nat.reduceLT, Nat.reduceEqDiff, Nat.reduceAdd, Nat.reduceMul, Nat.reduceSub, Int.reduceAdd, Int.reduceSub, Nat.reduceLeDiff, Int.reduceLT, Int.reduceLE, Int.reduceEq, Int.reduceNeg, Int.reduceToNat, hy] | ((first | refine guardB_dec (fun hy => ?_) (fun hy => ?_) | refine guardB_bool (fun hy => ?_) (fun hy => ?_) | refine guardQ_ite (fun hy => ?_) (fun hy => ?_) | refine brQ_dec (fun hy => ?_) (fun hy => ?_) | refine brQ_bool (fun hy => ?_) (fun hy => ?_)) <;> (try simp only [Bool.not_eq_true', Bool.not_eq_false', Bool.and_eq_true, Bool.or_eq_false_iff, decide_eq_true_eq, decide_eq_false_iff_not] at hy)))
  refine Wp_loop (fun m T D H' => ∃ k K w, m = c.packets.length - k ∧ k ≤ c.packets.length ∧ D = [] ∧ H' = H ++ AB.row 0 (cpE.f c) true :: AB.row 0 [.str [], .nilslice, .nilslice, .nilslice, .nilslice] true :: AB.row 0 (fcE.f f') true :: AB.row 0 (fcE.f f') true :: AB.row 0 [.str [], .slice (H.length + 3) 0 0 1 3 .full, .nilslice, .nilslice, w] true :: K ∧ get T 1 = .ptr H.length 0 0 ∧ get T 2 = .ptr (H.length + 1) 0 0 ∧ get T 6 = .ptr (H.length + 4) 0 0 ∧ get T 7 = .int .i64 k ∧ RowN pkE (H.length + 5) K w (plQ (c.packets.take k))) ?_ c.packets.length _ _ _ ?_
  case refine_2 => exact ⟨0, [], .nilslice, by simp (disch := first | rfl | omega | exact lt_new _ | assumption | decide | (simp [tk_here, tk_app, tk_0, tk_S, gr_here, gr_app, gr_0, gr_S] <;> omega) | fail) only [go_sem, ↓reduceIte, Nat.reduceLT, Nat.reduceEqDiff, Nat.reduceAdd, Nat.reduceMul, Nat.reduceSub, Int.reduceAdd, Int.reduceSub, Nat.reduceLeDiff, Int.reduceLT, Int.reduceLE, Int.reduceEq, Int.reduceNeg, Int.reduceToNat]; exact ⟨Nat.zero_le _, Or.inl ⟨rfl, rfl⟩⟩⟩
  rintro m T D H' ⟨k, K, w, rfl, hk, rfl, rfl, t1, t2, t6, t7, q⟩
  obtain ⟨k21, k22, k23, k24, k25, k26, k27⟩ := q.m.cell
  by_cases hlt : k < c.packets.length
  · have hlt' : (k : Int) < c.packets.length := by omega
    have hpl := plQ_len (c.packets.take k)
    have hpl2 : (plQ (c.packets.take k)).length ≤ 2 ^ 30 := by simp at hpl; omega
    have hpk := pf_pk (hpf _ (pkE.at_mem hlt))
    obtain ⟨p, hp⟩ : ∃ p, pkE.at c.packets k = p := ⟨_, rfl⟩
    have hps := plQ_snoc hlt
    rw [hp] at hps hpk
    have hpt := hpk.1.1
    have hdv := div_ok hpt (Int.le_trans hpk.1.2 (by decide))
    have h20 := fn20 p (by omega)
    obtain ⟨y, hy0⟩ : ∃ y, cpk p = y := ⟨_, rfl⟩
    have hyt : y.time = p.time := by rw [← hy0]; rfl
    have hyf : y.face = p.face := by rw [← hy0]; rfl
    rw [hy0] at h20 hps
    have hno : setAt (pkE.f y) 4 [.str []] = pkE.f (noN y) := rfl
    have y0 : (pkE.f (noN y))[0]? = some (.int .i64 p.time) := by rw [← hyt]; rfl
    have y1 : (pkE.f (noN y))[1]? = some (.int .i64 p.face) := by rw [← hyf]; rfl
    have q' := q.app [AB.row 0 (pkE.f (noN y)) true]
    obtain ⟨w', K', ea, qa, hkp, hkl⟩ := push_row (E := pkE) (w := 5) (by_ := 64) (A := H ++ AB.row 0 (cpE.f c) true :: AB.row 0 [.str [], .nilslice, .nilslice, .nilslice, .nilslice] true :: AB.row 0 (fcE.f f') true :: AB.row 0 (fcE.f f') true :: [AB.row 0 [.str [], .slice (H.length + 3) 0 0 1 3 .full, .nilslice, .nilslice, w] true]) (by simp) rfl q' (noN y) (by omega) (by omega)
    simp only [List.append_assoc, List.cons_append, List.nil_append] at ea
    obtain ⟨j11, j12, j13, j14, j15, j16, j17⟩ := qa.m.cell
    by_cases hb : p.face = 0
    · by_cases hb2 : p.time < 4294967296000000
      · have hob : oldB p = true := by unfold oldB; simp [hb, hb2]
        rw [if_pos hob] at hps
        have hd2 : p.time / 1000000 < 4294967296 := by omega
        have hy := True.intro
        repeat' (first | simp (disch := first | rfl | omega | exact lt_new _ | assumption | decide | (simp [tk_here, tk_app, tk_0, tk_S, gr_here, gr_app, gr_0, gr_S] <;> omega) | fail) only [r9_0, r9_1, r9_2, r9_3, r9_4, r9_5, r9_6, r9_7, r9_8, r9_9, r9_10, r9_11, r9_12, r9_13, l9_14, r9_15, c9, rs9, gc9, loadV_ptr, storeV_ptr, List.append_assoc, List.length_append, List.length_cons, List.length_nil, List.set_cons_zero, List.set_cons_succ, tk_here, tk_app, gr_here, gr_app, st_here, st_app, t1, t2, t6, t7, hlt', hp, h20, y0, y1, hb, hdv, hd2, hno, ea, k21, k22, k23, k24, k25, k26, k27, j11, j12, j13, j14, j15, j16, j17, go_sem, ↓reduceIte, Nat.reduceLT, Nat.reduceEqDiff, Nat.reduceAdd, Nat.reduceMul, Nat.reduceSub, Int.reduceAdd, Int.reduceSub, Nat.reduceLeDiff, Int.reduceLT, Int.reduceLE, Int.reduceEq, Int.reduceNeg, Int.reduceToNat, hy] | ((first | refine guardB_dec (fun hy => ?_) (fun hy => ?_) | refine guardB_bool (fun hy => ?_) (fun hy => ?_) | refine guardQ_ite (fun hy => ?_) (fun hy => ?_) | refine brQ_dec (fun hy => ?_) (fun hy => ?_) | refine brQ_bool (fun hy => ?_) (fun hy => ?_)) <;> (try simp only [Bool.not_eq_true', Bool.not_eq_false', Bool.and_eq_true, Bool.or_eq_false_iff, decide_eq_true_eq, decide_eq_false_iff_not] at hy)))
        exact ⟨_, by omega, k + 1, K', w', rfl, hlt, rfl, rfl, by rw [hps]; exact qa⟩
      · have hob : oldB p = false := by unfold oldB; simp [hb2]
        rw [if_neg (by rw [hob]; decide)] at hps
        have hd2 : ¬ p.time / 1000000 < 4294967296 := by omega
        have hy := True.intro
        repeat' (first | simp (disch := first | rfl | omega | exact lt_new _ | assumption | decide | (simp [tk_here, tk_app, tk_0, tk_S, gr_here, gr_app, gr_0, gr_S] <;> omega) | fail) only [r9_0, r9_1, r9_2, r9_3, r9_4, r9_5, r9_6, r9_7, r9_8, r9_9, r9_10, r9_11, r9_12, r9_13, l9_14, r9_15, c9, rs9, gc9, loadV_ptr, storeV_ptr, List.append_assoc, List.length_append, List.length_cons, List.length_nil, List.set_cons_zero, List.set_cons_succ, tk_here, tk_app, gr_here, gr_app, st_here, st_app, t1, t2, t6, t7, hlt', hp, h20, y0, y1, hb, hdv, hd2, hno, k21, k22, k23, k24, k25, k26, k27, go_sem, ↓reduceIte, Nat.reduceLT, Nat.reduceEqDiff, Nat.reduceAdd, Nat.reduceMul, Nat.reduceSub, Int.reduceAdd, Int.reduceSub, Nat.reduceLeDiff, Int.reduceLT, Int.reduceLE, Int.reduceEq, Int.reduceNeg, Int.reduceToNat, hy] | ((first | refine guardB_dec (fun hy => ?_) (fun hy => ?_) | refine guardB_bool (fun hy => ?_) (fun hy => ?_) | refine guardQ_ite (fun hy => ?_) (fun hy => ?_) | refine brQ_dec (fun hy => ?_) (fun hy => ?_) | refine brQ_bool (fun hy => ?_) (fun hy => ?_)) <;> (try simp only [Bool.not_eq_true', Bool.not_eq_false', Bool.and_eq_true, Bool.or_eq_false_iff, decide_eq_true_eq, decide_eq_false_iff_not] at hy)))
        exact ⟨_, by omega, k + 1, K ++ [_], w, rfl, hlt, rfl, rfl, by rw [hps]; exact q.app _⟩
    · have hob : oldB p = false := by unfold oldB; simp [hb]
      rw [if_neg (by rw [hob]; decide)] at hps
      have hy := True.intro
      repeat' (first | simp (disch := first | rfl | omega | exact lt_new _ | assumption | decide | (simp [tk_here, tk_app, tk_0, tk_S, gr_here, gr_app, gr_0, gr_S] <;> omega) | fail) only [r9_0, r9_1, r9_2, r9_3, r9_4, r9_5, r9_6, r9_7, r9_8, r9_9, r9_10, r9_11, r9_12, r9_13, l9_14, r9_15, c9, rs9, gc9, loadV_ptr, storeV_ptr, List.append_assoc, List.length_append, List.length_cons, List.length_nil, List.set_cons_zero, List.set_cons_succ, tk_here, tk_app, gr_here, gr_app, st_here, st_app, t1, t2, t6, t7, hlt', hp, h20, y0, y1, hb, hno, k21, k22, k23, k24, k25, k26, k27, go_sem, ↓reduceIte, Nat.reduceLT, Nat.reduceEqDiff, Nat.reduceAdd, Nat.reduceMul, Nat.reduceSub, Int.reduceAdd, Int.reduceSub, Nat.reduceLeDiff, Int.reduceLT, Int.reduceLE, Int.reduceEq, Int.reduceNeg, Int.reduceToNat, hy] | ((first | refine guardB_dec (fun hy => ?_) (fun hy => ?_) | refine guardB_bool (fun hy => ?_) (fun hy => ?_) | refine guardQ_ite (fun hy => ?_) (fun hy => ?_) | refine brQ_dec (fun hy => ?_) (fun hy => ?_) | refine brQ_bool (fun hy => ?_) (fun hy => ?_)) <;> (try simp only [Bool.not_eq_true', Bool.not_eq_false', Bool.and_eq_true, Bool.or_eq_false_iff, decide_eq_true_eq, decide_eq_false_iff_not] at hy)))
      exact ⟨_, by omega, k + 1, K ++ [_], w, rfl, hlt, rfl, rfl, by rw [hps]; exact q.app _⟩
  · obtain rfl : k = c.packets.length := by omega
    rw [List.take_length] at q
    have hy := True.intro
    repeat' (first | simp (disch := first | rfl | omega | exact lt_new _ | assumption | decide | (simp [tk_here, tk_app, tk_0, tk_S, gr_here, gr_app, gr_0, gr_S] <;> omega) | fail) only [r9_0, r9_1, r9_2, r9_3, r9_4, r9_5, r9_6, r9_7, r9_8, r9_9, r9_10, r9_11, r9_12, r9_13, r9_15, c9, rs9, gc9, l9_14, loadV_ptr, storeV_ptr, List.append_assoc, List.length_append, List.length_cons, List.length_nil, List.set_cons_zero, List.set_cons_succ, tk_here, tk_app, gr_here, gr_app, st_here, st_app, t1, t2, t6, t7, Int.lt_irrefl, k21, k22, k23, k24, k25, k26, k27, go_sem, ↓reduceIte, Nat.reduceLT, Nat.reduceEqDiff, Nat.reduceAdd, Nat.reduceMul, Nat.reduceSub, Int.reduceAdd, Int.reduceSub, Nat.reduceLeDiff, Int.reduceLT, Int.reduceLE, Int.reduceEq, Int.reduceNeg, Int.reduceToNat, hy] | ((first | refine guardB_dec (fun hy => ?_) (fun hy => ?_) | refine guardB_bool (fun hy => ?_) (fun hy => ?_) | refine guardQ_ite (fun hy => ?_) (fun hy => ?_) | refine brQ_dec (fun hy => ?_) (fun hy => ?_) | refine brQ_bool (fun hy => ?_) (fun hy => ?_)) <;> (try simp only [Bool.not_eq_true', Bool.not_eq_false', Bool.and_eq_true, Bool.or_eq_false_iff, decide_eq_true_eq, decide_eq_false_iff_not] at hy)))
    have r1 : RowM fcE (H.length + 3) (AB.row 0 (fcE.f f') true :: []) (.slice (H.length + 3) 0 0 1 3 .full) [f'] := Or.inr ⟨0, 0, by rfl, by simp, by simp [getRow, flatE]⟩
    obtain ⟨b1, i1⟩ := RowM.inl (f := 6) (A := H ++ AB.row 0 (cpE.f c) true :: AB.row 0 [.str [], .slice (H.length + 3) 0 0 1 3 .full, .nilslice, .nilslice, w] true :: [AB.row 0 (fcE.f f') true]) (m := H.length) (r1.app (AB.row 0 [.str [], .slice (H.length + 3) 0 0 1 3 .full, .nilslice, .nilslice, w] true :: K)) (by simp) (by omega)
    obtain ⟨b4, i4⟩ := RowM.inl (f := 6) (A := H ++ AB.row 0 (cpE.f c) true :: AB.row 0 [.str [], .slice (H.length + 3) 0 0 1 3 .full, .nilslice, .nilslice, w] true :: AB.row 0 (fcE.f f') true :: AB.row 0 (fcE.f f') true :: [AB.row 0 [.str [], .slice (H.length + 3) 0 0 1 3 .full, .nilslice, .nilslice, w] true]) (m := H.length) q.m (by simp) (by omega)
    simp only [List.append_assoc, List.cons_append, List.nil_append, cpE_f] at i1 i4
    refine ⟨⟨[], b1, [f'], true, [], true, [], b4, plQ c.packets⟩, finQ_app ?_, rfl, rfl, rfl, rfl, rfl⟩
    simp (disch := first | rfl | omega | exact lt_new _ | assumption | decide | (simp [tk_here, tk_app, tk_0, tk_S, gr_here, gr_app, gr_0, gr_S] <;> omega) | fail) only [go_sem, ↓reduceIte, Nat.reduceLT, Nat.reduceEqDiff, Nat.reduceAdd, Nat.reduceMul, Nat.reduceSub, Int.reduceAdd, Int.reduceSub, Nat.reduceLeDiff, Int.reduceLT, Int.reduceLE, Int.reduceEq, Int.reduceNeg, Int.reduceToNat, i1, i4, cpE_f, slV_nil]
end Go.Proofs.Ytdkeiaeaahpfdaa
/-
  Numbers as bytes, walked: that they are some bytes, as many as told. No statement of the seat stands here.
-/
namespace Go.Proofs.Ytdkeiaeaahpfdaa
open Go Go.An
set_option maxRecDepth 4000
set_option linter.unusedSimpArgs false
set_option linter.unusedVariables false

theorem b_shr (x y : Int) (hy : 0 ≤ y) : binV Try.prog .shr 3 (.int .i64 x) (.int .i64 y) = some (.int .i64 (x.fdiv (2 ^ min y.toNat 64))) := by
  simp [binV, shiftV, intV, hy, IntKind.bits]
theorem u8_ex (y : Int) : ∃ b : UInt8, IntKind.wrap .u8 y = (b.toNat : Int) := by
  have h : IntKind.wrap .u8 y = y % 256 := rfl
  refine ⟨UInt8.ofNat (y % 256).toNat, ?_⟩
  rw [h, UInt8.toNat_ofNat']
  omega
theorem rep_byte (n : Nat) : repeatV [V.int .u8 0] n = flatE byE (List.replicate n 0) := by
  induction n with
  | zero => rfl
  | succ n ih => rw [List.replicate_succ]; simp only [repeatV, ih, flatE, List.map_cons, List.flatten_cons]; rfl
theorem mk34 {w : Nat} {H : Hp} (h : w ≤ 8) : makeSliceV Try.prog 34 H (.int .i64 (w : Int)) (.int .i64 (w : Int)) = some (.slice H.length 0 0 w 1 .full, H ++ [.row 0 (flatE byE (List.replicate w 0)) true]) := by
  unfold makeSliceV
  rw [u34]
  simp only [z5, y5, o5, Option.bind_some]
  rw [if_pos ⟨by decide, rfl, rfl, by omega, by omega, by omega, by omega⟩, Int.toNat_natCast]
  show some (_, H ++ [AB.row 0 (repeatV [V.int .u8 0] w) true]) = _
  rw [rep_byte]
theorem set_byte {l : List UInt8} {k : Nat} (hk : k < l.length) (b : UInt8) : setAt (flatE byE l) (k * 1) [.int .u8 (b.toNat : Int)] = flatE byE (l.set k b) := by
  have := flatE_set (E := byE) (l := l) (i := k) (j := 0) (v := .int .u8 (b.toNat : Int)) (a := b) hk (by decide) rfl
  rw [show byE.w = 1 from rfl, Nat.add_zero] at this
  exact this
theorem fn81 (n : Int) {w : Nat} (hw : w ≤ 8) (H : Hp) : ∃ l : List UInt8, l.length = w ∧ callL Try.prog pr 81 [.agg [], .int .i64 n, .int .i64 w] H = some (.slice H.length 0 0 w 1 .full, H ++ [.row 0 (flatE byE l) true]) := by
  suffices h : ∃ r, callL Try.prog pr 81 [.agg [], .int .i64 n, .int .i64 w] H = some r ∧ ∃ l : List UInt8, l.length = w ∧ r = (.slice H.length 0 0 w 1 .full, H ++ [.row 0 (flatE byE l) true]) by
    obtain ⟨_, h1, l, h2, rfl⟩ := h; exact ⟨l, h2, h1⟩
  refine ex81 (Nat.le_of_ble_eq_true rfl) ?_
  have hmk := fun H => mk34 (w := w) (H := H) hw
  have hy := True.intro
  repeat' (first | simp (disch := first | rfl | omega | exact lt_new _ | assumption | decide | (simp [tk_here, tk_app, tk_0, tk_S, gr_here, gr_app, gr_0, gr_S] <;> omega) | fail) only [r81_0, r81_1, r81_2, r81_3, r81_4, r81_5, r81_6, r81_8, c81, rs81, gc81, loadV_ptr, storeV_ptr, List.append_assoc, List.length_append, List.length_cons, List.length_nil, List.set_cons_zero, List.set_cons_succ, tk_here, tk_app, gr_here, gr_app, st_here, st_app, hmk, go_sem, ↓reduceIte, Nat.reduceLT, Nat.reduceEqDiff, Nat.reduceAdd, Nat.reduceMul, Nat.reduceSub, Int.reduceAdd, Int.reduceSub, Nat.reduceLeDiff, Int.reduceLT, Int.reduceLE, Int.reduceEq, Int.reduceNeg, Int.reduceToNat, hy] | ((first | refine guardB_dec (fun hy => ?_) (fun hy => ?_) | refine guardB_bool (fun hy => ?_) (fun hy => ?_) | refine guardQ_ite (fun hy => ?_) (fun hy => ?_) | refine brQ_dec (fun hy => ?_) (fun hy => ?_) | refine brQ_bool (fun hy => ?_) (fun hy => ?_)) <;> (try simp only [Bool.not_eq_true', Bool.not_eq_false', Bool.and_eq_true, Bool.or_eq_false_iff, decide_eq_true_eq, decide_eq_false_iff_not] at hy)))
  refine Wp_loop (fun m T D H' => ∃ k l, m = w - k ∧ k ≤ w ∧ l.length = w ∧ D = [] ∧ H' = H ++ [AB.row 0 (flatE byE l) true] ∧ get T 1 = .int .i64 n ∧ get T 7 = .slice H.length 0 0 w 1 .full ∧ get T 12 = .int .i64 w ∧ get T 13 = .int .i64 k) ?_ w _ _ _ ?_
  case refine_2 => exact ⟨0, List.replicate w 0, by simp (disch := first | rfl | omega | exact lt_new _ | assumption | decide | (simp [tk_here, tk_app, tk_0, tk_S, gr_here, gr_app, gr_0, gr_S] <;> omega) | fail) only [go_sem, ↓reduceIte, Nat.reduceLT, Nat.reduceEqDiff, Nat.reduceAdd, Nat.reduceMul, Nat.reduceSub, Int.reduceAdd, Int.reduceSub, Nat.reduceLeDiff, Int.reduceLT, Int.reduceLE, Int.reduceEq, Int.reduceNeg, Int.reduceToNat]; simp⟩
  rintro m T D H' ⟨k, l, rfl, hk, hl, rfl, rfl, t1, t7, t12, t13⟩
  by_cases hlt : k < w
  · have hlt' : (k : Int) < w := by omega
    have hsh := fun x (y : Nat) => b_shr x (y : Int) (by omega)
    have h8 : (8 : Int) * (k : Int) = ((8 * k : Nat) : Int) := by omega
    obtain ⟨b, hb⟩ := u8_ex (n.fdiv (2 ^ min (8 * k) 64))
    have hset := set_byte (l := l) (k := k) (by omega) b
    have hfl : (flatE byE l).length = w := by rw [flatE_len, hl]; exact Nat.mul_one _
    have hle : k * 1 + 1 ≤ w := by omega
    have hy := True.intro
    repeat' (first | simp (disch := first | rfl | omega | exact lt_new _ | assumption | decide | (simp [tk_here, tk_app, tk_0, tk_S, gr_here, gr_app, gr_0, gr_S] <;> omega) | fail) only [r81_0, r81_1, r81_2, r81_3, r81_4, r81_5, r81_6, l81_7, r81_8, c81, rs81, gc81, loadV_ptr, storeV_ptr, List.append_assoc, List.length_append, List.length_cons, List.length_nil, List.set_cons_zero, List.set_cons_succ, tk_here, tk_app, gr_here, gr_app, st_here, st_app, t1, t7, t12, t13, hlt', h8, hsh, hb, hset, hfl, hle, go_sem, ↓reduceIte, Nat.reduceLT, Nat.reduceEqDiff, Nat.reduceAdd, Nat.reduceMul, Nat.reduceSub, Int.reduceAdd, Int.reduceSub, Nat.reduceLeDiff, Int.reduceLT, Int.reduceLE, Int.reduceEq, Int.reduceNeg, Int.reduceToNat, hy] | ((first | refine guardB_dec (fun hy => ?_) (fun hy => ?_) | refine guardB_bool (fun hy => ?_) (fun hy => ?_) | refine guardQ_ite (fun hy => ?_) (fun hy => ?_) | refine brQ_dec (fun hy => ?_) (fun hy => ?_) | refine brQ_bool (fun hy => ?_) (fun hy => ?_)) <;> (try simp only [Bool.not_eq_true', Bool.not_eq_false', Bool.and_eq_true, Bool.or_eq_false_iff, decide_eq_true_eq, decide_eq_false_iff_not] at hy)))
    exact ⟨_, by omega, k + 1, l.set k b, rfl, hlt, by simp [hl], rfl, rfl⟩
  · obtain rfl : k = w := by omega
    have hy := True.intro
    repeat' (first | simp (disch := first | rfl | omega | exact lt_new _ | assumption | decide | (simp [tk_here, tk_app, tk_0, tk_S, gr_here, gr_app, gr_0, gr_S] <;> omega) | fail) only [r81_0, r81_1, r81_2, r81_3, r81_4, r81_5, r81_6, l81_7, r81_8, c81, rs81, gc81, loadV_ptr, storeV_ptr, List.append_assoc, List.length_append, List.length_cons, List.length_nil, List.set_cons_zero, List.set_cons_succ, tk_here, tk_app, gr_here, gr_app, st_here, st_app, t1, t7, t12, t13, Int.lt_irrefl, go_sem, ↓reduceIte, Nat.reduceLT, Nat.reduceEqDiff, Nat.reduceAdd, Nat.reduceMul, Nat.reduceSub, Int.reduceAdd, Int.reduceSub, Nat.reduceLeDiff, Int.reduceLT, Int.reduceLE, Int.reduceEq, Int.reduceNeg, Int.reduceToNat, hy] | ((first | refine guardB_dec (fun hy => ?_) (fun hy => ?_) | refine guardB_bool (fun hy => ?_) (fun hy => ?_) | refine guardQ_ite (fun hy => ?_) (fun hy => ?_) | refine brQ_dec (fun hy => ?_) (fun hy => ?_) | refine brQ_bool (fun hy => ?_) (fun hy => ?_)) <;> (try simp only [Bool.not_eq_true', Bool.not_eq_false', Bool.and_eq_true, Bool.or_eq_false_iff, decide_eq_true_eq, decide_eq_false_iff_not] at hy)))
    exact ⟨l, hl, rfl⟩
theorem fn84 (l : List UInt8) (hw : l.length ≤ 8) (G : Hp) : ∃ v, ∃ l' : List UInt8, l'.length = l.length ∧ callL Try.prog pr 84 [.slice G.length 0 0 l.length 1 .full] (G ++ [.row 0 (flatE byE l) true]) = some (v, G ++ [.row 0 (flatE byE l') true]) := by
  suffices h : ∃ r, callL Try.prog pr 84 [.slice G.length 0 0 l.length 1 .full] (G ++ [.row 0 (flatE byE l) true]) = some r ∧ ∃ v, ∃ l' : List UInt8, l'.length = l.length ∧ r = (v, G ++ [.row 0 (flatE byE l') true]) by
    obtain ⟨_, h1, v, l', h2, rfl⟩ := h; exact ⟨v, l', h2, h1⟩
  refine ex84 (Nat.le_of_ble_eq_true rfl) ?_
  obtain ⟨w, hlw⟩ : ∃ w, l.length = w := ⟨_, rfl⟩
  rw [hlw] at hw ⊢
  have hy := True.intro
  repeat' (first | simp (disch := first | rfl | omega | exact lt_new _ | assumption | decide | (simp [tk_here, tk_app, tk_0, tk_S, gr_here, gr_app, gr_0, gr_S] <;> omega) | fail) only [r84_0, r84_1, r84_2, r84_3, c84, rs84, gc84, loadV_ptr, storeV_ptr, List.append_assoc, List.length_append, List.length_cons, List.length_nil, List.set_cons_zero, List.set_cons_succ, tk_here, tk_app, gr_here, gr_app, st_here, st_app, go_sem, ↓reduceIte, Nat.reduceLT, Nat.reduceEqDiff, Nat.reduceAdd, Nat.reduceMul, Nat.reduceSub, Int.reduceAdd, Int.reduceSub, Nat.reduceLeDiff, Int.reduceLT, Int.reduceLE, Int.reduceEq, Int.reduceNeg, Int.reduceToNat, hy] | ((first | refine guardB_dec (fun hy => ?_) (fun hy => ?_) | refine guardB_bool (fun hy => ?_) (fun hy => ?_) | refine guardQ_ite (fun hy => ?_) (fun hy => ?_) | refine brQ_dec (fun hy => ?_) (fun hy => ?_) | refine brQ_bool (fun hy => ?_) (fun hy => ?_)) <;> (try simp only [Bool.not_eq_true', Bool.not_eq_false', Bool.and_eq_true, Bool.or_eq_false_iff, decide_eq_true_eq, decide_eq_false_iff_not] at hy)))
  refine Wp_loop (fun m T D H' => ∃ k l', m = w - k ∧ k ≤ w ∧ l'.length = w ∧ D = [] ∧ H' = G ++ [AB.row 0 (flatE byE l') true] ∧ get T 0 = .slice G.length 0 0 w 1 .full ∧ get T 2 = .int .i64 k ∧ get T 3 = .int .i64 ((w : Int) - 1 - k)) ?_ w _ _ _ ?_
  case refine_2 => exact ⟨0, l, by simp (disch := first | rfl | omega | exact lt_new _ | assumption | decide | (simp [tk_here, tk_app, tk_0, tk_S, gr_here, gr_app, gr_0, gr_S] <;> omega) | fail) only [go_sem, ↓reduceIte, Nat.reduceLT, Nat.reduceEqDiff, Nat.reduceAdd, Nat.reduceMul, Nat.reduceSub, Int.reduceAdd, Int.reduceSub, Nat.reduceLeDiff, Int.reduceLT, Int.reduceLE, Int.reduceEq, Int.reduceNeg, Int.reduceToNat]; simp [hlw]⟩
  rintro m T D H' ⟨k, l', rfl, hk, hl, rfl, rfl, t0, t2, t3⟩
  by_cases hlt : (k : Int) < (w : Int) - 1 - k
  · obtain ⟨j, hj⟩ : ∃ j : Nat, (w : Int) - 1 - k = j := ⟨w - 1 - k, by omega⟩
    rw [hj] at t3 hlt
    have hkw : k < l'.length := by omega
    have hjw : j < l'.length := by omega
    have q1 : partV Try.prog 5 (flatE byE l') (j * 1) = some (.int .u8 ((byE.at l' j).toNat : Int)) := lq_cell0 (E := byE) (l := l') (t := 5) (w := 1) (i := j) g5 rfl hjw
    have q2 : partV Try.prog 5 (flatE byE l') (k * 1) = some (.int .u8 ((byE.at l' k).toNat : Int)) := lq_cell0 (E := byE) (l := l') (t := 5) (w := 1) (i := k) g5 rfl hkw
    have hset := set_byte hkw (byE.at l' j)
    have hset2 := set_byte (l := l'.set k (byE.at l' j)) (k := j) (by simpa using hjw) (byE.at l' k)
    have hfl : (flatE byE l').length = w := by rw [flatE_len, hl]; exact Nat.mul_one _
    have hfl2 : (flatE byE (l'.set k (byE.at l' j))).length = w := by rw [flatE_len, List.length_set, hl]; exact Nat.mul_one _
    have hle : k * 1 + 1 ≤ w := by omega
    have hle2 : j * 1 + 1 ≤ w := by omega
    have hy := True.intro
    repeat' (first | simp (disch := first | rfl | omega | exact lt_new _ | assumption | decide | (simp [tk_here, tk_app, tk_0, tk_S, gr_here, gr_app, gr_0, gr_S] <;> omega) | fail) only [r84_0, r84_1, r84_2, r84_3, l84_4, c84, rs84, gc84, loadV_ptr, storeV_ptr, List.append_assoc, List.length_append, List.length_cons, List.length_nil, List.set_cons_zero, List.set_cons_succ, tk_here, tk_app, gr_here, gr_app, st_here, st_app, t0, t2, t3, hlt, q1, q2, hset, hset2, hfl, hfl2, hle, hle2, go_sem, ↓reduceIte, Nat.reduceLT, Nat.reduceEqDiff, Nat.reduceAdd, Nat.reduceMul, Nat.reduceSub, Int.reduceAdd, Int.reduceSub, Nat.reduceLeDiff, Int.reduceLT, Int.reduceLE, Int.reduceEq, Int.reduceNeg, Int.reduceToNat, hy] | ((first | refine guardB_dec (fun hy => ?_) (fun hy => ?_) | refine guardB_bool (fun hy => ?_) (fun hy => ?_) | refine guardQ_ite (fun hy => ?_) (fun hy => ?_) | refine brQ_dec (fun hy => ?_) (fun hy => ?_) | refine brQ_bool (fun hy => ?_) (fun hy => ?_)) <;> (try simp only [Bool.not_eq_true', Bool.not_eq_false', Bool.and_eq_true, Bool.or_eq_false_iff, decide_eq_true_eq, decide_eq_false_iff_not] at hy)))
    exact ⟨_, by omega, k + 1, _, rfl, by omega, by simp [hl], rfl, rfl, by congr 1; omega⟩
  · skip
    have hy := True.intro
    repeat' (first | simp (disch := first | rfl | omega | exact lt_new _ | assumption | decide | (simp [tk_here, tk_app, tk_0, tk_S, gr_here, gr_app, gr_0, gr_S] <;> omega) | fail) only [r84_0, r84_1, r84_2, r84_3, l84_4, c84, rs84, gc84, loadV_ptr, storeV_ptr, List.append_assoc, List.length_append, List.length_cons, List.length_nil, List.set_cons_zero, List.set_cons_succ, tk_here, tk_app, gr_here, gr_app, st_here, st_app, t0, t2, t3, hlt, go_sem, ↓reduceIte, Nat.reduceLT, Nat.reduceEqDiff, Nat.reduceAdd, Nat.reduceMul, Nat.reduceSub, Int.reduceAdd, Int.reduceSub, Nat.reduceLeDiff, Int.reduceLT, Int.reduceLE, Int.reduceEq, Int.reduceNeg, Int.reduceToNat, hy] | ((first | refine guardB_dec (fun hy => ?_) (fun hy => ?_) | refine guardB_bool (fun hy => ?_) (fun hy => ?_) | refine guardQ_ite (fun hy => ?_) (fun hy => ?_) | refine brQ_dec (fun hy => ?_) (fun hy => ?_) | refine brQ_bool (fun hy => ?_) (fun hy => ?_)) <;> (try simp only [Bool.not_eq_true', Bool.not_eq_false', Bool.and_eq_true, Bool.or_eq_false_iff, decide_eq_true_eq, decide_eq_false_iff_not] at hy)))
    exact ⟨_, _, hl, rfl⟩
theorem fn83 (n : Int) {w : Nat} (hw : w ≤ 8) (H : Hp) : ∃ l : List UInt8, l.length = w ∧ callL Try.prog pr 83 [.agg [], .int .i64 n, .int .i64 w] H = some (slV false byE l, H) := by
  suffices h : ∃ r, callL Try.prog pr 83 [.agg [], .int .i64 n, .int .i64 w] H = some r ∧ ∃ l : List UInt8, l.length = w ∧ r = (slV false byE l, H) by
    obtain ⟨_, h1, l, h2, rfl⟩ := h; exact ⟨l, h2, h1⟩
  refine ex83 (Nat.le_of_ble_eq_true rfl) ?_
  obtain ⟨l, hl, e81⟩ := fn81 n hw H
  obtain ⟨v, l', hl', e84⟩ := fn84 l (by omega) H
  rw [hl] at e84 hl'
  have hy := True.intro
  repeat' (first | simp (disch := first | rfl | omega | exact lt_new _ | assumption | decide | (simp [tk_here, tk_app, tk_0, tk_S, gr_here, gr_app, gr_0, gr_S] <;> omega) | fail) only [r83_0, r83_1, r83_2, r83_3, c83, rs83, gc83, loadV_ptr, storeV_ptr, List.append_assoc, List.length_append, List.length_cons, List.length_nil, List.set_cons_zero, List.set_cons_succ, tk_here, tk_app, gr_here, gr_app, st_here, st_app, e81, e84, go_sem, ↓reduceIte, Nat.reduceLT, Nat.reduceEqDiff, Nat.reduceAdd, Nat.reduceMul, Nat.reduceSub, Int.reduceAdd, Int.reduceSub, Nat.reduceLeDiff, Int.reduceLT, Int.reduceLE, Int.reduceEq, Int.reduceNeg, Int.reduceToNat, hy] | ((first | refine guardB_dec (fun hy => ?_) (fun hy => ?_) | refine guardB_bool (fun hy => ?_) (fun hy => ?_) | refine guardQ_ite (fun hy => ?_) (fun hy => ?_) | refine brQ_dec (fun hy => ?_) (fun hy => ?_) | refine brQ_bool (fun hy => ?_) (fun hy => ?_)) <;> (try simp only [Bool.not_eq_true', Bool.not_eq_false', Bool.and_eq_true, Bool.or_eq_false_iff, decide_eq_true_eq, decide_eq_false_iff_not] at hy)))
  have hfl : (flatE byE l').length = w := by rw [flatE_len, hl']; exact Nat.mul_one _
  refine ⟨l', hl', finQ_app ?_⟩
  rw [show ∀ n H' f id g off m sz cp, inlR n H' f (V.slice id g off m sz cp) = inlB n H' f (V.slice id g off m sz cp) from fun _ _ _ _ _ _ _ _ _ => rfl, inlB_row (Nat.le_refl _) (w := 1) (cs := flatE byE l') (g := 0) (len := w) (by simp) (by rw [hfl, Nat.mul_one]) flatE_imm]
  simp (disch := first | rfl | omega | exact lt_new _ | assumption | decide | (simp [tk_here, tk_app, tk_0, tk_S, gr_here, gr_app, gr_0, gr_S] <;> omega) | fail) only [go_sem, ↓reduceIte, Nat.reduceLT, Nat.reduceEqDiff, Nat.reduceAdd, Nat.reduceMul, Nat.reduceSub, Int.reduceAdd, Int.reduceSub, Nat.reduceLeDiff, Int.reduceLT, Int.reduceLE, Int.reduceEq, Int.reduceNeg, Int.reduceToNat, slV]
  rw [if_neg (by simp), hl']
  rfl
theorem ext_row {α : Type} {E : Enc α} {n w by_ : Nat} {A K : Hp} {v : V} {l : List α} (hn : n = A.length) (hw : E.w = w) (h : RowN E n K v l) (b : Bool) (m : List α) (hb : (l.length + m.length) * by_ ≤ 2 ^ 40) (hb2 : l.length + m.length ≤ 2 ^ 40) :
    ∃ v' K', appOf w by_ (A ++ K) v (slV b E m) = some (v', A ++ K') ∧ RowN E n K' v' (l ++ m) ∧ Keep K K' (flatE E l) := by
  subst hw
  have hp := E.pos
  have hml : (flatE E m).length = m.length * E.w := flatE_len
  have hmc := flatE_cells E m
  rcases h with ⟨rfl, rfl⟩ | ⟨hne, j, g, rfl, hj, hr⟩
  · rw [List.nil_append]
    by_cases hz : m.length = 0
    · obtain rfl : m = [] := List.eq_nil_of_length_eq_zero hz
      refine ⟨.nilslice, K, ?_, Or.inl ⟨rfl, rfl⟩, fun _ _ h _ => h⟩
      unfold appOf
      rw [src_slV]
      simp only [Option.bind_some]
      rw [if_pos ⟨hml, hmc⟩, if_pos List.length_nil]
    · refine ⟨.slice (A ++ K).length 0 0 m.length E.w .full, K ++ [.row 0 (flatE E m) true], ?_, Or.inr ⟨fun h => hz (by rw [h]; rfl), K.length, 0, by rw [hn]; simp, by simp, by simp [getRow]⟩, fun i b hi _ => by rw [List.getElem?_append_left (List.getElem?_eq_some_iff.1 hi).1, hi]⟩
      unfold appOf
      rw [src_slV]
      simp only [Option.bind_some]
      rw [if_pos ⟨hml, hmc⟩, if_neg hz, if_pos (by simp at hb hb2; exact ⟨hb, hb2⟩)]
      simp
  · have hg : getRow (A ++ K) (n + j) g = some (flatE E l, true) := by
      subst hn
      unfold getRow at hr ⊢
      rwa [List.getElem?_append_right (by omega), show A.length + j - A.length = j by omega]
    have hfl : (flatE E l).length = l.length * E.w := flatE_len
    by_cases hz : m.length = 0
    · obtain rfl : m = [] := List.eq_nil_of_length_eq_zero hz
      refine ⟨_, K, ?_, Or.inr ⟨by simpa using hne, j, g, rfl, hj, by simpa using hr⟩, fun _ _ h _ => h⟩
      unfold appOf
      rw [src_slV]
      simp only [Option.bind_some]
      rw [if_pos ⟨hml, hmc⟩]
      simp only [hg, Option.bind_some]
      rw [if_pos ⟨trivial, by simpa using hb, by simpa using hb2, by omega⟩, if_pos List.length_nil]
      simp
    · have hadd : (l.length + m.length) * E.w = l.length * E.w + m.length * E.w := Nat.add_mul _ _ _
      have hmp : 0 < m.length * E.w := Nat.mul_pos (Nat.pos_of_ne_zero hz) hp
      refine ⟨.slice (n + j) (g + 1) 0 (l.length + m.length) E.w .full, K.set j (.row (g + 1) (flatE E (l ++ m)) true), ?_, Or.inr ⟨by simp [hne], j, g + 1, by simp, by simpa using hj, by simp [getRow, hj]⟩, fun i b hi hk => ?_⟩
      · unfold appOf
        rw [src_slV]
        simp only [Option.bind_some]
        rw [if_pos ⟨hml, hmc⟩]
        simp only [hg, Option.bind_some]
        rw [if_pos ⟨trivial, hb, hb2, by omega⟩, if_neg hz, if_pos trivial, if_neg (by omega), if_pos (by omega)]
        subst hn
        rw [List.set_append_right _ _ (by omega), show A.length + j - A.length = j by omega]
        simp [flatE]
      · have hne2 : j ≠ i := by
          rintro rfl
          unfold getRow at hr
          rw [hi] at hr
          cases b with
          | row g' cs o =>
            simp only at hr
            split at hr
            · injection hr with hr
              injection hr with h1 h2
              subst h1 h2
              rcases hk with hk | hk
              · have : l.length * E.w = 0 := by rw [← hfl, hk]; rfl
                have h0 : 0 < l.length := List.length_pos_iff.2 hne
                have := Nat.mul_pos h0 hp
                omega
              · exact hk _ rfl
            · cases hr
          | _ => cases hr
        rw [List.getElem?_set_ne hne2, hi]
/-- Rows that begin with a number stay. -/
def KeepI (K K' : Hp) : Prop := ∀ (i g : Nat) (x : Int) (cs : List V), K[i]? = some (AB.row g (.int .i64 x :: cs) true) → K'[i]? = some (AB.row g (.int .i64 x :: cs) true)
theorem Keep.I {K K' : Hp} {l : List UInt8} (h : Keep K K' (flatE byE l)) : KeepI K K' := by
  intro i g x cs hi
  refine h i _ hi ?_
  cases l with
  | nil => exact Or.inl rfl
  | cons b l =>
    refine Or.inr fun g' he => ?_
    injection he with _ he _
    rw [flatE_cons] at he
    injection he with he _
    cases he
end Go.Proofs.Ytdkeiaeaahpfdaa
/-
  What is written of the old kind, walked: that it is some bytes. No statement of the seat stands here.
-/
namespace Go.Proofs.Ytdkeiaeaahpfdaa
open Go Go.An
set_option maxRecDepth 4000
set_option linter.unusedSimpArgs false
set_option linter.unusedVariables false

theorem fn23 (H : Hp) : callL Try.prog pr 23 [.bool false] H = some (.ifc 78 true [], H) := by
  refine run23 (Nat.le_of_ble_eq_true rfl) ?_
  have hif : ifcV Try.prog 78 (.agg []) = some (.ifc 78 true []) := by kernel_rfl
  have hy := True.intro
  repeat' (first | simp (disch := first | rfl | omega | exact lt_new _ | assumption | decide | (simp [tk_here, tk_app, tk_0, tk_S, gr_here, gr_app, gr_0, gr_S] <;> omega) | fail) only [r23_0, r23_1, r23_2, r23_3, c23, rs23, gc23, loadV_ptr, storeV_ptr, List.append_assoc, List.length_append, List.length_cons, List.length_nil, List.set_cons_zero, List.set_cons_succ, tk_here, tk_app, gr_here, gr_app, st_here, st_app, hif, go_sem, ↓reduceIte, Nat.reduceLT, Nat.reduceEqDiff, Nat.reduceAdd, Nat.reduceMul, Nat.reduceSub, Int.reduceAdd, Int.reduceSub, Nat.reduceLeDiff, Int.reduceLT, Int.reduceLE, Int.reduceEq, Int.reduceNeg, Int.reduceToNat, hy] | ((first | refine guardB_dec (fun hy => ?_) (fun hy => ?_) | refine guardB_bool (fun hy => ?_) (fun hy => ?_) | refine guardQ_ite (fun hy => ?_) (fun hy => ?_) | refine brQ_dec (fun hy => ?_) (fun hy => ?_) | refine brQ_bool (fun hy => ?_) (fun hy => ?_)) <;> (try simp only [Bool.not_eq_true', Bool.not_eq_false', Bool.and_eq_true, Bool.or_eq_false_iff, decide_eq_true_eq, decide_eq_false_iff_not] at hy)))
  exact finQ_same (show finQ (some _) H _ by rw [finQ_some])
theorem met78 {D : Dfr} (ags : List V) (H : Hp) : metW Try.prog (callL Try.prog pr) D (.ifc 78 true []) "wireglass/capt.put" ags H = mapS D (callL Try.prog pr 83 (.agg [] :: ags.map (demK 83)) H) := metW_ifc 78 true [] ags _ (k := 83) (by kernel_rfl) (by decide) rfl
theorem fn45 {w : Nat} (hw : w ≤ 8) (b : Bool) (l : List Int) (hl : l.length ≤ 8) (A K : Hp) (v : V) (out : List UInt8) (hq : RowN byE (A.length + 1) K v out) (ho : out.length ≤ 2 ^ 20) : ∃ r v' K' out', callL Try.prog pr 45 [.ptr A.length 0 0, .int .i64 w, slV b inE l] (A ++ AB.row 0 [.ifc 78 true [], v] true :: K) = some (r, A ++ AB.row 0 [.ifc 78 true [], v'] true :: K') ∧ RowN byE (A.length + 1) K' v' out' ∧ out'.length = out.length + l.length * w ∧ KeepI K K' := by
  suffices h : ∃ x, callL Try.prog pr 45 [.ptr A.length 0 0, .int .i64 w, slV b inE l] (A ++ AB.row 0 [.ifc 78 true [], v] true :: K) = some x ∧ ∃ r v' K' out', x = (r, A ++ AB.row 0 [.ifc 78 true [], v'] true :: K') ∧ RowN byE (A.length + 1) K' v' out' ∧ out'.length = out.length + l.length * w ∧ KeepI K K' by
    obtain ⟨_, h1, r, v', K', out', rfl, h2⟩ := h; exact ⟨r, v', K', out', h1, h2⟩
  refine ex45 (Nat.le_of_ble_eq_true rfl) ?_
  have hy := True.intro
  repeat' (first | simp (disch := first | rfl | omega | exact lt_new _ | assumption | decide | (simp [tk_here, tk_app, tk_0, tk_S, gr_here, gr_app, gr_0, gr_S] <;> omega) | fail) only [r45_0, r45_1, r45_2, r45_3, r45_4, c45, rs45, gc45, loadV_ptr, storeV_ptr, List.append_assoc, List.length_append, List.length_cons, List.length_nil, List.set_cons_zero, List.set_cons_succ, tk_here, tk_app, gr_here, gr_app, st_here, st_app, go_sem, ↓reduceIte, Nat.reduceLT, Nat.reduceEqDiff, Nat.reduceAdd, Nat.reduceMul, Nat.reduceSub, Int.reduceAdd, Int.reduceSub, Nat.reduceLeDiff, Int.reduceLT, Int.reduceLE, Int.reduceEq, Int.reduceNeg, Int.reduceToNat, hy] | ((first | refine guardB_dec (fun hy => ?_) (fun hy => ?_) | refine guardB_bool (fun hy => ?_) (fun hy => ?_) | refine guardQ_ite (fun hy => ?_) (fun hy => ?_) | refine brQ_dec (fun hy => ?_) (fun hy => ?_) | refine brQ_bool (fun hy => ?_) (fun hy => ?_)) <;> (try simp only [Bool.not_eq_true', Bool.not_eq_false', Bool.and_eq_true, Bool.or_eq_false_iff, decide_eq_true_eq, decide_eq_false_iff_not] at hy)))
  refine Wp_loop (fun m T D H' => ∃ k v' K' out', m = l.length - k ∧ k ≤ l.length ∧ D = [] ∧ H' = A ++ AB.row 0 [.ifc 78 true [], v'] true :: K' ∧ get T 0 = .ptr A.length 0 0 ∧ get T 1 = .int .i64 w ∧ get T 8 = slV b inE l ∧ get T 9 = .int .i64 l.length ∧ get T 10 = .int .i64 k ∧ RowN byE (A.length + 1) K' v' out' ∧ out'.length = out.length + k * w ∧ KeepI K K') ?_ l.length _ _ _ ?_
  case refine_2 => exact ⟨0, v, K, out, by simp (disch := first | rfl | omega | exact lt_new _ | assumption | decide | (simp [tk_here, tk_app, tk_0, tk_S, gr_here, gr_app, gr_0, gr_S] <;> omega) | fail) only [go_sem, ↓reduceIte, Nat.reduceLT, Nat.reduceEqDiff, Nat.reduceAdd, Nat.reduceMul, Nat.reduceSub, Int.reduceAdd, Int.reduceSub, Nat.reduceLeDiff, Int.reduceLT, Int.reduceLE, Int.reduceEq, Int.reduceNeg, Int.reduceToNat]; simp [hq]; exact fun _ _ _ _ h => h⟩
  clear hq
  rintro m T D H' ⟨k, v', K', out', rfl, hk, rfl, rfl, t0, t1, t8, t9, t10, q, hol, hki⟩
  obtain ⟨k21, k22, k23, k24, k25, k26, k27⟩ := q.m.cell
  by_cases hlt : k < l.length
  · have hlt' : (k : Int) < l.length := by omega
    obtain ⟨x, hx⟩ : ∃ x, inE.at l k = x := ⟨_, rfl⟩
    obtain ⟨bs, hbs, e83⟩ : ∃ bs : Hp → List UInt8, (∀ H, (bs H).length = w) ∧ ∀ H, callL Try.prog pr 83 [.agg [], .int .i64 x, .int .i64 w] H = some (slV false byE (bs H), H) := ⟨fun H => (fn83 x hw H).choose, fun H => (fn83 x hw H).choose_spec.1, fun H => (fn83 x hw H).choose_spec.2⟩
    have hkw : k * w ≤ 64 := Nat.le_trans (Nat.mul_le_mul (by omega : k ≤ 8) hw) (by decide)
    obtain ⟨v2, K2, ea, qa, hkp⟩ := ext_row (E := byE) (w := 1) (by_ := 1) (A := A ++ [AB.row 0 [.ifc 78 true [], v'] true]) (K := K') (by simp) rfl q false (bs (A ++ AB.row 0 [.ifc 78 true [], v'] true :: K')) (by rw [hbs]; omega) (by rw [hbs]; omega)
    simp only [List.append_assoc, List.cons_append, List.nil_append] at ea
    obtain ⟨j11, j12, j13, j14, j15, j16, j17⟩ := qa.m.cell
    have hy := True.intro
    repeat' (first | simp (disch := first | rfl | omega | exact lt_new _ | assumption | decide | (simp [tk_here, tk_app, tk_0, tk_S, gr_here, gr_app, gr_0, gr_S] <;> omega) | fail) only [r45_0, r45_1, r45_2, r45_3, r45_4, l45_5, c45, rs45, gc45, loadV_ptr, storeV_ptr, List.append_assoc, List.length_append, List.length_cons, List.length_nil, List.set_cons_zero, List.set_cons_succ, tk_here, tk_app, gr_here, gr_app, st_here, st_app, t0, t1, t8, t9, t10, hlt', hx, met78, e83, ea, k21, k22, k23, k24, k25, k26, k27, j11, j12, j13, j14, j15, j16, j17, go_sem, ↓reduceIte, Nat.reduceLT, Nat.reduceEqDiff, Nat.reduceAdd, Nat.reduceMul, Nat.reduceSub, Int.reduceAdd, Int.reduceSub, Nat.reduceLeDiff, Int.reduceLT, Int.reduceLE, Int.reduceEq, Int.reduceNeg, Int.reduceToNat, hy] | ((first | refine guardB_dec (fun hy => ?_) (fun hy => ?_) | refine guardB_bool (fun hy => ?_) (fun hy => ?_) | refine guardQ_ite (fun hy => ?_) (fun hy => ?_) | refine brQ_dec (fun hy => ?_) (fun hy => ?_) | refine brQ_bool (fun hy => ?_) (fun hy => ?_)) <;> (try simp only [Bool.not_eq_true', Bool.not_eq_false', Bool.and_eq_true, Bool.or_eq_false_iff, decide_eq_true_eq, decide_eq_false_iff_not] at hy)))
    exact ⟨_, by omega, k + 1, v2, K2, _, rfl, hlt, rfl, rfl, qa, by rw [List.length_append, hbs, hol, Nat.add_mul]; omega, fun i g x cs h => hkp.I i g x cs (hki i g x cs h)⟩
  · obtain rfl : k = l.length := by omega
    have hy := True.intro
    repeat' (first | simp (disch := first | rfl | omega | exact lt_new _ | assumption | decide | (simp [tk_here, tk_app, tk_0, tk_S, gr_here, gr_app, gr_0, gr_S] <;> omega) | fail) only [r45_0, r45_1, r45_2, r45_3, r45_4, l45_5, c45, rs45, gc45, loadV_ptr, storeV_ptr, List.append_assoc, List.length_append, List.length_cons, List.length_nil, List.set_cons_zero, List.set_cons_succ, tk_here, tk_app, gr_here, gr_app, st_here, st_app, t0, t1, t8, t9, t10, Int.lt_irrefl, go_sem, ↓reduceIte, Nat.reduceLT, Nat.reduceEqDiff, Nat.reduceAdd, Nat.reduceMul, Nat.reduceSub, Int.reduceAdd, Int.reduceSub, Nat.reduceLeDiff, Int.reduceLT, Int.reduceLE, Int.reduceEq, Int.reduceNeg, Int.reduceToNat, hy] | ((first | refine guardB_dec (fun hy => ?_) (fun hy => ?_) | refine guardB_bool (fun hy => ?_) (fun hy => ?_) | refine guardQ_ite (fun hy => ?_) (fun hy => ?_) | refine brQ_dec (fun hy => ?_) (fun hy => ?_) | refine brQ_bool (fun hy => ?_) (fun hy => ?_)) <;> (try simp only [Bool.not_eq_true', Bool.not_eq_false', Bool.and_eq_true, Bool.or_eq_false_iff, decide_eq_true_eq, decide_eq_false_iff_not] at hy)))
    exact ⟨_, v', K', out', rfl, q, hol, hki⟩
theorem fn45i {w : Nat} (hw : w ≤ 8) (l : List Int) (hl : l.length ≤ 8) (A K : Hp) (v : V) (out : List UInt8) (hq : RowN byE (A.length + 1) K v out) (ho : out.length ≤ 2 ^ 20) : ∃ r v' K' out', callL Try.prog pr 45 [.ptr A.length 0 0, .int .i64 w, .isl (flatE inE l) l.length 1] (A ++ AB.row 0 [.ifc 78 true [], v] true :: K) = some (r, A ++ AB.row 0 [.ifc 78 true [], v'] true :: K') ∧ RowN byE (A.length + 1) K' v' out' ∧ out'.length = out.length + l.length * w ∧ KeepI K K' := by
  have := fn45 hw false l hl A K v out hq ho
  unfold slV at this
  rwa [if_neg (by simp)] at this
set_option maxHeartbeats 2000000 in
theorem fn24 (c : Cp) (hv : valE c = 0) (A K : Hp) : ∃ r v' K' out', callL Try.prog pr 24 [.ptr A.length 0 0, .agg (cpE.f c)] (A ++ AB.row 0 [.ifc 78 true [], .nilslice] true :: K) = some (r, A ++ AB.row 0 [.ifc 78 true [], v'] true :: K') ∧ RowN byE (A.length + 1) K' v' out' := by
  suffices h : ∃ x, callL Try.prog pr 24 [.ptr A.length 0 0, .agg (cpE.f c)] (A ++ AB.row 0 [.ifc 78 true [], .nilslice] true :: K) = some x ∧ ∃ r v' K' out', x = (r, A ++ AB.row 0 [.ifc 78 true [], v'] true :: K') ∧ RowN byE (A.length + 1) K' v' out' by
    obtain ⟨_, h1, r, v', K', out', rfl, h2⟩ := h; exact ⟨r, v', K', out', h1, h2⟩
  refine ex24 (Nat.le_of_ble_eq_true rfl) ?_
  obtain ⟨hpf, ⟨l4, l3, l2, l1⟩, hf1⟩ := val_pk hv
  have hc0 : cpE.f c = [.str c.note, slV c.facesN fcE c.faces, slV c.namesN nmE c.names, slV c.secretsN scE c.secrets, slV c.packetsN pkE c.packets] := rfl
  have hf0 : (0 : Int) < c.faces.length := by omega
  have p1 : ∀ H, loadV Try.prog 3 H (.ipt (flatE fcE c.faces) 1) = some (.int .i64 (fcE.at c.faces 0).link) := fun H => by
    have := ld_fcE_1 (l := c.faces) (i := 0) (H := H) hf1
    rw [Nat.zero_mul, Nat.zero_add] at this
    exact this
  have p2 : ∀ H, loadV Try.prog 3 H (.ipt (flatE fcE c.faces) 2) = some (.int .i64 (fcE.at c.faces 0).snap) := fun H => by
    have := ld_fcE_2 (l := c.faces) (i := 0) (H := H) hf1
    rw [Nat.zero_mul, Nat.zero_add] at this
    exact this
  obtain ⟨r1, v1, K1, o1, e1, q1, n1, _⟩ := fn45i (w := 4) (by decide) [2712847316] (by decide) A K .nilslice [] (Or.inl ⟨rfl, rfl⟩) (by decide)
  obtain ⟨r2, v2, K2, o2, e2, q2, n2, _⟩ := fn45i (w := 2) (by decide) [2, 4] (by decide) A K1 v1 o1 q1 (by rw [n1]; decide)
  obtain ⟨r3, v3, K3, o3, e3, q3, n3, _⟩ := fn45i (w := 4) (by decide) [0, 0, (fcE.at c.faces 0).snap, (fcE.at c.faces 0).link] (by simp) A K2 v2 o2 q2 (by rw [n2, n1]; decide)
  have e1' : callL Try.prog pr 45 [.ptr A.length 0 0, .int .i64 4, .isl [.int .i64 2712847316] 1 1] (A ++ AB.row 0 [.ifc 78 true [], .nilslice] true :: K) = some (r1, A ++ AB.row 0 [.ifc 78 true [], v1] true :: K1) := e1
  have e2' : callL Try.prog pr 45 [.ptr A.length 0 0, .int .i64 2, .isl [.int .i64 2, .int .i64 4] 2 1] (A ++ AB.row 0 [.ifc 78 true [], v1] true :: K1) = some (r2, A ++ AB.row 0 [.ifc 78 true [], v2] true :: K2) := e2
  have e3' : callL Try.prog pr 45 [.ptr A.length 0 0, .int .i64 4, .isl [.int .i64 0, .int .i64 0, .int .i64 (fcE.at c.faces 0).snap, .int .i64 (fcE.at c.faces 0).link] 4 1] (A ++ AB.row 0 [.ifc 78 true [], v2] true :: K2) = some (r3, A ++ AB.row 0 [.ifc 78 true [], v3] true :: K3) := e3
  clear e1 e2 e3
  have hn3 : o3.length = 24 := by rw [n3, n2, n1]; rfl
  have hy := True.intro
  repeat' (first | simp (disch := first | rfl | omega | exact lt_new _ | assumption | decide | (simp [tk_here, tk_app, tk_0, tk_S, gr_here, gr_app, gr_0, gr_S] <;> omega) | fail) only [r24_0, r24_1, r24_2, r24_3, r24_4, r24_5, r24_6, r24_7, r24_8, r24_9, c24, rs24, gc24, loadV_ptr, storeV_ptr, List.append_assoc, List.length_append, List.length_cons, List.length_nil, List.set_cons_zero, List.set_cons_succ, tk_here, tk_app, gr_here, gr_app, st_here, st_app, hf0, p1, p2, e1', e2', e3', go_sem, ↓reduceIte, Nat.reduceLT, Nat.reduceEqDiff, Nat.reduceAdd, Nat.reduceMul, Nat.reduceSub, Int.reduceAdd, Int.reduceSub, Nat.reduceLeDiff, Int.reduceLT, Int.reduceLE, Int.reduceEq, Int.reduceNeg, Int.reduceToNat, hy] | ((first | refine guardB_dec (fun hy => ?_) (fun hy => ?_) | refine guardB_bool (fun hy => ?_) (fun hy => ?_) | refine guardQ_ite (fun hy => ?_) (fun hy => ?_) | refine brQ_dec (fun hy => ?_) (fun hy => ?_) | refine brQ_bool (fun hy => ?_) (fun hy => ?_)) <;> (try simp only [Bool.not_eq_true', Bool.not_eq_false', Bool.and_eq_true, Bool.or_eq_false_iff, decide_eq_true_eq, decide_eq_false_iff_not] at hy)))
  refine Wp_loop (fun m T D H' => ∃ k v' K' out', m = c.packets.length - k ∧ k ≤ c.packets.length ∧ D = [] ∧ H' = A ++ AB.row 0 [.ifc 78 true [], v'] true :: K' ∧ get T 0 = .ptr A.length 0 0 ∧ get T 26 = slV c.packetsN pkE c.packets ∧ get T 27 = .int .i64 c.packets.length ∧ get T 28 = .int .i64 k ∧ RowN byE (A.length + 1) K' v' out' ∧ out'.length ≤ 24 + k * 416) ?_ c.packets.length _ _ _ ?_
  case refine_2 => exact ⟨0, v3, K3, o3, by simp (disch := first | rfl | omega | exact lt_new _ | assumption | decide | (simp [tk_here, tk_app, tk_0, tk_S, gr_here, gr_app, gr_0, gr_S] <;> omega) | fail) only [go_sem, ↓reduceIte, Nat.reduceLT, Nat.reduceEqDiff, Nat.reduceAdd, Nat.reduceMul, Nat.reduceSub, Int.reduceAdd, Int.reduceSub, Nat.reduceLeDiff, Int.reduceLT, Int.reduceLE, Int.reduceEq, Int.reduceNeg, Int.reduceToNat]; simp [q3, hn3]⟩
  clear q1 q2 q3 n1 n2 n3 hn3 e1' e2' e3' p1 p2
  rintro m T D H' ⟨k, v', K', out', rfl, hk, rfl, rfl, t0, t26, t27, t28, q, hol⟩
  by_cases hlt : k < c.packets.length
  · have hlt' : (k : Int) < c.packets.length := by omega
    have hpk := pf_pk (hpf _ (pkE.at_mem hlt))
    obtain ⟨p, hp⟩ : ∃ p, pkE.at c.packets k = p := ⟨_, rfl⟩
    rw [hp] at hpk
    have hpd := hpk.2.2.2.1
    obtain ⟨d, hd⟩ : ∃ d, IntKind.i64.wrap (p.time.tdiv 1000000) = d := ⟨_, rfl⟩
    obtain ⟨e, he⟩ : ∃ e, p.time.tmod 1000000 = e := ⟨_, rfl⟩
    obtain ⟨r1, v1, K1, o1, e1, q1, n1, hk1⟩ := fn45i (w := 4) (by decide) [d, e, (p.data.length : Int), p.real] (by simp) A (K' ++ [AB.row 0 (pkE.f p) true]) v' out' (q.app _) (by omega)
    have e1' : callL Try.prog pr 45 [.ptr A.length 0 0, .int .i64 4, .isl [.int .i64 d, .int .i64 e, .int .i64 p.data.length, .int .i64 p.real] 4 1] (A ++ AB.row 0 [.ifc 78 true [], v'] true :: (K' ++ [AB.row 0 (pkE.f p) true])) = some (r1, A ++ AB.row 0 [.ifc 78 true [], v1] true :: K1) := e1
    clear e1
    have hrow : getRow K1 K'.length 0 = some (pkE.f p, true) := getRow_of (hk1 K'.length 0 p.time _ (by simp [pkE_f]))
    have n1' : o1.length = out'.length + 16 := by rw [n1]; rfl
    obtain ⟨v2, K2, ea, qa, hkp⟩ := ext_row (E := byE) (w := 1) (by_ := 1) (A := A ++ [AB.row 0 [.ifc 78 true [], v1] true]) (K := K1) (by simp) rfl q1 p.dataN p.data (by omega) (by omega)
    simp only [List.append_assoc, List.cons_append, List.nil_append] at ea
    obtain ⟨k11, k12, k13, k14, k15, k16, k17⟩ := q1.m.cell
    obtain ⟨j11, j12, j13, j14, j15, j16, j17⟩ := qa.m.cell
    have hy := True.intro
    repeat' (first | simp (disch := first | rfl | omega | exact lt_new _ | assumption | decide | (simp [tk_here, tk_app, tk_0, tk_S, gr_here, gr_app, gr_0, gr_S] <;> omega) | fail) only [r24_0, r24_1, r24_2, r24_3, r24_4, r24_5, r24_6, r24_7, r24_8, r24_9, l24_10, c24, rs24, gc24, loadV_ptr, storeV_ptr, List.append_assoc, List.length_append, List.length_cons, List.length_nil, List.set_cons_zero, List.set_cons_succ, tk_here, tk_app, gr_here, gr_app, st_here, st_app, t0, t26, t27, t28, hlt', hp, hd, he, e1', ea, hrow, k11, k12, k13, k14, k15, k16, k17, j11, j12, j13, j14, j15, j16, j17, go_sem, ↓reduceIte, Nat.reduceLT, Nat.reduceEqDiff, Nat.reduceAdd, Nat.reduceMul, Nat.reduceSub, Int.reduceAdd, Int.reduceSub, Nat.reduceLeDiff, Int.reduceLT, Int.reduceLE, Int.reduceEq, Int.reduceNeg, Int.reduceToNat, hy] | ((first | refine guardB_dec (fun hy => ?_) (fun hy => ?_) | refine guardB_bool (fun hy => ?_) (fun hy => ?_) | refine guardQ_ite (fun hy => ?_) (fun hy => ?_) | refine brQ_dec (fun hy => ?_) (fun hy => ?_) | refine brQ_bool (fun hy => ?_) (fun hy => ?_)) <;> (try simp only [Bool.not_eq_true', Bool.not_eq_false', Bool.and_eq_true, Bool.or_eq_false_iff, decide_eq_true_eq, decide_eq_false_iff_not] at hy)))
    exact ⟨_, by omega, k + 1, v2, K2, _, rfl, hlt, rfl, rfl, qa, by rw [List.length_append, n1']; omega⟩
  · obtain rfl : k = c.packets.length := by omega
    have hy := True.intro
    repeat' (first | simp (disch := first | rfl | omega | exact lt_new _ | assumption | decide | (simp [tk_here, tk_app, tk_0, tk_S, gr_here, gr_app, gr_0, gr_S] <;> omega) | fail) only [r24_0, r24_1, r24_2, r24_3, r24_4, r24_5, r24_6, r24_7, r24_8, r24_9, l24_10, c24, rs24, gc24, loadV_ptr, storeV_ptr, List.append_assoc, List.length_append, List.length_cons, List.length_nil, List.set_cons_zero, List.set_cons_succ, tk_here, tk_app, gr_here, gr_app, st_here, st_app, t0, t26, t27, t28, Int.lt_irrefl, go_sem, ↓reduceIte, Nat.reduceLT, Nat.reduceEqDiff, Nat.reduceAdd, Nat.reduceMul, Nat.reduceSub, Int.reduceAdd, Int.reduceSub, Nat.reduceLeDiff, Int.reduceLT, Int.reduceLE, Int.reduceEq, Int.reduceNeg, Int.reduceToNat, hy] | ((first | refine guardB_dec (fun hy => ?_) (fun hy => ?_) | refine guardB_bool (fun hy => ?_) (fun hy => ?_) | refine guardQ_ite (fun hy => ?_) (fun hy => ?_) | refine brQ_dec (fun hy => ?_) (fun hy => ?_) | refine brQ_bool (fun hy => ?_) (fun hy => ?_)) <;> (try simp only [Bool.not_eq_true', Bool.not_eq_false', Bool.and_eq_true, Bool.or_eq_false_iff, decide_eq_true_eq, decide_eq_false_iff_not] at hy)))
    exact ⟨_, v', K', out', rfl, q⟩
end Go.Proofs.Ytdkeiaeaahpfdaa
/-
  Library functions at this program's types. No statement of the seat stands here.
-/
namespace Go.Proofs.Ytdkeiaeaahpfdaa
open Go Go.An
set_option maxRecDepth 4000
set_option linter.unusedSimpArgs false
set_option linter.unusedVariables false

theorem fn28 {b b' : Bool} {l l' : List UInt8} (hl : l.length ≤ 2 ^ 62) (H : Hp) : callL Try.prog pr 28 [slV b byE l, slV b' byE l'] H = some (.bool (decide (l = l')), H) := by
  rw [← sameL_eq]
  refine run28 (Nat.le_of_ble_eq_true rfl) ?_
  by_cases hg : (l.length : Int) = l'.length
  case neg =>
    rw [sameL_len (by omega)]
    simp (disch := first | rfl | omega | exact lt_new _ | assumption | decide | (simp [tk_here, tk_app, tk_0, tk_S, gr_here, gr_app, gr_0, gr_S] <;> omega) | fail) only [r28_0, r28_1, r28_2, r28_3, r28_4, r28_5, r28_6, r28_7, r28_8, l28_9, r28_10, c28, rs28, gc28, go_sem, ↓reduceIte, Nat.reduceLT, Nat.reduceEqDiff, Nat.reduceAdd, Nat.reduceMul, Nat.reduceSub, Int.reduceAdd, Int.reduceSub, Nat.reduceLeDiff, Int.reduceLT, Int.reduceLE, Int.reduceEq, Int.reduceNeg, Int.reduceToNat, hg]
    exact finQ_same (by simp (disch := first | rfl | omega | exact lt_new _ | assumption | decide | (simp [tk_here, tk_app, tk_0, tk_S, gr_here, gr_app, gr_0, gr_S] <;> omega) | fail) only [go_sem, ↓reduceIte, Nat.reduceLT, Nat.reduceEqDiff, Nat.reduceAdd, Nat.reduceMul, Nat.reduceSub, Int.reduceAdd, Int.reduceSub, Nat.reduceLeDiff, Int.reduceLT, Int.reduceLE, Int.reduceEq, Int.reduceNeg, Int.reduceToNat])
  simp (disch := first | rfl | omega | exact lt_new _ | assumption | decide | (simp [tk_here, tk_app, tk_0, tk_S, gr_here, gr_app, gr_0, gr_S] <;> omega) | fail) only [r28_0, r28_1, r28_2, r28_3, r28_4, r28_5, r28_6, r28_7, r28_8, r28_10, c28, rs28, gc28, go_sem, ↓reduceIte, Nat.reduceLT, Nat.reduceEqDiff, Nat.reduceAdd, Nat.reduceMul, Nat.reduceSub, Int.reduceAdd, Int.reduceSub, Nat.reduceLeDiff, Int.reduceLT, Int.reduceLE, Int.reduceEq, Int.reduceNeg, Int.reduceToNat, hg]
  refine Wp_loop (fun m T D H' => ∃ i, m = l.length - i ∧ i ≤ l.length ∧ D = [] ∧ H' = H ∧ get T 0 = slV b byE l ∧ get T 1 = slV b' byE l' ∧ get T 12 = .int .i64 l.length ∧ get T 13 = .int .i64 i ∧ sameL (fun x y => decide (x = y)) l l' = sameL (fun x y => decide (x = y)) (l.drop i) (l'.drop i)) ?_ l.length _ _ _ ?_
  case refine_2 => exact ⟨0, by simp [go_sem, hg]⟩
  rintro m T D H' ⟨i, rfl, hi, rfl, rfl, t0, t1, t12, t13, hs⟩
  by_cases hlt : i < l.length
  · have hlt' : (i : Int) < l.length := by omega
    have hlt3 : i < l'.length := by omega
    have hlt2 : (i : Int) < l'.length := by omega
    rw [sameL_drop byE hlt hlt3] at hs
    by_cases hq : byE.at l i = byE.at l' i
    · rw [decide_eq_true hq, Bool.true_and] at hs
      simp (disch := first | rfl | omega | exact lt_new _ | assumption | decide | (simp [tk_here, tk_app, tk_0, tk_S, gr_here, gr_app, gr_0, gr_S] <;> omega) | fail) only [r28_0, r28_1, r28_2, r28_3, r28_4, r28_5, r28_6, r28_7, r28_8, l28_9, r28_10, c28, rs28, gc28, go_sem, ↓reduceIte, Nat.reduceLT, Nat.reduceEqDiff, Nat.reduceAdd, Nat.reduceMul, Nat.reduceSub, Int.reduceAdd, Int.reduceSub, Nat.reduceLeDiff, Int.reduceLT, Int.reduceLE, Int.reduceEq, Int.reduceNeg, Int.reduceToNat, t0, t1, t12, t13, hlt', hq]
      exact ⟨_, by omega, i + 1, rfl, hlt, rfl, hs⟩
    · rw [decide_eq_false hq, Bool.false_and] at hs
      have hq2 := hq
      rw [← UInt8.toNat_inj, ← Int.natCast_inj] at hq2
      simp (disch := first | rfl | omega | exact lt_new _ | assumption | decide | (simp [tk_here, tk_app, tk_0, tk_S, gr_here, gr_app, gr_0, gr_S] <;> omega) | fail) only [r28_0, r28_1, r28_2, r28_3, r28_4, r28_5, r28_6, r28_7, r28_8, l28_9, r28_10, c28, rs28, gc28, go_sem, ↓reduceIte, Nat.reduceLT, Nat.reduceEqDiff, Nat.reduceAdd, Nat.reduceMul, Nat.reduceSub, Int.reduceAdd, Int.reduceSub, Nat.reduceLeDiff, Int.reduceLT, Int.reduceLE, Int.reduceEq, Int.reduceNeg, Int.reduceToNat, t0, t1, t12, t13, hlt', hq2]
      exact finQ_same (by simp (disch := first | rfl | omega | exact lt_new _ | assumption | decide | (simp [tk_here, tk_app, tk_0, tk_S, gr_here, gr_app, gr_0, gr_S] <;> omega) | fail) only [go_sem, ↓reduceIte, Nat.reduceLT, Nat.reduceEqDiff, Nat.reduceAdd, Nat.reduceMul, Nat.reduceSub, Int.reduceAdd, Int.reduceSub, Nat.reduceLeDiff, Int.reduceLT, Int.reduceLE, Int.reduceEq, Int.reduceNeg, Int.reduceToNat, hs])
  · obtain rfl : i = l.length := by omega
    have hs1 : sameL (fun x y => decide (x = y)) l l' = true := by rw [hs, List.drop_length, List.drop_eq_nil_of_le (by omega)]; rfl
    simp (disch := first | rfl | omega | exact lt_new _ | assumption | decide | (simp [tk_here, tk_app, tk_0, tk_S, gr_here, gr_app, gr_0, gr_S] <;> omega) | fail) only [r28_0, r28_1, r28_2, r28_3, r28_4, r28_5, r28_6, r28_7, r28_8, l28_9, r28_10, c28, rs28, gc28, go_sem, ↓reduceIte, Nat.reduceLT, Nat.reduceEqDiff, Nat.reduceAdd, Nat.reduceMul, Nat.reduceSub, Int.reduceAdd, Int.reduceSub, Nat.reduceLeDiff, Int.reduceLT, Int.reduceLE, Int.reduceEq, Int.reduceNeg, Int.reduceToNat, t0, t1, t12, t13, Int.lt_irrefl]
    exact finQ_same (by simp (disch := first | rfl | omega | exact lt_new _ | assumption | decide | (simp [tk_here, tk_app, tk_0, tk_S, gr_here, gr_app, gr_0, gr_S] <;> omega) | fail) only [go_sem, ↓reduceIte, Nat.reduceLT, Nat.reduceEqDiff, Nat.reduceAdd, Nat.reduceMul, Nat.reduceSub, Int.reduceAdd, Int.reduceSub, Nat.reduceLeDiff, Int.reduceLT, Int.reduceLE, Int.reduceEq, Int.reduceNeg, Int.reduceToNat, hs1])

theorem fn33 {b b' : Bool} {l l' : List Fc} (hl : l.length ≤ 2 ^ 62) (H : Hp) : callL Try.prog pr 33 [slV b fcE l, slV b' fcE l'] H = some (.bool (decide (l = l')), H) := by
  rw [← sameL_eq]
  refine run33 (Nat.le_of_ble_eq_true rfl) ?_
  by_cases hg : (l.length : Int) = l'.length
  case neg =>
    rw [sameL_len (by omega)]
    simp (disch := first | rfl | omega | exact lt_new _ | assumption | decide | (simp [tk_here, tk_app, tk_0, tk_S, gr_here, gr_app, gr_0, gr_S] <;> omega) | fail) only [r33_0, r33_1, r33_2, r33_3, r33_4, r33_5, r33_6, r33_7, r33_8, l33_9, r33_10, c33, rs33, gc33, go_sem, ↓reduceIte, Nat.reduceLT, Nat.reduceEqDiff, Nat.reduceAdd, Nat.reduceMul, Nat.reduceSub, Int.reduceAdd, Int.reduceSub, Nat.reduceLeDiff, Int.reduceLT, Int.reduceLE, Int.reduceEq, Int.reduceNeg, Int.reduceToNat, hg]
    exact finQ_same (by simp (disch := first | rfl | omega | exact lt_new _ | assumption | decide | (simp [tk_here, tk_app, tk_0, tk_S, gr_here, gr_app, gr_0, gr_S] <;> omega) | fail) only [go_sem, ↓reduceIte, Nat.reduceLT, Nat.reduceEqDiff, Nat.reduceAdd, Nat.reduceMul, Nat.reduceSub, Int.reduceAdd, Int.reduceSub, Nat.reduceLeDiff, Int.reduceLT, Int.reduceLE, Int.reduceEq, Int.reduceNeg, Int.reduceToNat])
  simp (disch := first | rfl | omega | exact lt_new _ | assumption | decide | (simp [tk_here, tk_app, tk_0, tk_S, gr_here, gr_app, gr_0, gr_S] <;> omega) | fail) only [r33_0, r33_1, r33_2, r33_3, r33_4, r33_5, r33_6, r33_7, r33_8, r33_10, c33, rs33, gc33, go_sem, ↓reduceIte, Nat.reduceLT, Nat.reduceEqDiff, Nat.reduceAdd, Nat.reduceMul, Nat.reduceSub, Int.reduceAdd, Int.reduceSub, Nat.reduceLeDiff, Int.reduceLT, Int.reduceLE, Int.reduceEq, Int.reduceNeg, Int.reduceToNat, hg]
  refine Wp_loop (fun m T D H' => ∃ i, m = l.length - i ∧ i ≤ l.length ∧ D = [] ∧ H' = H ∧ get T 0 = slV b fcE l ∧ get T 1 = slV b' fcE l' ∧ get T 12 = .int .i64 l.length ∧ get T 13 = .int .i64 i ∧ sameL (fun x y => decide (x = y)) l l' = sameL (fun x y => decide (x = y)) (l.drop i) (l'.drop i)) ?_ l.length _ _ _ ?_
  case refine_2 => exact ⟨0, by simp [go_sem, hg]⟩
  rintro m T D H' ⟨i, rfl, hi, rfl, rfl, t0, t1, t12, t13, hs⟩
  by_cases hlt : i < l.length
  · have hlt' : (i : Int) < l.length := by omega
    have hlt3 : i < l'.length := by omega
    have hlt2 : (i : Int) < l'.length := by omega
    rw [sameL_drop fcE hlt hlt3] at hs
    by_cases hq : fcE.at l i = fcE.at l' i
    · rw [decide_eq_true hq, Bool.true_and] at hs
      simp (disch := first | rfl | omega | exact lt_new _ | assumption | decide | (simp [tk_here, tk_app, tk_0, tk_S, gr_here, gr_app, gr_0, gr_S] <;> omega) | fail) only [r33_0, r33_1, r33_2, r33_3, r33_4, r33_5, r33_6, r33_7, r33_8, l33_9, r33_10, c33, rs33, gc33, go_sem, ↓reduceIte, Nat.reduceLT, Nat.reduceEqDiff, Nat.reduceAdd, Nat.reduceMul, Nat.reduceSub, Int.reduceAdd, Int.reduceSub, Nat.reduceLeDiff, Int.reduceLT, Int.reduceLE, Int.reduceEq, Int.reduceNeg, Int.reduceToNat, t0, t1, t12, t13, hlt', hq, fcS]
      exact ⟨_, by omega, i + 1, rfl, hlt, rfl, hs⟩
    · rw [decide_eq_false hq, Bool.false_and] at hs
      have hq2 := hq
      try simp only [fcS, decide_eq_false_iff_not] at hq2
      simp (disch := first | rfl | omega | exact lt_new _ | assumption | decide | (simp [tk_here, tk_app, tk_0, tk_S, gr_here, gr_app, gr_0, gr_S] <;> omega) | fail) only [r33_0, r33_1, r33_2, r33_3, r33_4, r33_5, r33_6, r33_7, r33_8, l33_9, r33_10, c33, rs33, gc33, go_sem, ↓reduceIte, Nat.reduceLT, Nat.reduceEqDiff, Nat.reduceAdd, Nat.reduceMul, Nat.reduceSub, Int.reduceAdd, Int.reduceSub, Nat.reduceLeDiff, Int.reduceLT, Int.reduceLE, Int.reduceEq, Int.reduceNeg, Int.reduceToNat, t0, t1, t12, t13, hlt', hq2, fcS]
      exact finQ_same (by simp (disch := first | rfl | omega | exact lt_new _ | assumption | decide | (simp [tk_here, tk_app, tk_0, tk_S, gr_here, gr_app, gr_0, gr_S] <;> omega) | fail) only [go_sem, ↓reduceIte, Nat.reduceLT, Nat.reduceEqDiff, Nat.reduceAdd, Nat.reduceMul, Nat.reduceSub, Int.reduceAdd, Int.reduceSub, Nat.reduceLeDiff, Int.reduceLT, Int.reduceLE, Int.reduceEq, Int.reduceNeg, Int.reduceToNat, hs])
  · obtain rfl : i = l.length := by omega
    have hs1 : sameL (fun x y => decide (x = y)) l l' = true := by rw [hs, List.drop_length, List.drop_eq_nil_of_le (by omega)]; rfl
    simp (disch := first | rfl | omega | exact lt_new _ | assumption | decide | (simp [tk_here, tk_app, tk_0, tk_S, gr_here, gr_app, gr_0, gr_S] <;> omega) | fail) only [r33_0, r33_1, r33_2, r33_3, r33_4, r33_5, r33_6, r33_7, r33_8, l33_9, r33_10, c33, rs33, gc33, go_sem, ↓reduceIte, Nat.reduceLT, Nat.reduceEqDiff, Nat.reduceAdd, Nat.reduceMul, Nat.reduceSub, Int.reduceAdd, Int.reduceSub, Nat.reduceLeDiff, Int.reduceLT, Int.reduceLE, Int.reduceEq, Int.reduceNeg, Int.reduceToNat, t0, t1, t12, t13, Int.lt_irrefl]
    exact finQ_same (by simp (disch := first | rfl | omega | exact lt_new _ | assumption | decide | (simp [tk_here, tk_app, tk_0, tk_S, gr_here, gr_app, gr_0, gr_S] <;> omega) | fail) only [go_sem, ↓reduceIte, Nat.reduceLT, Nat.reduceEqDiff, Nat.reduceAdd, Nat.reduceMul, Nat.reduceSub, Int.reduceAdd, Int.reduceSub, Nat.reduceLeDiff, Int.reduceLT, Int.reduceLE, Int.reduceEq, Int.reduceNeg, Int.reduceToNat, hs1])

theorem fn26 {b b' : Bool} {l l' : List Nm} (hl : l.length ≤ 2 ^ 62) (S : Nm → Nm → Bool) (f : Nat) (hk : ∀ v, demK f v = v.dem) (hf : ∀ x ∈ l, ∀ y ∈ l', ∀ H, callL Try.prog pr f [.agg (nmE.f x), .agg (nmE.f y)] H = some (.bool (S x y), H)) (H : Hp) : callL Try.prog pr 26 [slV b nmE l, slV b' nmE l', .fn f [] []] H = some (.bool (sameL S l l'), H) := by
  have hfy := ne_demK hk
  refine run26 (Nat.le_of_ble_eq_true rfl) ?_
  by_cases hg : (l.length : Int) = l'.length
  case neg =>
    rw [sameL_len (by omega)]
    simp (disch := first | rfl | omega | exact lt_new _ | assumption | decide | (simp [tk_here, tk_app, tk_0, tk_S, gr_here, gr_app, gr_0, gr_S] <;> omega) | fail) only [r26_0, r26_1, r26_2, r26_3, r26_4, r26_5, r26_6, r26_7, r26_8, r26_9, l26_10, r26_11, c26, rs26, gc26, go_sem, ↓reduceIte, Nat.reduceLT, Nat.reduceEqDiff, Nat.reduceAdd, Nat.reduceMul, Nat.reduceSub, Int.reduceAdd, Int.reduceSub, Nat.reduceLeDiff, Int.reduceLT, Int.reduceLE, Int.reduceEq, Int.reduceNeg, Int.reduceToNat, hg]
    exact finQ_same (by simp (disch := first | rfl | omega | exact lt_new _ | assumption | decide | (simp [tk_here, tk_app, tk_0, tk_S, gr_here, gr_app, gr_0, gr_S] <;> omega) | fail) only [go_sem, ↓reduceIte, Nat.reduceLT, Nat.reduceEqDiff, Nat.reduceAdd, Nat.reduceMul, Nat.reduceSub, Int.reduceAdd, Int.reduceSub, Nat.reduceLeDiff, Int.reduceLT, Int.reduceLE, Int.reduceEq, Int.reduceNeg, Int.reduceToNat])
  simp (disch := first | rfl | omega | exact lt_new _ | assumption | decide | (simp [tk_here, tk_app, tk_0, tk_S, gr_here, gr_app, gr_0, gr_S] <;> omega) | fail) only [r26_0, r26_1, r26_2, r26_3, r26_4, r26_5, r26_6, r26_7, r26_8, r26_9, r26_11, c26, rs26, gc26, go_sem, ↓reduceIte, Nat.reduceLT, Nat.reduceEqDiff, Nat.reduceAdd, Nat.reduceMul, Nat.reduceSub, Int.reduceAdd, Int.reduceSub, Nat.reduceLeDiff, Int.reduceLT, Int.reduceLE, Int.reduceEq, Int.reduceNeg, Int.reduceToNat, hg]
  refine Wp_loop (fun m T D H' => ∃ i G, m = l.length - i ∧ i ≤ l.length ∧ D = [] ∧ H' = H ++ G ∧ get T 1 = slV b' nmE l' ∧ get T 2 = .fn f [] [] ∧ get T 15 = slV b nmE l ∧ get T 16 = .int .i64 l.length ∧ get T 17 = .int .i64 i ∧ sameL S l l' = sameL S (l.drop i) (l'.drop i)) ?_ l.length _ _ _ ?_
  case refine_2 => exact ⟨0, [], by simp [go_sem, hg]⟩
  rintro m T D H' ⟨i, G, rfl, hi, rfl, rfl, t1, t2, t15, t16, t17, hs⟩
  by_cases hlt : i < l.length
  · have hlt' : (i : Int) < l.length := by omega
    have hlt3 : i < l'.length := by omega
    have hlt2 : (i : Int) < l'.length := by omega
    rw [sameL_drop nmE hlt hlt3] at hs
    have hfi := hf _ (nmE.at_mem hlt) _ (nmE.at_mem hlt3)
    by_cases hq : S (nmE.at l i) (nmE.at l' i) = true
    · rw [hq, Bool.true_and] at hs
      simp (disch := first | rfl | omega | exact lt_new _ | assumption | decide | (simp [tk_here, tk_app, tk_0, tk_S, gr_here, gr_app, gr_0, gr_S] <;> omega) | fail) only [r26_0, r26_1, r26_2, r26_3, r26_4, r26_5, r26_6, r26_7, r26_8, r26_9, l26_10, r26_11, c26, rs26, gc26, go_sem, ↓reduceIte, Nat.reduceLT, Nat.reduceEqDiff, Nat.reduceAdd, Nat.reduceMul, Nat.reduceSub, Int.reduceAdd, Int.reduceSub, Nat.reduceLeDiff, Int.reduceLT, Int.reduceLE, Int.reduceEq, Int.reduceNeg, Int.reduceToNat, loadV_ptr, storeV_ptr, List.append_assoc, List.length_append, List.length_cons, List.length_nil, List.set_cons_zero, List.set_cons_succ, tk_here, tk_app, gr_here, gr_app, st_here, st_app, t1, t2, t15, t16, t17, hlt', hq, hk, hfi]
      exact ⟨_, by omega, i + 1, _, rfl, hlt, rfl, rfl, hs⟩
    · rw [Bool.not_eq_true] at hq
      rw [hq, Bool.false_and] at hs
      simp (disch := first | rfl | omega | exact lt_new _ | assumption | decide | (simp [tk_here, tk_app, tk_0, tk_S, gr_here, gr_app, gr_0, gr_S] <;> omega) | fail) only [r26_0, r26_1, r26_2, r26_3, r26_4, r26_5, r26_6, r26_7, r26_8, r26_9, l26_10, r26_11, c26, rs26, gc26, go_sem, ↓reduceIte, Nat.reduceLT, Nat.reduceEqDiff, Nat.reduceAdd, Nat.reduceMul, Nat.reduceSub, Int.reduceAdd, Int.reduceSub, Nat.reduceLeDiff, Int.reduceLT, Int.reduceLE, Int.reduceEq, Int.reduceNeg, Int.reduceToNat, loadV_ptr, storeV_ptr, List.append_assoc, List.length_append, List.length_cons, List.length_nil, List.set_cons_zero, List.set_cons_succ, tk_here, tk_app, gr_here, gr_app, st_here, st_app, t1, t2, t15, t16, t17, hlt', hq, hk, hfi]
      exact finQ_app (by simp (disch := first | rfl | omega | exact lt_new _ | assumption | decide | (simp [tk_here, tk_app, tk_0, tk_S, gr_here, gr_app, gr_0, gr_S] <;> omega) | fail) only [go_sem, ↓reduceIte, Nat.reduceLT, Nat.reduceEqDiff, Nat.reduceAdd, Nat.reduceMul, Nat.reduceSub, Int.reduceAdd, Int.reduceSub, Nat.reduceLeDiff, Int.reduceLT, Int.reduceLE, Int.reduceEq, Int.reduceNeg, Int.reduceToNat, hs])
  · obtain rfl : i = l.length := by omega
    have hs1 : sameL S l l' = true := by rw [hs, List.drop_length, List.drop_eq_nil_of_le (by omega)]; rfl
    simp (disch := first | rfl | omega | exact lt_new _ | assumption | decide | (simp [tk_here, tk_app, tk_0, tk_S, gr_here, gr_app, gr_0, gr_S] <;> omega) | fail) only [r26_0, r26_1, r26_2, r26_3, r26_4, r26_5, r26_6, r26_7, r26_8, r26_9, l26_10, r26_11, c26, rs26, gc26, go_sem, ↓reduceIte, Nat.reduceLT, Nat.reduceEqDiff, Nat.reduceAdd, Nat.reduceMul, Nat.reduceSub, Int.reduceAdd, Int.reduceSub, Nat.reduceLeDiff, Int.reduceLT, Int.reduceLE, Int.reduceEq, Int.reduceNeg, Int.reduceToNat, t1, t2, t15, t16, t17, Int.lt_irrefl]
    exact finQ_app (by simp (disch := first | rfl | omega | exact lt_new _ | assumption | decide | (simp [tk_here, tk_app, tk_0, tk_S, gr_here, gr_app, gr_0, gr_S] <;> omega) | fail) only [go_sem, ↓reduceIte, Nat.reduceLT, Nat.reduceEqDiff, Nat.reduceAdd, Nat.reduceMul, Nat.reduceSub, Int.reduceAdd, Int.reduceSub, Nat.reduceLeDiff, Int.reduceLT, Int.reduceLE, Int.reduceEq, Int.reduceNeg, Int.reduceToNat, hs1])

theorem fn29 {b b' : Bool} {l l' : List Sc} (hl : l.length ≤ 2 ^ 62) (S : Sc → Sc → Bool) (f : Nat) (hk : ∀ v, demK f v = v.dem) (hf : ∀ x ∈ l, ∀ y ∈ l', ∀ H, callL Try.prog pr f [.agg (scE.f x), .agg (scE.f y)] H = some (.bool (S x y), H)) (H : Hp) : callL Try.prog pr 29 [slV b scE l, slV b' scE l', .fn f [] []] H = some (.bool (sameL S l l'), H) := by
  have hfy := ne_demK hk
  refine run29 (Nat.le_of_ble_eq_true rfl) ?_
  by_cases hg : (l.length : Int) = l'.length
  case neg =>
    rw [sameL_len (by omega)]
    simp (disch := first | rfl | omega | exact lt_new _ | assumption | decide | (simp [tk_here, tk_app, tk_0, tk_S, gr_here, gr_app, gr_0, gr_S] <;> omega) | fail) only [r29_0, r29_1, r29_2, r29_3, r29_4, r29_5, r29_6, r29_7, r29_8, r29_9, l29_10, r29_11, c29, rs29, gc29, go_sem, ↓reduceIte, Nat.reduceLT, Nat.reduceEqDiff, Nat.reduceAdd, Nat.reduceMul, Nat.reduceSub, Int.reduceAdd, Int.reduceSub, Nat.reduceLeDiff, Int.reduceLT, Int.reduceLE, Int.reduceEq, Int.reduceNeg, Int.reduceToNat, hg]
    exact finQ_same (by simp (disch := first | rfl | omega | exact lt_new _ | assumption | decide | (simp [tk_here, tk_app, tk_0, tk_S, gr_here, gr_app, gr_0, gr_S] <;> omega) | fail) only [go_sem, ↓reduceIte, Nat.reduceLT, Nat.reduceEqDiff, Nat.reduceAdd, Nat.reduceMul, Nat.reduceSub, Int.reduceAdd, Int.reduceSub, Nat.reduceLeDiff, Int.reduceLT, Int.reduceLE, Int.reduceEq, Int.reduceNeg, Int.reduceToNat])
  simp (disch := first | rfl | omega | exact lt_new _ | assumption | decide | (simp [tk_here, tk_app, tk_0, tk_S, gr_here, gr_app, gr_0, gr_S] <;> omega) | fail) only [r29_0, r29_1, r29_2, r29_3, r29_4, r29_5, r29_6, r29_7, r29_8, r29_9, r29_11, c29, rs29, gc29, go_sem, ↓reduceIte, Nat.reduceLT, Nat.reduceEqDiff, Nat.reduceAdd, Nat.reduceMul, Nat.reduceSub, Int.reduceAdd, Int.reduceSub, Nat.reduceLeDiff, Int.reduceLT, Int.reduceLE, Int.reduceEq, Int.reduceNeg, Int.reduceToNat, hg]
  refine Wp_loop (fun m T D H' => ∃ i G, m = l.length - i ∧ i ≤ l.length ∧ D = [] ∧ H' = H ++ G ∧ get T 1 = slV b' scE l' ∧ get T 2 = .fn f [] [] ∧ get T 15 = slV b scE l ∧ get T 16 = .int .i64 l.length ∧ get T 17 = .int .i64 i ∧ sameL S l l' = sameL S (l.drop i) (l'.drop i)) ?_ l.length _ _ _ ?_
  case refine_2 => exact ⟨0, [], by simp [go_sem, hg]⟩
  rintro m T D H' ⟨i, G, rfl, hi, rfl, rfl, t1, t2, t15, t16, t17, hs⟩
  by_cases hlt : i < l.length
  · have hlt' : (i : Int) < l.length := by omega
    have hlt3 : i < l'.length := by omega
    have hlt2 : (i : Int) < l'.length := by omega
    rw [sameL_drop scE hlt hlt3] at hs
    have hfi := hf _ (scE.at_mem hlt) _ (scE.at_mem hlt3)
    by_cases hq : S (scE.at l i) (scE.at l' i) = true
    · rw [hq, Bool.true_and] at hs
      simp (disch := first | rfl | omega | exact lt_new _ | assumption | decide | (simp [tk_here, tk_app, tk_0, tk_S, gr_here, gr_app, gr_0, gr_S] <;> omega) | fail) only [r29_0, r29_1, r29_2, r29_3, r29_4, r29_5, r29_6, r29_7, r29_8, r29_9, l29_10, r29_11, c29, rs29, gc29, go_sem, ↓reduceIte, Nat.reduceLT, Nat.reduceEqDiff, Nat.reduceAdd, Nat.reduceMul, Nat.reduceSub, Int.reduceAdd, Int.reduceSub, Nat.reduceLeDiff, Int.reduceLT, Int.reduceLE, Int.reduceEq, Int.reduceNeg, Int.reduceToNat, loadV_ptr, storeV_ptr, List.append_assoc, List.length_append, List.length_cons, List.length_nil, List.set_cons_zero, List.set_cons_succ, tk_here, tk_app, gr_here, gr_app, st_here, st_app, t1, t2, t15, t16, t17, hlt', hq, hk, hfi]
      exact ⟨_, by omega, i + 1, _, rfl, hlt, rfl, rfl, hs⟩
    · rw [Bool.not_eq_true] at hq
      rw [hq, Bool.false_and] at hs
      simp (disch := first | rfl | omega | exact lt_new _ | assumption | decide | (simp [tk_here, tk_app, tk_0, tk_S, gr_here, gr_app, gr_0, gr_S] <;> omega) | fail) only [r29_0, r29_1, r29_2, r29_3, r29_4, r29_5, r29_6, r29_7, r29_8, r29_9, l29_10, r29_11, c29, rs29, gc29, go_sem, ↓reduceIte, Nat.reduceLT, Nat.reduceEqDiff, Nat.reduceAdd, Nat.reduceMul, Nat.reduceSub, Int.reduceAdd, Int.reduceSub, Nat.reduceLeDiff, Int.reduceLT, Int.reduceLE, Int.reduceEq, Int.reduceNeg, Int.reduceToNat, loadV_ptr, storeV_ptr, List.append_assoc, List.length_append, List.length_cons, List.length_nil, List.set_cons_zero, List.set_cons_succ, tk_here, tk_app, gr_here, gr_app, st_here, st_app, t1, t2, t15, t16, t17, hlt', hq, hk, hfi]
      exact finQ_app (by simp (disch := first | rfl | omega | exact lt_new _ | assumption | decide | (simp [tk_here, tk_app, tk_0, tk_S, gr_here, gr_app, gr_0, gr_S] <;> omega) | fail) only [go_sem, ↓reduceIte, Nat.reduceLT, Nat.reduceEqDiff, Nat.reduceAdd, Nat.reduceMul, Nat.reduceSub, Int.reduceAdd, Int.reduceSub, Nat.reduceLeDiff, Int.reduceLT, Int.reduceLE, Int.reduceEq, Int.reduceNeg, Int.reduceToNat, hs])
  · obtain rfl : i = l.length := by omega
    have hs1 : sameL S l l' = true := by rw [hs, List.drop_length, List.drop_eq_nil_of_le (by omega)]; rfl
    simp (disch := first | rfl | omega | exact lt_new _ | assumption | decide | (simp [tk_here, tk_app, tk_0, tk_S, gr_here, gr_app, gr_0, gr_S] <;> omega) | fail) only [r29_0, r29_1, r29_2, r29_3, r29_4, r29_5, r29_6, r29_7, r29_8, r29_9, l29_10, r29_11, c29, rs29, gc29, go_sem, ↓reduceIte, Nat.reduceLT, Nat.reduceEqDiff, Nat.reduceAdd, Nat.reduceMul, Nat.reduceSub, Int.reduceAdd, Int.reduceSub, Nat.reduceLeDiff, Int.reduceLT, Int.reduceLE, Int.reduceEq, Int.reduceNeg, Int.reduceToNat, t1, t2, t15, t16, t17, Int.lt_irrefl]
    exact finQ_app (by simp (disch := first | rfl | omega | exact lt_new _ | assumption | decide | (simp [tk_here, tk_app, tk_0, tk_S, gr_here, gr_app, gr_0, gr_S] <;> omega) | fail) only [go_sem, ↓reduceIte, Nat.reduceLT, Nat.reduceEqDiff, Nat.reduceAdd, Nat.reduceMul, Nat.reduceSub, Int.reduceAdd, Int.reduceSub, Nat.reduceLeDiff, Int.reduceLT, Int.reduceLE, Int.reduceEq, Int.reduceNeg, Int.reduceToNat, hs1])

theorem fn31 {b b' : Bool} {l l' : List Pk} (hl : l.length ≤ 2 ^ 62) (S : Pk → Pk → Bool) (f : Nat) (hk : ∀ v, demK f v = v.dem) (hf : ∀ x ∈ l, ∀ y ∈ l', ∀ H, callL Try.prog pr f [.agg (pkE.f x), .agg (pkE.f y)] H = some (.bool (S x y), H)) (H : Hp) : callL Try.prog pr 31 [slV b pkE l, slV b' pkE l', .fn f [] []] H = some (.bool (sameL S l l'), H) := by
  have hfy := ne_demK hk
  refine run31 (Nat.le_of_ble_eq_true rfl) ?_
  by_cases hg : (l.length : Int) = l'.length
  case neg =>
    rw [sameL_len (by omega)]
    simp (disch := first | rfl | omega | exact lt_new _ | assumption | decide | (simp [tk_here, tk_app, tk_0, tk_S, gr_here, gr_app, gr_0, gr_S] <;> omega) | fail) only [r31_0, r31_1, r31_2, r31_3, r31_4, r31_5, r31_6, r31_7, r31_8, r31_9, l31_10, r31_11, c31, rs31, gc31, go_sem, ↓reduceIte, Nat.reduceLT, Nat.reduceEqDiff, Nat.reduceAdd, Nat.reduceMul, Nat.reduceSub, Int.reduceAdd, Int.reduceSub, Nat.reduceLeDiff, Int.reduceLT, Int.reduceLE, Int.reduceEq, Int.reduceNeg, Int.reduceToNat, hg]
    exact finQ_same (by simp (disch := first | rfl | omega | exact lt_new _ | assumption | decide | (simp [tk_here, tk_app, tk_0, tk_S, gr_here, gr_app, gr_0, gr_S] <;> omega) | fail) only [go_sem, ↓reduceIte, Nat.reduceLT, Nat.reduceEqDiff, Nat.reduceAdd, Nat.reduceMul, Nat.reduceSub, Int.reduceAdd, Int.reduceSub, Nat.reduceLeDiff, Int.reduceLT, Int.reduceLE, Int.reduceEq, Int.reduceNeg, Int.reduceToNat])
  simp (disch := first | rfl | omega | exact lt_new _ | assumption | decide | (simp [tk_here, tk_app, tk_0, tk_S, gr_here, gr_app, gr_0, gr_S] <;> omega) | fail) only [r31_0, r31_1, r31_2, r31_3, r31_4, r31_5, r31_6, r31_7, r31_8, r31_9, r31_11, c31, rs31, gc31, go_sem, ↓reduceIte, Nat.reduceLT, Nat.reduceEqDiff, Nat.reduceAdd, Nat.reduceMul, Nat.reduceSub, Int.reduceAdd, Int.reduceSub, Nat.reduceLeDiff, Int.reduceLT, Int.reduceLE, Int.reduceEq, Int.reduceNeg, Int.reduceToNat, hg]
  refine Wp_loop (fun m T D H' => ∃ i G, m = l.length - i ∧ i ≤ l.length ∧ D = [] ∧ H' = H ++ G ∧ get T 1 = slV b' pkE l' ∧ get T 2 = .fn f [] [] ∧ get T 15 = slV b pkE l ∧ get T 16 = .int .i64 l.length ∧ get T 17 = .int .i64 i ∧ sameL S l l' = sameL S (l.drop i) (l'.drop i)) ?_ l.length _ _ _ ?_
  case refine_2 => exact ⟨0, [], by simp [go_sem, hg]⟩
  rintro m T D H' ⟨i, G, rfl, hi, rfl, rfl, t1, t2, t15, t16, t17, hs⟩
  by_cases hlt : i < l.length
  · have hlt' : (i : Int) < l.length := by omega
    have hlt3 : i < l'.length := by omega
    have hlt2 : (i : Int) < l'.length := by omega
    rw [sameL_drop pkE hlt hlt3] at hs
    have hfi := hf _ (pkE.at_mem hlt) _ (pkE.at_mem hlt3)
    by_cases hq : S (pkE.at l i) (pkE.at l' i) = true
    · rw [hq, Bool.true_and] at hs
      simp (disch := first | rfl | omega | exact lt_new _ | assumption | decide | (simp [tk_here, tk_app, tk_0, tk_S, gr_here, gr_app, gr_0, gr_S] <;> omega) | fail) only [r31_0, r31_1, r31_2, r31_3, r31_4, r31_5, r31_6, r31_7, r31_8, r31_9, l31_10, r31_11, c31, rs31, gc31, go_sem, ↓reduceIte, Nat.reduceLT, Nat.reduceEqDiff, Nat.reduceAdd, Nat.reduceMul, Nat.reduceSub, Int.reduceAdd, Int.reduceSub, Nat.reduceLeDiff, Int.reduceLT, Int.reduceLE, Int.reduceEq, Int.reduceNeg, Int.reduceToNat, loadV_ptr, storeV_ptr, List.append_assoc, List.length_append, List.length_cons, List.length_nil, List.set_cons_zero, List.set_cons_succ, tk_here, tk_app, gr_here, gr_app, st_here, st_app, t1, t2, t15, t16, t17, hlt', hq, hk, hfi]
      exact ⟨_, by omega, i + 1, _, rfl, hlt, rfl, rfl, hs⟩
    · rw [Bool.not_eq_true] at hq
      rw [hq, Bool.false_and] at hs
      simp (disch := first | rfl | omega | exact lt_new _ | assumption | decide | (simp [tk_here, tk_app, tk_0, tk_S, gr_here, gr_app, gr_0, gr_S] <;> omega) | fail) only [r31_0, r31_1, r31_2, r31_3, r31_4, r31_5, r31_6, r31_7, r31_8, r31_9, l31_10, r31_11, c31, rs31, gc31, go_sem, ↓reduceIte, Nat.reduceLT, Nat.reduceEqDiff, Nat.reduceAdd, Nat.reduceMul, Nat.reduceSub, Int.reduceAdd, Int.reduceSub, Nat.reduceLeDiff, Int.reduceLT, Int.reduceLE, Int.reduceEq, Int.reduceNeg, Int.reduceToNat, loadV_ptr, storeV_ptr, List.append_assoc, List.length_append, List.length_cons, List.length_nil, List.set_cons_zero, List.set_cons_succ, tk_here, tk_app, gr_here, gr_app, st_here, st_app, t1, t2, t15, t16, t17, hlt', hq, hk, hfi]
      exact finQ_app (by simp (disch := first | rfl | omega | exact lt_new _ | assumption | decide | (simp [tk_here, tk_app, tk_0, tk_S, gr_here, gr_app, gr_0, gr_S] <;> omega) | fail) only [go_sem, ↓reduceIte, Nat.reduceLT, Nat.reduceEqDiff, Nat.reduceAdd, Nat.reduceMul, Nat.reduceSub, Int.reduceAdd, Int.reduceSub, Nat.reduceLeDiff, Int.reduceLT, Int.reduceLE, Int.reduceEq, Int.reduceNeg, Int.reduceToNat, hs])
  · obtain rfl : i = l.length := by omega
    have hs1 : sameL S l l' = true := by rw [hs, List.drop_length, List.drop_eq_nil_of_le (by omega)]; rfl
    simp (disch := first | rfl | omega | exact lt_new _ | assumption | decide | (simp [tk_here, tk_app, tk_0, tk_S, gr_here, gr_app, gr_0, gr_S] <;> omega) | fail) only [r31_0, r31_1, r31_2, r31_3, r31_4, r31_5, r31_6, r31_7, r31_8, r31_9, l31_10, r31_11, c31, rs31, gc31, go_sem, ↓reduceIte, Nat.reduceLT, Nat.reduceEqDiff, Nat.reduceAdd, Nat.reduceMul, Nat.reduceSub, Int.reduceAdd, Int.reduceSub, Nat.reduceLeDiff, Int.reduceLT, Int.reduceLE, Int.reduceEq, Int.reduceNeg, Int.reduceToNat, t1, t2, t15, t16, t17, Int.lt_irrefl]
    exact finQ_app (by simp (disch := first | rfl | omega | exact lt_new _ | assumption | decide | (simp [tk_here, tk_app, tk_0, tk_S, gr_here, gr_app, gr_0, gr_S] <;> omega) | fail) only [go_sem, ↓reduceIte, Nat.reduceLT, Nat.reduceEqDiff, Nat.reduceAdd, Nat.reduceMul, Nat.reduceSub, Int.reduceAdd, Int.reduceSub, Nat.reduceLeDiff, Int.reduceLT, Int.reduceLE, Int.reduceEq, Int.reduceNeg, Int.reduceToNat, hs1])

end Go.Proofs.Ytdkeiaeaahpfdaa
/-
  Whether captures are equal, for the program; how much right captures weigh; walked. No statement of the seat stands here.
-/
namespace Go.Proofs.Ytdkeiaeaahpfdaa
open Go Go.An
set_option maxRecDepth 4000
set_option linter.unusedSimpArgs false
set_option linter.unusedVariables false

theorem fn27 (x y : Nm) (hx : NmOk x) (H : Hp) : callL Try.prog pr 27 [.agg (nmE.f x), .agg (nmE.f y)] H = some (.bool (nmS x y), H) := by
  have h71 := fun H => fn28 (b := x.addrN) (b' := y.addrN) (l := x.addr) (l' := y.addr) (by have := hx.1; omega) H
  refine run27 (Nat.le_of_ble_eq_true rfl) ?_
  unfold nmS
  have hy := True.intro
  repeat' (first | simp (disch := first | rfl | omega | exact lt_new _ | assumption | decide | (simp [tk_here, tk_app, tk_0, tk_S, gr_here, gr_app, gr_0, gr_S] <;> omega) | fail) only [r27_0, r27_1, c27, rs27, gc27, loadV_ptr, storeV_ptr, List.append_assoc, List.length_append, List.length_cons, List.length_nil, List.set_cons_zero, List.set_cons_succ, tk_here, tk_app, gr_here, gr_app, st_here, st_app, h71, go_sem, ↓reduceIte, Nat.reduceLT, Nat.reduceEqDiff, Nat.reduceAdd, Nat.reduceMul, Nat.reduceSub, Int.reduceAdd, Int.reduceSub, Nat.reduceLeDiff, Int.reduceLT, Int.reduceLE, Int.reduceEq, Int.reduceNeg, Int.reduceToNat, hy] | ((first | refine guardB_dec (fun hy => ?_) (fun hy => ?_) | refine guardB_bool (fun hy => ?_) (fun hy => ?_) | refine guardQ_ite (fun hy => ?_) (fun hy => ?_) | refine brQ_dec (fun hy => ?_) (fun hy => ?_) | refine brQ_bool (fun hy => ?_) (fun hy => ?_)) <;> (try simp only [Bool.not_eq_true', Bool.not_eq_false', Bool.and_eq_true, Bool.or_eq_false_iff, decide_eq_true_eq, decide_eq_false_iff_not] at hy)))
  all_goals (try ((first | refine finQ_same ?_ | refine finQ_app ?_ | (rw [List.append_assoc]; refine finQ_app ?_)) <;> simp (disch := first | rfl | omega | exact lt_new _ | assumption | decide | (simp [tk_here, tk_app, tk_0, tk_S, gr_here, gr_app, gr_0, gr_S] <;> omega) | fail) only [go_sem, ↓reduceIte, Nat.reduceLT, Nat.reduceEqDiff, Nat.reduceAdd, Nat.reduceMul, Nat.reduceSub, Int.reduceAdd, Int.reduceSub, Nat.reduceLeDiff, Int.reduceLT, Int.reduceLE, Int.reduceEq, Int.reduceNeg, Int.reduceToNat, List.append_assoc, List.cons_append, List.nil_append, *]))
  all_goals (try first | rfl | (simp [*]; done) | grind)
theorem fn30 (x y : Sc) (hx : ScOk x) (H : Hp) : callL Try.prog pr 30 [.agg (scE.f x), .agg (scE.f y)] H = some (.bool (scS x y), H) := by
  have h71 := fun H => fn28 (b := x.keyN) (b' := y.keyN) (l := x.key) (l' := y.key) (by have := hx.2; omega) H
  refine run30 (Nat.le_of_ble_eq_true rfl) ?_
  unfold scS
  have hy := True.intro
  repeat' (first | simp (disch := first | rfl | omega | exact lt_new _ | assumption | decide | (simp [tk_here, tk_app, tk_0, tk_S, gr_here, gr_app, gr_0, gr_S] <;> omega) | fail) only [r30_0, r30_1, c30, rs30, gc30, loadV_ptr, storeV_ptr, List.append_assoc, List.length_append, List.length_cons, List.length_nil, List.set_cons_zero, List.set_cons_succ, tk_here, tk_app, gr_here, gr_app, st_here, st_app, h71, go_sem, ↓reduceIte, Nat.reduceLT, Nat.reduceEqDiff, Nat.reduceAdd, Nat.reduceMul, Nat.reduceSub, Int.reduceAdd, Int.reduceSub, Nat.reduceLeDiff, Int.reduceLT, Int.reduceLE, Int.reduceEq, Int.reduceNeg, Int.reduceToNat, hy] | ((first | refine guardB_dec (fun hy => ?_) (fun hy => ?_) | refine guardB_bool (fun hy => ?_) (fun hy => ?_) | refine guardQ_ite (fun hy => ?_) (fun hy => ?_) | refine brQ_dec (fun hy => ?_) (fun hy => ?_) | refine brQ_bool (fun hy => ?_) (fun hy => ?_)) <;> (try simp only [Bool.not_eq_true', Bool.not_eq_false', Bool.and_eq_true, Bool.or_eq_false_iff, decide_eq_true_eq, decide_eq_false_iff_not] at hy)))
  all_goals (try ((first | refine finQ_same ?_ | refine finQ_app ?_ | (rw [List.append_assoc]; refine finQ_app ?_)) <;> simp (disch := first | rfl | omega | exact lt_new _ | assumption | decide | (simp [tk_here, tk_app, tk_0, tk_S, gr_here, gr_app, gr_0, gr_S] <;> omega) | fail) only [go_sem, ↓reduceIte, Nat.reduceLT, Nat.reduceEqDiff, Nat.reduceAdd, Nat.reduceMul, Nat.reduceSub, Int.reduceAdd, Int.reduceSub, Nat.reduceLeDiff, Int.reduceLT, Int.reduceLE, Int.reduceEq, Int.reduceNeg, Int.reduceToNat, List.append_assoc, List.cons_append, List.nil_append, *]))
  all_goals (try first | rfl | (simp [*]; done) | grind)
theorem fn32 (x y : Pk) (hx : x.data.length ≤ 2 ^ 62) (H : Hp) : callL Try.prog pr 32 [.agg (pkE.f x), .agg (pkE.f y)] H = some (.bool (pkS x y), H) := by
  have h71 := fun H => fn28 (b := x.dataN) (b' := y.dataN) (l := x.data) (l' := y.data) hx H
  refine run32 (Nat.le_of_ble_eq_true rfl) ?_
  unfold pkS
  have hy := True.intro
  repeat' (first | simp (disch := first | rfl | omega | exact lt_new _ | assumption | decide | (simp [tk_here, tk_app, tk_0, tk_S, gr_here, gr_app, gr_0, gr_S] <;> omega) | fail) only [r32_0, r32_1, c32, rs32, gc32, loadV_ptr, storeV_ptr, List.append_assoc, List.length_append, List.length_cons, List.length_nil, List.set_cons_zero, List.set_cons_succ, tk_here, tk_app, gr_here, gr_app, st_here, st_app, h71, go_sem, ↓reduceIte, Nat.reduceLT, Nat.reduceEqDiff, Nat.reduceAdd, Nat.reduceMul, Nat.reduceSub, Int.reduceAdd, Int.reduceSub, Nat.reduceLeDiff, Int.reduceLT, Int.reduceLE, Int.reduceEq, Int.reduceNeg, Int.reduceToNat, hy] | ((first | refine guardB_dec (fun hy => ?_) (fun hy => ?_) | refine guardB_bool (fun hy => ?_) (fun hy => ?_) | refine guardQ_ite (fun hy => ?_) (fun hy => ?_) | refine brQ_dec (fun hy => ?_) (fun hy => ?_) | refine brQ_bool (fun hy => ?_) (fun hy => ?_)) <;> (try simp only [Bool.not_eq_true', Bool.not_eq_false', Bool.and_eq_true, Bool.or_eq_false_iff, decide_eq_true_eq, decide_eq_false_iff_not] at hy)))
  all_goals (try ((first | refine finQ_same ?_ | refine finQ_app ?_ | (rw [List.append_assoc]; refine finQ_app ?_)) <;> simp (disch := first | rfl | omega | exact lt_new _ | assumption | decide | (simp [tk_here, tk_app, tk_0, tk_S, gr_here, gr_app, gr_0, gr_S] <;> omega) | fail) only [go_sem, ↓reduceIte, Nat.reduceLT, Nat.reduceEqDiff, Nat.reduceAdd, Nat.reduceMul, Nat.reduceSub, Int.reduceAdd, Int.reduceSub, Nat.reduceLeDiff, Int.reduceLT, Int.reduceLE, Int.reduceEq, Int.reduceNeg, Int.reduceToNat, List.append_assoc, List.cons_append, List.nil_append, *]))
  all_goals (try first | rfl | (simp [*]; done) | grind)
theorem fcS_eq {l m : List Fc} : sameL fcS l m = decide (l = m) := sameL_eq
theorem fn12 (c d : Cp) (hc : CpOk c) (H : Hp) : callL Try.prog pr 12 [.agg (cpE.f c), .agg (cpE.f d)] H = some (.bool (sameB c d), H) := by
  obtain ⟨f1, f2, f3, f4⟩ := hc.fits
  obtain ⟨o0, o1, o1l, o2, o2l, o3, o3l, o4, o4l⟩ := hc
  have h122 := fun H => fn26 (b := c.namesN) (b' := d.namesN) (l := c.names) (l' := d.names) f2 nmS 27 kp27 (fun x hx y _ H => fn27 x y (o2 x hx) H) H
  have h124 := fun H => fn29 (b := c.secretsN) (b' := d.secretsN) (l := c.secrets) (l' := d.secrets) f3 scS 30 kp30 (fun x hx y _ H => fn30 x y (o3 x hx) H) H
  have h126 := fun H => fn31 (b := c.packetsN) (b' := d.packetsN) (l := c.packets) (l' := d.packets) f4 pkS 32 kp32 (fun x hx y _ H => fn32 x y (by have := (o4 x hx).2.2.2.1; omega) H) H
  have h128 := fun H => fn33 (b := c.facesN) (b' := d.facesN) (l := c.faces) (l' := d.faces) f1 H
  have hS : sameB c d = (decide (c.note = d.note) && decide (c.faces = d.faces) && sameL nmS c.names d.names && sameL scS c.secrets d.secrets && sameL pkS c.packets d.packets) := by
    unfold sameB
    rw [fcS_eq]
  rw [hS]
  refine pur_eq rfl rfl (by simp [go_sem]) rfl ?_
  clear H
  intro H
  refine run12 (Nat.le_of_ble_eq_true rfl) ?_
  have hy := True.intro
  repeat' (first | simp (disch := first | rfl | omega | exact lt_new _ | assumption | decide | (simp [tk_here, tk_app, tk_0, tk_S, gr_here, gr_app, gr_0, gr_S] <;> omega) | fail) only [r12_0, r12_1, r12_2, r12_3, r12_4, c12, rs12, gc12, loadV_ptr, storeV_ptr, List.append_assoc, List.length_append, List.length_cons, List.length_nil, List.set_cons_zero, List.set_cons_succ, tk_here, tk_app, gr_here, gr_app, st_here, st_app, h122, h124, h126, h128, go_sem, ↓reduceIte, Nat.reduceLT, Nat.reduceEqDiff, Nat.reduceAdd, Nat.reduceMul, Nat.reduceSub, Int.reduceAdd, Int.reduceSub, Nat.reduceLeDiff, Int.reduceLT, Int.reduceLE, Int.reduceEq, Int.reduceNeg, Int.reduceToNat, hy] | ((first | refine guardB_dec (fun hy => ?_) (fun hy => ?_) | refine guardB_bool (fun hy => ?_) (fun hy => ?_) | refine guardQ_ite (fun hy => ?_) (fun hy => ?_) | refine brQ_dec (fun hy => ?_) (fun hy => ?_) | refine brQ_bool (fun hy => ?_) (fun hy => ?_)) <;> (try simp only [Bool.not_eq_true', Bool.not_eq_false', Bool.and_eq_true, Bool.or_eq_false_iff, decide_eq_true_eq, decide_eq_false_iff_not] at hy)))
  all_goals (try ((first | refine finQ_same ?_ | refine finQ_app ?_ | (rw [List.append_assoc]; refine finQ_app ?_)) <;> simp (disch := first | rfl | omega | exact lt_new _ | assumption | decide | (simp [tk_here, tk_app, tk_0, tk_S, gr_here, gr_app, gr_0, gr_S] <;> omega) | fail) only [go_sem, ↓reduceIte, Nat.reduceLT, Nat.reduceEqDiff, Nat.reduceAdd, Nat.reduceMul, Nat.reduceSub, Int.reduceAdd, Int.reduceSub, Nat.reduceLeDiff, Int.reduceLT, Int.reduceLE, Int.reduceEq, Int.reduceNeg, Int.reduceToNat, List.append_assoc, List.cons_append, List.nil_append, *]))
  all_goals (try first | rfl | (simp [*]; done) | grind)
end Go.Proofs.Ytdkeiaeaahpfdaa
/-
  capt.Write of the old kind, walked; that what is plain is right and stays as it is. No statement of the seat stands here.
-/
namespace Go.Proofs.Ytdkeiaeaahpfdaa
open Go Go.An
set_option maxRecDepth 4000
set_option linter.unusedSimpArgs false
set_option linter.unusedVariables false

theorem val_congr {a b : Cp} (h : CpEq a b) : valE a = valE b := by
  obtain ⟨h1, h2, h3, h4, h5⟩ := h
  unfold valE largeB wrongB
  rw [h1, h2, h3, h4, h5]
theorem plF_congr {a b : Cp} (h : CpEq a b) : plF a = plF b := by
  have hv := val_congr h
  obtain ⟨h1, h2, h3, h4, h5⟩ := h
  unfold plF
  rw [hv, h2, h5]
theorem old_noN (p : Pk) : oldB (noN p) = oldB p := rfl
theorem noN_noN (p : Pk) : noN (noN p) = noN p := rfl
theorem plP_plP : ∀ l : List Pk, plP (plP l) = plP l
  | [] => rfl
  | p :: l => by
    unfold plP
    by_cases hb : oldB p = true
    · rw [List.filter_cons_of_pos hb, List.map_cons, List.filter_cons_of_pos (by rw [old_noN]; exact hb), List.map_cons, noN_noN]
      congr 1
      exact plP_plP l
    · rw [List.filter_cons_of_neg hb]
      exact plP_plP l
theorem fc0 (f : Fc) : fcE.at [f] 0 = f := rfl
theorem plain_val {c : Cp} (hv : valE c = 0) : valE (plF c).1 = 0 := by
  obtain ⟨hpf, ⟨l4, l3, l2, l1⟩, hf1⟩ := val_pk hv
  have hfc : ∀ f ∈ c.faces, fcB f = true := by
    unfold valE at hv
    split at hv
    · cases hv
    · split at hv
      · cases hv
      · rename_i h2
        unfold wrongB at h2
        simp only [Bool.or_eq_true, decide_eq_true_eq, not_or, List.any_eq_true, not_exists, not_and, Bool.not_eq_true', Bool.not_eq_false] at h2
        exact fun f hf => h2.1.1.1.2 f hf
  have hf := hfc _ (fcE.at_mem hf1)
  unfold plF
  rw [if_pos hv]
  obtain ⟨f, hfe⟩ : ∃ f, fcE.at c.faces 0 = f := ⟨_, rfl⟩
  rw [hfe] at hf ⊢
  have ht : txB [] = true := rfl
  have hf' : fcB {f with name := []} = true := by
    unfold fcB at hf ⊢
    simp only [Bool.and_eq_true] at hf ⊢
    exact ⟨⟨⟨⟨ht, hf.1.1.1.2⟩, hf.1.1.2⟩, hf.1.2⟩, hf.2⟩
  have hl : largeB (⟨[], false, [{f with name := []}], true, [], true, [], true, plP c.packets⟩ : Cp) = false := by
    unfold largeB
    have := plP_len c.packets
    simp
    omega
  have hw : wrongB (⟨[], false, [{f with name := []}], true, [], true, [], true, plP c.packets⟩ : Cp) = false := by
    unfold wrongB
    simp only [List.length_cons, List.length_nil, ht, List.any_cons, List.any_nil, hf', Bool.not_true, Bool.or_false, Bool.or_eq_false_iff, List.any_eq_false, Bool.not_eq_true', Bool.not_eq_false, Bool.not_eq_false']
    refine ⟨by simp, fun p hp => ?_⟩
    obtain ⟨q, hq, hob, rfl⟩ := plP_mem hp
    have hh := hpf q hq
    unfold oldB at hob
    simp only [Bool.and_eq_true, decide_eq_true_eq] at hob
    unfold pfB pkB at hh ⊢
    rw [hob.1] at hh
    rw [show (noN q).face = 0 from hob.1]
    have hz : (0 : Int).toNat = 0 := rfl
    rw [hz, hfe] at hh
    rw [hz, fc0]
    simp only [Bool.and_eq_true] at hh ⊢
    refine ⟨⟨by decide, by simp⟩, ?_⟩
    obtain ⟨_, ⟨⟨⟨⟨⟨a1, a2⟩, a3⟩, a4⟩, a5⟩, a6⟩, a7⟩ := hh
    exact ⟨⟨⟨⟨⟨⟨a1, a2⟩, a3⟩, ht⟩, a5⟩, a6⟩, a7⟩
  unfold valE
  rw [hl, hw]
  rfl
theorem plain_plain {c : Cp} (hv : valE c = 0) : CpEq (plF (plF c).1).1 (plF c).1 := by
  have h2 := plain_val hv
  unfold plF
  rw [if_pos (by unfold plF at h2; exact h2), if_pos hv]
  exact ⟨rfl, rfl, rfl, rfl, plP_plP _⟩
theorem CpEq.ok {a b : Cp} (h : CpEq a b) (hb : CpOk b) : CpOk a := by
  obtain ⟨h1, h2, h3, h4, h5⟩ := h
  unfold CpOk
  rw [h1, h2, h3, h4, h5]
  exact hb
theorem noCp_ok : CpOk noCp := by
  refine ⟨by simp [noCp], fun x hx => ?_, by simp [noCp], fun x hx => ?_, by simp [noCp], fun x hx => ?_, by simp [noCp], fun x hx => ?_, by simp [noCp]⟩ <;> cases hx
theorem plain_ok {c : Cp} (hc : CpOk c) : CpOk (plF c).1 := by
  unfold plF
  split
  · rename_i hv
    obtain ⟨hpf, ⟨l4, l3, l2, l1⟩, hf1⟩ := val_pk hv
    obtain ⟨o0, o1, o1l, o2, o2l, o3, o3l, o4, o4l⟩ := hc
    have hf := o1 _ (fcE.at_mem hf1)
    have := plP_len c.packets
    refine ⟨by simp, fun x hx => ?_, by simp, fun x hx => (by cases hx), by simp, fun x hx => (by cases hx), by simp, fun x hx => ?_, by show (plP c.packets).length ≤ _; omega⟩
    · obtain rfl := List.mem_singleton.1 hx
      exact ⟨by simp, hf.2⟩
    · obtain ⟨q, hq, _, rfl⟩ := plP_mem hx
      obtain ⟨a1, a2, a3, a4, a5⟩ := o4 q hq
      exact ⟨a1, a2, a3, a4, by simp [noN]⟩
  · exact noCp_ok
theorem same_self (c : Cp) : sameB c c = true := by
  unfold sameB
  rw [sameL_refl (by simp [fcS]), sameL_refl (by simp [nmS]), sameL_refl (by simp [scS]), sameL_refl (by simp [pkS])]
  simp
theorem same_plain (c : Cp) : sameB (plF c).1 (plR c).1 = true ∧ (plF c).2 = (plR c).2 := by
  unfold plF plR
  split
  · refine ⟨?_, rfl⟩
    unfold sameB
    have e3 : sameL pkS (plP c.packets) (plQ c.packets) = true := sameL_map (fun x => by simp [pkS, noN, cpk]) _
    rw [e3, sameL_refl (by simp [fcS])]
    rfl
  · exact ⟨same_self _, rfl⟩
set_option maxHeartbeats 2000000 in
theorem fn11 (c : Cp) (hc : CpOk c) (hv : valE c = 0) (hs : CpEq (plF c).1 c) (H : Hp) : ∃ v, callL Try.prog pr 11 [.agg (cpE.f c), .bool true, .bool false] H = some (.tup [v, .int .i64 0], H) := by
  suffices h : ∃ r, callL Try.prog pr 11 [.agg (cpE.f c), .bool true, .bool false] H = some r ∧ ∃ v, r = (.tup [v, .int .i64 0], H) by
    obtain ⟨_, h1, v, rfl⟩ := h; exact ⟨v, h1⟩
  have hval := fn18 c hc
  obtain ⟨d, e8, hd⟩ : ∃ d : Hp → Cp, (∀ H, callL Try.prog pr 8 [.agg (cpE.f c)] H = some (.tup [.agg (cpE.f (d H)), .int .i64 0], H)) ∧ ∀ H, CpEq (d H) (plF c).1 := by
    have hp : (plF c).2 = 0 := by unfold plF; rw [if_pos hv]
    have h8 : ∀ H, ∃ d, callL Try.prog pr 8 [.agg (cpE.f c)] H = some (.tup [.agg (cpE.f d), .int .i64 0], H) ∧ CpEq d (plF c).1 := fun H => by
      obtain ⟨d, h1, h2⟩ := fn8 c hc H
      rw [hp] at h1
      exact ⟨d, h1, h2⟩
    exact ⟨fun H => (h8 H).choose, fun H => (h8 H).choose_spec.1, fun H => (h8 H).choose_spec.2⟩
  have e12 : ∀ H' H, callL Try.prog pr 12 [.agg (cpE.f (d H')), .agg (cpE.f c)] H = some (.bool true, H) := fun H' H => by
    rw [fn12 _ _ ((hd H').ok (plain_ok hc)), sameB_congr' (hd H') (CpEq.rfl' c), sameB_congr' hs (CpEq.rfl' c), same_self]
  refine ex11 (Nat.le_of_ble_eq_true rfl) ?_
  obtain ⟨r, v', K', out', e24, q⟩ := fn24 c hv H [AB.row 0 (cpE.f (d (H ++ [AB.row 0 [.ifc 78 true [], .nilslice] true]))) true]
  obtain ⟨k11, k12, k13, k14, k15, k16, k17⟩ := q.m.cell
  have hy := True.intro
  repeat' (first | simp (disch := first | rfl | omega | exact lt_new _ | assumption | decide | (simp [tk_here, tk_app, tk_0, tk_S, gr_here, gr_app, gr_0, gr_S] <;> omega) | fail) only [r11_0, r11_1, r11_2, r11_3, r11_4, r11_5, r11_6, r11_7, r11_8, r11_9, r11_10, r11_11, r11_12, c11, rs11, gc11, loadV_ptr, storeV_ptr, List.append_assoc, List.length_append, List.length_cons, List.length_nil, List.set_cons_zero, List.set_cons_succ, tk_here, tk_app, gr_here, gr_app, st_here, st_app, hval, hv, fn23, e8, e12, e24, k11, k12, k13, k14, k15, k16, k17, go_sem, ↓reduceIte, Nat.reduceLT, Nat.reduceEqDiff, Nat.reduceAdd, Nat.reduceMul, Nat.reduceSub, Int.reduceAdd, Int.reduceSub, Nat.reduceLeDiff, Int.reduceLT, Int.reduceLE, Int.reduceEq, Int.reduceNeg, Int.reduceToNat, hy] | ((first | refine guardB_dec (fun hy => ?_) (fun hy => ?_) | refine guardB_bool (fun hy => ?_) (fun hy => ?_) | refine guardQ_ite (fun hy => ?_) (fun hy => ?_) | refine brQ_dec (fun hy => ?_) (fun hy => ?_) | refine brQ_bool (fun hy => ?_) (fun hy => ?_)) <;> (try simp only [Bool.not_eq_true', Bool.not_eq_false', Bool.and_eq_true, Bool.or_eq_false_iff, decide_eq_true_eq, decide_eq_false_iff_not] at hy)))
  rcases q with ⟨rfl, _⟩ | ⟨_, j, g, rfl, hj, hr⟩
  · exact ⟨.nilslice, finQ_app (by simp (disch := first | rfl | omega | exact lt_new _ | assumption | decide | (simp [tk_here, tk_app, tk_0, tk_S, gr_here, gr_app, gr_0, gr_S] <;> omega) | fail) only [go_sem, ↓reduceIte, Nat.reduceLT, Nat.reduceEqDiff, Nat.reduceAdd, Nat.reduceMul, Nat.reduceSub, Int.reduceAdd, Int.reduceSub, Nat.reduceLeDiff, Int.reduceLT, Int.reduceLE, Int.reduceEq, Int.reduceNeg, Int.reduceToNat])⟩
  · have hb : (H ++ AB.row 0 [.ifc 78 true [], .slice (H.length + 1 + j) g 0 out'.length 1 .full] true :: K')[H.length + 1 + j]? = some (.row g (flatE byE out') true) := by
      rw [List.getElem?_append_right (by omega), show H.length + 1 + j - H.length = j + 1 by omega, List.getElem?_cons_succ]
      exact (RowM.get hr).1
    have hi : inlA H.length (H ++ AB.row 0 [.ifc 78 true [], .slice (H.length + 1 + j) g 0 out'.length byE.w .full] true :: K') 8 (.slice (H.length + 1 + j) g 0 out'.length byE.w .full) = some (.isl (flatE byE out') out'.length 1) := inlB_row (f := 6) (by omega) hb flatE_len flatE_imm
    exact ⟨.isl (flatE byE out') out'.length 1, finQ_app (by simp (disch := first | rfl | omega | exact lt_new _ | assumption | decide | (simp [tk_here, tk_app, tk_0, tk_S, gr_here, gr_app, gr_0, gr_S] <;> omega) | fail) only [go_sem, ↓reduceIte, Nat.reduceLT, Nat.reduceEqDiff, Nat.reduceAdd, Nat.reduceMul, Nat.reduceSub, Int.reduceAdd, Int.reduceSub, Nat.reduceLeDiff, Int.reduceLT, Int.reduceLE, Int.reduceEq, Int.reduceNeg, Int.reduceToNat, hi])⟩
theorem plain_fits {c : Cp} (hc : CpOk c) : Fits (plF c).1 := (plain_ok hc).fits
set_option maxHeartbeats 2000000 in
theorem fn3 (c : Cp) (hc : CpOk c) (H : Hp) : callL Try.prog pr 3 [.agg (cpE.f c)] H = some (.bool true, H) := by
  obtain ⟨b, h6⟩ : ∃ b : Hp → Bool, ∀ H, callL Try.prog pr 6 [.agg (cpE.f c)] H = some (.bool (b H), H) := ⟨fun H => (fn6 c hc H).choose, fun H => (fn6 c hc H).choose_spec⟩
  obtain ⟨d1, h1⟩ : ∃ d : Hp → Cp, ∀ H, callL Try.prog pr 8 [.agg (cpE.f c)] H = some (.tup [.agg (cpE.f (d H)), .int .i64 (plF c).2], H) ∧ CpEq (d H) (plF c).1 := ⟨fun H => (fn8 c hc H).choose, fun H => (fn8 c hc H).choose_spec⟩
  obtain ⟨d2, h2⟩ : ∃ d : Hp → Cp, ∀ H, callL Try.prog pr 9 [.agg (cpE.f c)] H = some (.tup [.agg (cpE.f (d H)), .int .i64 (plR c).2], H) ∧ CpEq (d H) (plR c).1 := ⟨fun H => (fn9 c hc H).choose, fun H => (fn9 c hc H).choose_spec⟩
  have s12 : ∀ H1 H2 H, callL Try.prog pr 10 [.agg (cpE.f (d1 H1)), .agg (cpE.f (d2 H2))] H = some (.bool true, H) := fun H1 H2 H => by
    rw [fn10 _ _ ((h1 H1).2.fits (plain_fits hc)), sameB_congr' (h1 H1).2 (h2 H2).2, (same_plain c).1]
  have e1 := fun H => (h1 H).1
  have e2 := fun H => (h2 H).1
  rw [← (same_plain c).2] at e2
  by_cases hv : valE c = 0
  case neg =>
    have hne : ¬ (plF c).2 = 0 := by unfold plF; rw [if_neg hv]; exact hv
    refine run3 (Nat.le_of_ble_eq_true rfl) ?_
    have hy := True.intro
    repeat' (first | simp (disch := first | rfl | omega | exact lt_new _ | assumption | decide | (simp [tk_here, tk_app, tk_0, tk_S, gr_here, gr_app, gr_0, gr_S] <;> omega) | fail) only [r3_0, r3_1, r3_2, r3_3, r3_4, r3_5, r3_6, r3_7, r3_8, r3_9, r3_10, r3_11, c3, rs3, gc3, loadV_ptr, storeV_ptr, List.append_assoc, List.length_append, List.length_cons, List.length_nil, List.set_cons_zero, List.set_cons_succ, tk_here, tk_app, gr_here, gr_app, st_here, st_app, known_call, h6, e1, e2, s12, hne, go_sem, ↓reduceIte, Nat.reduceLT, Nat.reduceEqDiff, Nat.reduceAdd, Nat.reduceMul, Nat.reduceSub, Int.reduceAdd, Int.reduceSub, Nat.reduceLeDiff, Int.reduceLT, Int.reduceLE, Int.reduceEq, Int.reduceNeg, Int.reduceToNat, hy] | ((first | refine guardB_dec (fun hy => ?_) (fun hy => ?_) | refine guardB_bool (fun hy => ?_) (fun hy => ?_) | refine guardQ_ite (fun hy => ?_) (fun hy => ?_) | refine brQ_dec (fun hy => ?_) (fun hy => ?_) | refine brQ_bool (fun hy => ?_) (fun hy => ?_)) <;> (try simp only [Bool.not_eq_true', Bool.not_eq_false', Bool.and_eq_true, Bool.or_eq_false_iff, decide_eq_true_eq, decide_eq_false_iff_not] at hy)))
    all_goals (try ((first | refine finQ_same ?_ | refine finQ_app ?_ | (rw [List.append_assoc]; refine finQ_app ?_)) <;> simp (disch := first | rfl | omega | exact lt_new _ | assumption | decide | (simp [tk_here, tk_app, tk_0, tk_S, gr_here, gr_app, gr_0, gr_S] <;> omega) | fail) only [go_sem, ↓reduceIte, Nat.reduceLT, Nat.reduceEqDiff, Nat.reduceAdd, Nat.reduceMul, Nat.reduceSub, Int.reduceAdd, Int.reduceSub, Nat.reduceLeDiff, Int.reduceLT, Int.reduceLE, Int.reduceEq, Int.reduceNeg, Int.reduceToNat, List.append_assoc, List.cons_append, List.nil_append, *]))
    all_goals (try first | rfl | (simp [*]; done) | grind)
  have h0 : (plF c).2 = 0 := by unfold plF; rw [if_pos hv]
  have ok1 := fun H => (h1 H).2.ok (plain_ok hc)
  have v1 : ∀ H, valE (d1 H) = 0 := fun H => (val_congr (h1 H).2).trans (plain_val hv)
  have p1 : ∀ H, CpEq (plF (d1 H)).1 (plF c).1 := fun H => by rw [plF_congr (h1 H).2]; exact plain_plain hv
  have q1 : ∀ H, CpEq (plF (d1 H)).1 (d1 H) := fun H => by
    obtain ⟨a1, a2, a3, a4, a5⟩ := p1 H
    obtain ⟨b1, b2, b3, b4, b5⟩ := (h1 H).2
    exact ⟨a1.trans b1.symm, a2.trans b2.symm, a3.trans b3.symm, a4.trans b4.symm, a5.trans b5.symm⟩
  obtain ⟨w, e11⟩ : ∃ w : Hp → Hp → V, ∀ H1 H, callL Try.prog pr 11 [.agg (cpE.f (d1 H1)), .bool true, .bool false] H = some (.tup [w H1 H, .int .i64 0], H) := ⟨fun H1 H => (fn11 (d1 H1) (ok1 H1) (v1 H1) (q1 H1) H).choose, fun H1 H => (fn11 (d1 H1) (ok1 H1) (v1 H1) (q1 H1) H).choose_spec⟩
  have h8 : ∀ H1 H, ∃ d, callL Try.prog pr 8 [.agg (cpE.f (d1 H1))] H = some (.tup [.agg (cpE.f d), .int .i64 0], H) ∧ CpEq d (plF c).1 := fun H1 H => by
    obtain ⟨d, a1, a2⟩ := fn8 (d1 H1) (ok1 H1) H
    have hp : (plF (d1 H1)).2 = 0 := by unfold plF; rw [if_pos (v1 H1)]
    rw [hp] at a1
    obtain ⟨b1, b2, b3, b4, b5⟩ := p1 H1
    obtain ⟨c1, c2, c3, c4, c5⟩ := a2
    exact ⟨d, a1, c1.trans b1, c2.trans b2, c3.trans b3, c4.trans b4, c5.trans b5⟩
  obtain ⟨d3, h3⟩ : ∃ d : Hp → Hp → Cp, ∀ H1 H, callL Try.prog pr 8 [.agg (cpE.f (d1 H1))] H = some (.tup [.agg (cpE.f (d H1 H)), .int .i64 0], H) ∧ CpEq (d H1 H) (plF c).1 := ⟨fun H1 H => (h8 H1 H).choose, fun H1 H => (h8 H1 H).choose_spec⟩
  have e3 := fun H1 H => (h3 H1 H).1
  have s31 : ∀ H1 H2 H3 H, callL Try.prog pr 10 [.agg (cpE.f (d3 H1 H2)), .agg (cpE.f (d1 H3))] H = some (.bool true, H) := fun H1 H2 H3 H => by
    rw [fn10 _ _ ((h3 H1 H2).2.fits (plain_fits hc)), sameB_congr' (h3 H1 H2).2 (h1 H3).2, same_self]
  rw [h0] at e2
  have e1' : ∀ H, callL Try.prog pr 8 [.agg (cpE.f c)] H = some (.tup [.agg (cpE.f (d1 H)), .int .i64 0], H) := fun H => by rw [e1 H, h0]
  refine run3 (Nat.le_of_ble_eq_true rfl) ?_
  have hy := True.intro
  repeat' (first | simp (disch := first | rfl | omega | exact lt_new _ | assumption | decide | (simp [tk_here, tk_app, tk_0, tk_S, gr_here, gr_app, gr_0, gr_S] <;> omega) | fail) only [r3_0, r3_1, r3_2, r3_3, r3_4, r3_5, r3_6, r3_7, r3_8, r3_9, r3_10, r3_11, c3, rs3, gc3, loadV_ptr, storeV_ptr, List.append_assoc, List.length_append, List.length_cons, List.length_nil, List.set_cons_zero, List.set_cons_succ, tk_here, tk_app, gr_here, gr_app, st_here, st_app, known_call, h6, e1', e2, s12, e11, e3, s31, go_sem, ↓reduceIte, Nat.reduceLT, Nat.reduceEqDiff, Nat.reduceAdd, Nat.reduceMul, Nat.reduceSub, Int.reduceAdd, Int.reduceSub, Nat.reduceLeDiff, Int.reduceLT, Int.reduceLE, Int.reduceEq, Int.reduceNeg, Int.reduceToNat, hy] | ((first | refine guardB_dec (fun hy => ?_) (fun hy => ?_) | refine guardB_bool (fun hy => ?_) (fun hy => ?_) | refine guardQ_ite (fun hy => ?_) (fun hy => ?_) | refine brQ_dec (fun hy => ?_) (fun hy => ?_) | refine brQ_bool (fun hy => ?_) (fun hy => ?_)) <;> (try simp only [Bool.not_eq_true', Bool.not_eq_false', Bool.and_eq_true, Bool.or_eq_false_iff, decide_eq_true_eq, decide_eq_false_iff_not] at hy)))
  all_goals (try ((first | refine finQ_same ?_ | refine finQ_app ?_ | (rw [List.append_assoc]; refine finQ_app ?_)) <;> simp (disch := first | rfl | omega | exact lt_new _ | assumption | decide | (simp [tk_here, tk_app, tk_0, tk_S, gr_here, gr_app, gr_0, gr_S] <;> omega) | fail) only [go_sem, ↓reduceIte, Nat.reduceLT, Nat.reduceEqDiff, Nat.reduceAdd, Nat.reduceMul, Nat.reduceSub, Int.reduceAdd, Int.reduceSub, Nat.reduceLeDiff, Int.reduceLT, Int.reduceLE, Int.reduceEq, Int.reduceNeg, Int.reduceToNat, List.append_assoc, List.cons_append, List.nil_append, *]))
  all_goals (try first | rfl | (simp [*]; done) | grind)
end Go.Proofs.Ytdkeiaeaahpfdaa
