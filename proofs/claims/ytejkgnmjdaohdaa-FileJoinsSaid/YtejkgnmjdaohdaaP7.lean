/-
  Texts of this seat, laid together. No statement of the seat stands here.
-/
import Derived.Test.YtejkgnmjdaohdaaP6
/-
  file.Join, walked. No statement of the seat stands here.
-/
namespace Go.Proofs.Ytejkgnmjdaohdaa
open Go Go.An
set_option maxRecDepth 4000
set_option linter.unusedSimpArgs false
set_option linter.unusedVariables false

/-- A capture without its packets. -/
def nop (c : Cp) : Cp := {c with packetsN := true, packets := []}
def jnP (l : List Cp) : List Pk := (l.map (·.packets)).flatten
def jnS (c : Cp) (r : List Cp) : Bool := r.all fun d => sameB (nop c) (nop d)
def jnF : List Cp → Cp × Int
  | [] => (noCp, 1)
  | c :: r => if askE (c :: r) = 0 then (if jnS c r = true then (if 100 < (jnP (c :: r)).length then (noCp, 3) else ({c with packets := jnP (c :: r)}, 0)) else (noCp, 10)) else (noCp, askE (c :: r))
theorem nop_ok {c : Cp} (h : CpOk c) : CpOk (nop c) := by
  obtain ⟨o0, o1, o1l, o2, o2l, o3, o3l, o4, o4l⟩ := h
  exact ⟨o0, o1, o1l, o2, o2l, o3, o3l, by simp [nop], by simp [nop]⟩
theorem sameB_congr {a b c d : Cp} (h1 : CpEq a c) (h2 : CpEq b d) : sameB a b = sameB c d := by
  obtain ⟨a1, a2, a3, a4, a5⟩ := h1
  obtain ⟨b1, b2, b3, b4, b5⟩ := h2
  unfold sameB
  rw [a1, a2, a3, a4, a5, b1, b2, b3, b4, b5]
theorem mapO2 {α β : Type} {f : α → Option β} {a b : α} {x y : β} (h1 : f a = some x) (h2 : f b = some y) : mapO f [a, b] = some [x, y] := by
  simp [mapO, h1, h2]
/-- A head laid into a value. -/
theorem inl_head {H A : Hp} {c : Cp} {n : Nat} {L : Hp} {v1 v2 v3 : V} (q1 : RowM fcE n L v1 c.faces) (q2 : RowM nmE n L v2 c.names) (q3 : RowM scE n L v3 c.secrets) (hn : n = A.length) (hH : H = A ++ L) : ∃ d, inlR 0 H 9 (.agg [.str c.note, v1, v2, v3, .nilslice]) = some (.agg (cpE.f d)) ∧ CpEq d (nop c) := by
  subst hH
  obtain ⟨b1, i1⟩ := RowM.inl (f := 7) (m := 0) q1 hn (Nat.zero_le _)
  obtain ⟨b2, i2⟩ := RowM.inl (f := 7) (m := 0) q2 hn (Nat.zero_le _)
  obtain ⟨b3, i3⟩ := RowM.inl (f := 7) (m := 0) q3 hn (Nat.zero_le _)
  refine ⟨⟨c.note, b1, c.faces, b2, c.names, b3, c.secrets, true, []⟩, ?_, rfl, rfl, rfl, rfl, rfl⟩
  simp (disch := first | rfl | omega | exact lt_new _ | assumption | decide | (simp [tk_here, tk_app, tk_0, tk_S, gr_here, gr_app, gr_0, gr_S] <;> omega) | fail) only [go_sem, ↓reduceIte, Nat.reduceLT, Nat.reduceEqDiff, Nat.reduceAdd, Nat.reduceMul, Nat.reduceSub, Int.reduceAdd, Int.reduceSub, Nat.reduceLeDiff, Int.reduceLT, Int.reduceLE, Int.reduceEq, Int.reduceNeg, Int.reduceToNat, i1, i2, i3, cpE_f, slV_nil]
theorem cpE_imm (d : Cp) (H : Hp) : inlR 0 H 9 (.agg (cpE.f d)) = some (.agg (cpE.f d)) := by simp [go_sem]
/-- Two heads held against each other. -/
theorem same_heads {H A B L M : Hp} {c d : Cp} {n m : Nat} {v1 v2 v3 u1 u2 u3 : V} (hc : CpOk c) (q1 : RowM fcE n L v1 c.faces) (q2 : RowM nmE n L v2 c.names) (q3 : RowM scE n L v3 c.secrets) (hn : n = A.length) (hH : H = A ++ L)
    (p1 : RowM fcE m M u1 d.faces) (p2 : RowM nmE m M u2 d.names) (p3 : RowM scE m M u3 d.secrets) (hm : m = B.length) (hH2 : H = B ++ M) : callL Try.prog pr 81 [.agg [.str c.note, v1, v2, v3, .nilslice], .agg [.str d.note, u1, u2, u3, .nilslice]] H = some (.bool (sameB (nop c) (nop d)), H) := by
  obtain ⟨x, hx, ex⟩ := inl_head (c := c) q1 q2 q3 hn hH
  obtain ⟨y, hy, ey⟩ := inl_head (c := d) p1 p2 p3 hm hH2
  rw [pur_inl rfl rfl (mapO2 hx hy) (mapO2 (cpE_imm x H) (cpE_imm y H)), fn81 x y ?_ H, sameB_congr ex ey]
  obtain ⟨e1, e2, e3, e4, e5⟩ := ex
  have := nop_ok hc
  unfold CpOk at this ⊢
  rw [e1, e2, e3, e4, e5]
  exact this
theorem jnP_len : ∀ {l : List Cp}, (∀ c ∈ l, valE c = 0) → (jnP l).length ≤ 100 * l.length
  | [], _ => by simp [jnP]
  | c :: l, h => by
    have h1 := (val_pk (h c (by simp))).2.1.1
    have h2 := jnP_len (l := l) fun x hx => h x (by simp [hx])
    unfold jnP at h2 ⊢
    simp only [List.map_cons, List.flatten_cons, List.length_append, List.length_cons]
    omega
theorem cp_sa (d : Cp) (a b c e f : V) : setAt (cpE.f d) 0 [a, b, c, e, f] = [a, b, c, e, f] := rfl
set_option maxHeartbeats 4000000 in
theorem fn32 {b : Bool} {l : List Cp} (hok : ∀ c ∈ l, CpOk c) (hl : l.length ≤ 2 ^ 62) (hlen : askE l = 0 → l.length ≤ 400000) (H : Hp) : ∃ d, callL Try.prog pr 32 [slV b cpE l] H = some (.tup [.agg (cpE.f d), .int .i64 (jnF l).2], H) ∧ CpEq d (jnF l).1 := by
  suffices h : ∃ r, callL Try.prog pr 32 [slV b cpE l] H = some r ∧ ∃ d, r = (.tup [.agg (cpE.f d), .int .i64 (jnF l).2], H) ∧ CpEq d (jnF l).1 by
    obtain ⟨_, h1, d, rfl, h2⟩ := h; exact ⟨d, h1, h2⟩
  have h54 := fun H => fn54 (b := b) hok hl H
  refine ex32 (Nat.le_of_ble_eq_true rfl) ?_
  cases l with
  | nil =>
    have ha : askE [] = 0 := rfl
    simp (disch := first | rfl | omega | exact lt_new _ | assumption | decide | (simp [tk_here, tk_app, tk_0, tk_S, gr_here, gr_app, gr_0, gr_S] <;> omega) | fail) only [r32_0, r32_1, r32_2, r32_3, r32_4, r32_5, r32_6, r32_7, r32_8, r32_9, r32_10, r32_11, r32_12, r32_13, r32_14, r32_15, r32_16, r32_17, r32_18, r32_20, r32_21, r32_22, c32, rs32, gc32, loadV_ptr, storeV_ptr, List.append_assoc, List.length_append, List.length_cons, List.length_nil, List.set_cons_zero, List.set_cons_succ, tk_here, tk_app, gr_here, gr_app, st_here, st_app, h54, ha, go_sem, ↓reduceIte, Nat.reduceLT, Nat.reduceEqDiff, Nat.reduceAdd, Nat.reduceMul, Nat.reduceSub, Int.reduceAdd, Int.reduceSub, Nat.reduceLeDiff, Int.reduceLT, Int.reduceLE, Int.reduceEq, Int.reduceNeg, Int.reduceToNat]
    repeat' ((first | refine guardB_dec (fun hy => ?_) (fun hy => ?_) | refine guardB_bool (fun hy => ?_) (fun hy => ?_) | refine guardQ_ite (fun hy => ?_) (fun hy => ?_) | refine brQ_dec (fun hy => ?_) (fun hy => ?_) | refine brQ_bool (fun hy => ?_) (fun hy => ?_)) <;> (try simp only [Bool.not_eq_true', Bool.not_eq_false', Bool.and_eq_true, Bool.or_eq_false_iff, decide_eq_true_eq, decide_eq_false_iff_not] at hy) <;> simp (disch := first | rfl | omega | exact lt_new _ | assumption | decide | (simp [tk_here, tk_app, tk_0, tk_S, gr_here, gr_app, gr_0, gr_S] <;> omega) | fail) only [r32_0, r32_1, r32_2, r32_3, r32_4, r32_5, r32_6, r32_7, r32_8, r32_9, r32_10, r32_11, r32_12, r32_13, r32_14, r32_15, r32_16, r32_17, r32_18, r32_20, r32_21, r32_22, c32, rs32, gc32, loadV_ptr, storeV_ptr, List.append_assoc, List.length_append, List.length_cons, List.length_nil, List.set_cons_zero, List.set_cons_succ, tk_here, tk_app, gr_here, gr_app, st_here, st_app, h54, ha, go_sem, ↓reduceIte, Nat.reduceLT, Nat.reduceEqDiff, Nat.reduceAdd, Nat.reduceMul, Nat.reduceSub, Int.reduceAdd, Int.reduceSub, Nat.reduceLeDiff, Int.reduceLT, Int.reduceLE, Int.reduceEq, Int.reduceNeg, Int.reduceToNat, hy])
    exact ⟨noCp, finQ_app (by rw [noCp_f]; simp (disch := first | rfl | omega | exact lt_new _ | assumption | decide | (simp [tk_here, tk_app, tk_0, tk_S, gr_here, gr_app, gr_0, gr_S] <;> omega) | fail) only [go_sem, ↓reduceIte, Nat.reduceLT, Nat.reduceEqDiff, Nat.reduceAdd, Nat.reduceMul, Nat.reduceSub, Int.reduceAdd, Int.reduceSub, Nat.reduceLeDiff, Int.reduceLT, Int.reduceLE, Int.reduceEq, Int.reduceNeg, Int.reduceToNat, jnF]), CpEq.rfl' _⟩
  | cons c r =>
    rw [show jnF (c :: r) = if askE (c :: r) = 0 then (if jnS c r = true then (if 100 < (jnP (c :: r)).length then (noCp, 3) else ({c with packets := jnP (c :: r)}, 0)) else (noCp, 10)) else (noCp, askE (c :: r)) from rfl]
    by_cases ha : askE (c :: r) = 0
    case neg =>
      rw [if_neg ha]
      simp (disch := first | rfl | omega | exact lt_new _ | assumption | decide | (simp [tk_here, tk_app, tk_0, tk_S, gr_here, gr_app, gr_0, gr_S] <;> omega) | fail) only [r32_0, r32_1, r32_2, r32_3, r32_4, r32_5, r32_6, r32_7, r32_8, r32_9, r32_10, r32_11, r32_12, r32_13, r32_14, r32_15, r32_16, r32_17, r32_18, r32_20, r32_21, r32_22, c32, rs32, gc32, loadV_ptr, storeV_ptr, List.append_assoc, List.length_append, List.length_cons, List.length_nil, List.set_cons_zero, List.set_cons_succ, tk_here, tk_app, gr_here, gr_app, st_here, st_app, h54, ha, go_sem, ↓reduceIte, Nat.reduceLT, Nat.reduceEqDiff, Nat.reduceAdd, Nat.reduceMul, Nat.reduceSub, Int.reduceAdd, Int.reduceSub, Nat.reduceLeDiff, Int.reduceLT, Int.reduceLE, Int.reduceEq, Int.reduceNeg, Int.reduceToNat]
      repeat' ((first | refine guardB_dec (fun hy => ?_) (fun hy => ?_) | refine guardB_bool (fun hy => ?_) (fun hy => ?_) | refine guardQ_ite (fun hy => ?_) (fun hy => ?_) | refine brQ_dec (fun hy => ?_) (fun hy => ?_) | refine brQ_bool (fun hy => ?_) (fun hy => ?_)) <;> (try simp only [Bool.not_eq_true', Bool.not_eq_false', Bool.and_eq_true, Bool.or_eq_false_iff, decide_eq_true_eq, decide_eq_false_iff_not] at hy) <;> simp (disch := first | rfl | omega | exact lt_new _ | assumption | decide | (simp [tk_here, tk_app, tk_0, tk_S, gr_here, gr_app, gr_0, gr_S] <;> omega) | fail) only [r32_0, r32_1, r32_2, r32_3, r32_4, r32_5, r32_6, r32_7, r32_8, r32_9, r32_10, r32_11, r32_12, r32_13, r32_14, r32_15, r32_16, r32_17, r32_18, r32_20, r32_21, r32_22, c32, rs32, gc32, loadV_ptr, storeV_ptr, List.append_assoc, List.length_append, List.length_cons, List.length_nil, List.set_cons_zero, List.set_cons_succ, tk_here, tk_app, gr_here, gr_app, st_here, st_app, h54, ha, go_sem, ↓reduceIte, Nat.reduceLT, Nat.reduceEqDiff, Nat.reduceAdd, Nat.reduceMul, Nat.reduceSub, Int.reduceAdd, Int.reduceSub, Nat.reduceLeDiff, Int.reduceLT, Int.reduceLE, Int.reduceEq, Int.reduceNeg, Int.reduceToNat, hy])
      exact ⟨noCp, finQ_app (by rw [noCp_f]; simp (disch := first | rfl | omega | exact lt_new _ | assumption | decide | (simp [tk_here, tk_app, tk_0, tk_S, gr_here, gr_app, gr_0, gr_S] <;> omega) | fail) only [go_sem, ↓reduceIte, Nat.reduceLT, Nat.reduceEqDiff, Nat.reduceAdd, Nat.reduceMul, Nat.reduceSub, Int.reduceAdd, Int.reduceSub, Nat.reduceLeDiff, Int.reduceLT, Int.reduceLE, Int.reduceEq, Int.reduceNeg, Int.reduceToNat]), CpEq.rfl' _⟩
    rw [if_pos ha]
    have hlen := hlen ha
    have hv := askE_all ha
    have hrl : r.length < 400000 := by rw [List.length_cons] at hlen; omega
    have hl1 : ¬ ((r.length + 1 : Nat) : Int) = 0 := by omega
    have hp0 : (0 : Int) < ((r.length + 1 : Nat) : Int) := by omega
    have hld : ∀ H, loadV Try.prog 31 H (.ipt (flatE cpE (c :: r)) 0) = some (.agg (cpE.f c)) := fun H => by
      have := ld_cpE (H := H) (l := c :: r) (i := 0) (by simp)
      simpa [Enc.at] using this
    have hcc : CpOk c := hok c (by simp)
    have hvc : valE c = 0 := hv c (by simp)
    have hc0 : cpE.f c = [.str c.note, slV c.facesN fcE c.faces, slV c.namesN nmE c.names, slV c.secretsN scE c.secrets, slV c.packetsN pkE c.packets] := rfl
    obtain ⟨v1, v2, v3, v4, L0, X0, e, q1, q2, q3, q4⟩ := fn74s c (val_S hvc) (H ++ [.row 0 [.str [], .nilslice, .nilslice, .nilslice, .nilslice] true])
    rw [show (H ++ [AB.row 0 [.str [], .nilslice, .nilslice, .nilslice, .nilslice] true]).length = H.length + 1 by simp] at q1 q2 q3 q4
    obtain ⟨k11, k12, k13, k14, k15, k16, k17⟩ := q1.cell
    obtain ⟨k21, k22, k23, k24, k25, k26, k27⟩ := q2.cell
    obtain ⟨k31, k32, k33, k34, k35, k36, k37⟩ := q3.cell
    obtain ⟨k41, k42, k43, k44, k45, k46, k47⟩ := q4.cell
    have hct : ∀ H, sliceV Try.prog 22 H (slV b cpE (c :: r)) (some (.int .i64 1)) none = some (slV false cpE r) := fun H => by
      rw [hi22, ct22 rfl ⟨by decide, by rw [List.length_cons]; omega, by omega⟩]
      simp
    simp (disch := first | rfl | omega | exact lt_new _ | assumption | decide | (simp [tk_here, tk_app, tk_0, tk_S, gr_here, gr_app, gr_0, gr_S] <;> omega) | fail) only [r32_0, r32_1, r32_2, r32_3, r32_4, r32_5, r32_6, r32_7, r32_8, r32_9, r32_10, r32_11, r32_12, r32_13, r32_14, r32_15, r32_16, r32_17, r32_18, r32_20, r32_21, r32_22, c32, rs32, gc32, loadV_ptr, storeV_ptr, List.append_assoc, List.length_append, List.length_cons, List.length_nil, List.set_cons_zero, List.set_cons_succ, tk_here, tk_app, gr_here, gr_app, st_here, st_app, h54, ha, hl1, hp0, hld, e, hct, k11, k12, k13, k14, k15, k16, k17, k21, k22, k23, k24, k25, k26, k27, k31, k32, k33, k34, k35, k36, k37, k41, k42, k43, k44, k45, k46, k47, go_sem, ↓reduceIte, Nat.reduceLT, Nat.reduceEqDiff, Nat.reduceAdd, Nat.reduceMul, Nat.reduceSub, Int.reduceAdd, Int.reduceSub, Nat.reduceLeDiff, Int.reduceLT, Int.reduceLE, Int.reduceEq, Int.reduceNeg, Int.reduceToNat]
    repeat' ((first | refine guardB_dec (fun hy => ?_) (fun hy => ?_) | refine guardB_bool (fun hy => ?_) (fun hy => ?_) | refine guardQ_ite (fun hy => ?_) (fun hy => ?_) | refine brQ_dec (fun hy => ?_) (fun hy => ?_) | refine brQ_bool (fun hy => ?_) (fun hy => ?_)) <;> (try simp only [Bool.not_eq_true', Bool.not_eq_false', Bool.and_eq_true, Bool.or_eq_false_iff, decide_eq_true_eq, decide_eq_false_iff_not] at hy) <;> simp (disch := first | rfl | omega | exact lt_new _ | assumption | decide | (simp [tk_here, tk_app, tk_0, tk_S, gr_here, gr_app, gr_0, gr_S] <;> omega) | fail) only [r32_0, r32_1, r32_2, r32_3, r32_4, r32_5, r32_6, r32_7, r32_8, r32_9, r32_10, r32_11, r32_12, r32_13, r32_14, r32_15, r32_16, r32_17, r32_18, r32_20, r32_21, r32_22, c32, rs32, gc32, loadV_ptr, storeV_ptr, List.append_assoc, List.length_append, List.length_cons, List.length_nil, List.set_cons_zero, List.set_cons_succ, tk_here, tk_app, gr_here, gr_app, st_here, st_app, h54, ha, hl1, hp0, hld, e, hct, k11, k12, k13, k14, k15, k16, k17, k21, k22, k23, k24, k25, k26, k27, k31, k32, k33, k34, k35, k36, k37, k41, k42, k43, k44, k45, k46, k47, go_sem, ↓reduceIte, Nat.reduceLT, Nat.reduceEqDiff, Nat.reduceAdd, Nat.reduceMul, Nat.reduceSub, Int.reduceAdd, Int.reduceSub, Nat.reduceLeDiff, Int.reduceLT, Int.reduceLE, Int.reduceEq, Int.reduceNeg, Int.reduceToNat, hy])
    obtain ⟨yo, hyo⟩ : ∃ yo, X0.length = yo := ⟨_, rfl⟩
    refine Wp_loop (fun m T D H' => ∃ i K w, m = r.length - i ∧ i ≤ r.length ∧ D = [] ∧ H' = H ++ AB.row 0 [.str [], .nilslice, .nilslice, .nilslice, .nilslice] true :: (L0 ++ K) ∧ get T 2 = .ptr H.length 0 0 ∧ get T 5 = .ptr (H.length + (L0.length + yo + 1)) 0 0 ∧ get T 6 = .ptr (H.length + (L0.length + (yo + 1) + 1)) 0 0 ∧ get T 27 = slV false cpE r ∧ get T 28 = .int .i64 r.length ∧ get T 29 = .int .i64 i ∧ K[yo]? = some (.row 0 [.str c.note, v1, v2, v3, w] true) ∧ K[yo + 1]? = some (.row 0 [.str c.note, v1, v2, v3, .nilslice] true) ∧ RowM pkE (H.length + 1 + L0.length) K w (c.packets ++ jnP (r.take i)) ∧ jnS c (r.take i) = true) ?_ r.length _ _ _ ?_
    case refine_2 =>
      refine ⟨0, X0 ++ AB.row 0 [.str c.note, v1, v2, v3, v4] true :: AB.row 0 [.str c.note, v1, v2, v3, .nilslice] true :: [], v4, by simp (disch := first | rfl | omega | exact lt_new _ | assumption | decide | (simp [tk_here, tk_app, tk_0, tk_S, gr_here, gr_app, gr_0, gr_S] <;> omega) | fail) only [go_sem, ↓reduceIte, Nat.reduceLT, Nat.reduceEqDiff, Nat.reduceAdd, Nat.reduceMul, Nat.reduceSub, Int.reduceAdd, Int.reduceSub, Nat.reduceLeDiff, Int.reduceLT, Int.reduceLE, Int.reduceEq, Int.reduceNeg, Int.reduceToNat], Nat.zero_le _, rfl, by simp, by simp [go_sem], ?_⟩
      simp (disch := first | rfl | omega | exact lt_new _ | assumption | decide | (simp [tk_here, tk_app, tk_0, tk_S, gr_here, gr_app, gr_0, gr_S] <;> omega) | fail) only [go_sem, ↓reduceIte, Nat.reduceLT, Nat.reduceEqDiff, Nat.reduceAdd, Nat.reduceMul, Nat.reduceSub, Int.reduceAdd, Int.reduceSub, Nat.reduceLeDiff, Int.reduceLT, Int.reduceLE, Int.reduceEq, Int.reduceNeg, Int.reduceToNat]
      subst hyo
      refine ⟨rfl, rfl, by simp, by simp, by simpa [jnP] using q4.app _, rfl⟩
    rintro m T D H' ⟨i, K, w, rfl, hi, rfl, rfl, t2, t5, t6, t27, t28, t29, hO, hD, qw, hall⟩
    have hjO : yo < K.length := (List.getElem?_eq_some_iff.1 hO).1
    have hjD : yo + 1 < K.length := (List.getElem?_eq_some_iff.1 hD).1
    have gO : getRow K yo 0 = some ([.str c.note, v1, v2, v3, w], true) := getRow_of hO
    have gD : getRow K (yo + 1) 0 = some ([.str c.note, v1, v2, v3, .nilslice], true) := getRow_of hD
    obtain ⟨k51, k52, k53, k54, k55, k56, k57⟩ := qw.cell
    by_cases hlt : i < r.length
    · have hlt' : (i : Int) < r.length := by omega
      obtain ⟨d, hd⟩ : ∃ d, cpE.at r i = d := ⟨_, rfl⟩
      have hdm : d ∈ r := by rw [← hd]; exact cpE.at_mem hlt
      have hdc : CpOk d := hok d (by simp [hdm])
      have hvd : valE d = 0 := hv d (by simp [hdm])
      have hjt : jnS c (r.take (i + 1)) = sameB (nop c) (nop d) := by
        unfold jnS at hall ⊢
        rw [cpE.take_at hlt, List.all_append, hall, hd]
        simp
      have hjp : jnP (r.take (i + 1)) = jnP (r.take i) ++ d.packets := by
        unfold jnP
        rw [cpE.take_at hlt, hd]
        simp
      obtain ⟨u1, u2, u3, u4, L, X, e2, r1, r2, r3, r4⟩ := fn74s d (val_S hvd) (H ++ AB.row 0 [.str [], .nilslice, .nilslice, .nilslice, .nilslice] true :: (L0 ++ (K ++ [.row 0 (cpE.f d) true])))
      rw [show (H ++ AB.row 0 [.str [], .nilslice, .nilslice, .nilslice, .nilslice] true :: (L0 ++ (K ++ [.row 0 (cpE.f d) true]))).length = H.length + 1 + L0.length + K.length + 1 by simp; omega] at r1 r2 r3 r4
      obtain ⟨m11, m12, m13, m14, m15, m16, m17⟩ := r1.cell
      obtain ⟨m21, m22, m23, m24, m25, m26, m27⟩ := r2.cell
      obtain ⟨m31, m32, m33, m34, m35, m36, m37⟩ := r3.cell
      obtain ⟨m41, m42, m43, m44, m45, m46, m47⟩ := r4.cell
      have h81 : callL Try.prog pr 81 [.agg [.str c.note, v1, v2, v3, .nilslice], .agg [.str d.note, u1, u2, u3, .nilslice]] (H ++ AB.row 0 [.str [], .nilslice, .nilslice, .nilslice, .nilslice] true :: (L0 ++ (K ++ AB.row 0 [.str d.note, u1, u2, u3, .nilslice] true :: (L ++ X)))) = some (.bool (sameB (nop c) (nop d)), H ++ AB.row 0 [.str [], .nilslice, .nilslice, .nilslice, .nilslice] true :: (L0 ++ (K ++ AB.row 0 [.str d.note, u1, u2, u3, .nilslice] true :: (L ++ X)))) :=
        same_heads (A := H ++ [AB.row 0 [.str [], .nilslice, .nilslice, .nilslice, .nilslice] true]) (B := H ++ AB.row 0 [.str [], .nilslice, .nilslice, .nilslice, .nilslice] true :: (L0 ++ (K ++ [AB.row 0 [.str d.note, u1, u2, u3, .nilslice] true]))) hcc (q1.app (K ++ AB.row 0 [.str d.note, u1, u2, u3, .nilslice] true :: (L ++ X))) (q2.app _) (q3.app _) (by simp) (by simp) (r1.app X) (r2.app X) (r3.app X) (by simp; omega) (by simp)
      obtain ⟨w', K1, ha1, qw1, hkeep, hK1⟩ := app_rows (n := H.length + 1 + L0.length) (A := H ++ AB.row 0 [.str [], .nilslice, .nilslice, .nilslice, .nilslice] true :: L0) (K := K ++ AB.row 0 [.str d.note, u1, u2, u3, .nilslice] true :: (L ++ X)) (by simp; omega) (qw.app _) (u := u4) (ps := d.packets) (by
        have := RowM.pre (n := H.length + 1 + L0.length) (K ++ AB.row 0 [.str d.note, u1, u2, u3, .nilslice] true :: L) (by rw [show H.length + 1 + L0.length + (K ++ AB.row 0 [.str d.note, u1, u2, u3, .nilslice] true :: L).length = H.length + 1 + L0.length + K.length + 1 + L.length by simp; omega]; exact r4)
        simpa using this) (by
          have h1 := (val_pk hvc).2.1.1
          have h2 := (val_pk hvd).2.1.1
          have h3 := jnP_len (l := r.take i) fun x hx => hv x (List.mem_cons_of_mem _ (List.mem_of_mem_take hx))
          have h4 : (r.take i).length ≤ r.length := by rw [List.length_take]; omega
          rw [List.length_cons] at hlen
          rw [List.length_append]
          omega)
      simp only [List.append_assoc, List.cons_append] at ha1
      have hO1 : K1[yo]? = some (.row 0 [.str c.note, v1, v2, v3, w] true) := by
        rw [hkeep yo 0 c.note [v1, v2, v3, w] true (by rw [List.getElem?_append_left hjO, hO]), List.getElem?_append_left hjO, hO]
      have hD1 : K1[yo + 1]? = some (.row 0 [.str c.note, v1, v2, v3, .nilslice] true) := by
        rw [hkeep (yo + 1) 0 c.note [v1, v2, v3, .nilslice] true (by rw [List.getElem?_append_left hjD, hD]), List.getElem?_append_left hjD, hD]
      have hj1 : yo < K1.length := (List.getElem?_eq_some_iff.1 hO1).1
      have gO1 : getRow K1 yo 0 = some ([.str c.note, v1, v2, v3, w], true) := getRow_of hO1
      obtain ⟨k61, k62, k63, k64, k65, k66, k67⟩ := qw1.cell
      by_cases hq : sameB (nop c) (nop d) = true
      · skip
        simp (disch := first | rfl | omega | exact lt_new _ | assumption | decide | (simp [tk_here, tk_app, tk_0, tk_S, gr_here, gr_app, gr_0, gr_S] <;> omega) | fail) only [r32_0, r32_1, r32_2, r32_3, r32_4, r32_5, r32_6, r32_7, r32_8, r32_9, r32_10, r32_11, r32_12, r32_13, r32_14, r32_15, r32_16, r32_17, r32_18, l32_19, r32_20, r32_21, r32_22, c32, rs32, gc32, loadV_ptr, storeV_ptr, List.append_assoc, List.length_append, List.length_cons, List.length_nil, List.set_cons_zero, List.set_cons_succ, tk_here, tk_app, gr_here, gr_app, st_here, st_app, t2, t5, t6, t27, t28, t29, hlt', hd, e2, cp_sa, h81, hq, ha1, gr_l hjO, gr_l hjD, st_l hjO, gO, gD, gO1, k11, k12, k13, k14, k15, k16, k17, k21, k22, k23, k24, k25, k26, k27, k31, k32, k33, k34, k35, k36, k37, k51, k52, k53, k54, k55, k56, k57, k61, k62, k63, k64, k65, k66, k67, m11, m12, m13, m14, m15, m16, m17, m21, m22, m23, m24, m25, m26, m27, m31, m32, m33, m34, m35, m36, m37, m41, m42, m43, m44, m45, m46, m47, go_sem, ↓reduceIte, Nat.reduceLT, Nat.reduceEqDiff, Nat.reduceAdd, Nat.reduceMul, Nat.reduceSub, Int.reduceAdd, Int.reduceSub, Nat.reduceLeDiff, Int.reduceLT, Int.reduceLE, Int.reduceEq, Int.reduceNeg, Int.reduceToNat]
        repeat' ((first | refine guardB_dec (fun hy => ?_) (fun hy => ?_) | refine guardB_bool (fun hy => ?_) (fun hy => ?_) | refine guardQ_ite (fun hy => ?_) (fun hy => ?_) | refine brQ_dec (fun hy => ?_) (fun hy => ?_) | refine brQ_bool (fun hy => ?_) (fun hy => ?_)) <;> (try simp only [Bool.not_eq_true', Bool.not_eq_false', Bool.and_eq_true, Bool.or_eq_false_iff, decide_eq_true_eq, decide_eq_false_iff_not] at hy) <;> simp (disch := first | rfl | omega | exact lt_new _ | assumption | decide | (simp [tk_here, tk_app, tk_0, tk_S, gr_here, gr_app, gr_0, gr_S] <;> omega) | fail) only [r32_0, r32_1, r32_2, r32_3, r32_4, r32_5, r32_6, r32_7, r32_8, r32_9, r32_10, r32_11, r32_12, r32_13, r32_14, r32_15, r32_16, r32_17, r32_18, l32_19, r32_20, r32_21, r32_22, c32, rs32, gc32, loadV_ptr, storeV_ptr, List.append_assoc, List.length_append, List.length_cons, List.length_nil, List.set_cons_zero, List.set_cons_succ, tk_here, tk_app, gr_here, gr_app, st_here, st_app, t2, t5, t6, t27, t28, t29, hlt', hd, e2, cp_sa, h81, hq, ha1, gr_l hjO, gr_l hjD, st_l hjO, gO, gD, gO1, k11, k12, k13, k14, k15, k16, k17, k21, k22, k23, k24, k25, k26, k27, k31, k32, k33, k34, k35, k36, k37, k51, k52, k53, k54, k55, k56, k57, k61, k62, k63, k64, k65, k66, k67, m11, m12, m13, m14, m15, m16, m17, m21, m22, m23, m24, m25, m26, m27, m31, m32, m33, m34, m35, m36, m37, m41, m42, m43, m44, m45, m46, m47, go_sem, ↓reduceIte, Nat.reduceLT, Nat.reduceEqDiff, Nat.reduceAdd, Nat.reduceMul, Nat.reduceSub, Int.reduceAdd, Int.reduceSub, Nat.reduceLeDiff, Int.reduceLT, Int.reduceLE, Int.reduceEq, Int.reduceNeg, Int.reduceToNat, hy])
        refine ⟨_, by omega, i + 1, K1.set yo (.row 0 [.str c.note, v1, v2, v3, w'] true), w', rfl, hlt, rfl, rfl, ?_⟩
        refine ⟨by simp [hj1], by rw [List.getElem?_set_ne (by omega)]; exact hD1, ?_, by rw [hjt, hq]⟩
        rw [hjp, ← List.append_assoc]
        exact RowM.setO qw1 hO1 _
      · rw [Bool.not_eq_true] at hq
        have hno : jnS c r = false := by
          unfold jnS
          rw [List.all_eq_false]
          exact ⟨d, hdm, by simp [hq]⟩
        simp (disch := first | rfl | omega | exact lt_new _ | assumption | decide | (simp [tk_here, tk_app, tk_0, tk_S, gr_here, gr_app, gr_0, gr_S] <;> omega) | fail) only [r32_0, r32_1, r32_2, r32_3, r32_4, r32_5, r32_6, r32_7, r32_8, r32_9, r32_10, r32_11, r32_12, r32_13, r32_14, r32_15, r32_16, r32_17, r32_18, l32_19, r32_20, r32_21, r32_22, c32, rs32, gc32, loadV_ptr, storeV_ptr, List.append_assoc, List.length_append, List.length_cons, List.length_nil, List.set_cons_zero, List.set_cons_succ, tk_here, tk_app, gr_here, gr_app, st_here, st_app, t2, t5, t6, t27, t28, t29, hlt', hd, e2, cp_sa, h81, hq, gr_l hjO, gr_l hjD, st_l hjO, gO, gD, gO1, k11, k12, k13, k14, k15, k16, k17, k21, k22, k23, k24, k25, k26, k27, k31, k32, k33, k34, k35, k36, k37, k51, k52, k53, k54, k55, k56, k57, k61, k62, k63, k64, k65, k66, k67, m11, m12, m13, m14, m15, m16, m17, m21, m22, m23, m24, m25, m26, m27, m31, m32, m33, m34, m35, m36, m37, m41, m42, m43, m44, m45, m46, m47, go_sem, ↓reduceIte, Nat.reduceLT, Nat.reduceEqDiff, Nat.reduceAdd, Nat.reduceMul, Nat.reduceSub, Int.reduceAdd, Int.reduceSub, Nat.reduceLeDiff, Int.reduceLT, Int.reduceLE, Int.reduceEq, Int.reduceNeg, Int.reduceToNat]
        repeat' ((first | refine guardB_dec (fun hy => ?_) (fun hy => ?_) | refine guardB_bool (fun hy => ?_) (fun hy => ?_) | refine guardQ_ite (fun hy => ?_) (fun hy => ?_) | refine brQ_dec (fun hy => ?_) (fun hy => ?_) | refine brQ_bool (fun hy => ?_) (fun hy => ?_)) <;> (try simp only [Bool.not_eq_true', Bool.not_eq_false', Bool.and_eq_true, Bool.or_eq_false_iff, decide_eq_true_eq, decide_eq_false_iff_not] at hy) <;> simp (disch := first | rfl | omega | exact lt_new _ | assumption | decide | (simp [tk_here, tk_app, tk_0, tk_S, gr_here, gr_app, gr_0, gr_S] <;> omega) | fail) only [r32_0, r32_1, r32_2, r32_3, r32_4, r32_5, r32_6, r32_7, r32_8, r32_9, r32_10, r32_11, r32_12, r32_13, r32_14, r32_15, r32_16, r32_17, r32_18, l32_19, r32_20, r32_21, r32_22, c32, rs32, gc32, loadV_ptr, storeV_ptr, List.append_assoc, List.length_append, List.length_cons, List.length_nil, List.set_cons_zero, List.set_cons_succ, tk_here, tk_app, gr_here, gr_app, st_here, st_app, t2, t5, t6, t27, t28, t29, hlt', hd, e2, cp_sa, h81, hq, gr_l hjO, gr_l hjD, st_l hjO, gO, gD, gO1, k11, k12, k13, k14, k15, k16, k17, k21, k22, k23, k24, k25, k26, k27, k31, k32, k33, k34, k35, k36, k37, k51, k52, k53, k54, k55, k56, k57, k61, k62, k63, k64, k65, k66, k67, m11, m12, m13, m14, m15, m16, m17, m21, m22, m23, m24, m25, m26, m27, m31, m32, m33, m34, m35, m36, m37, m41, m42, m43, m44, m45, m46, m47, go_sem, ↓reduceIte, Nat.reduceLT, Nat.reduceEqDiff, Nat.reduceAdd, Nat.reduceMul, Nat.reduceSub, Int.reduceAdd, Int.reduceSub, Nat.reduceLeDiff, Int.reduceLT, Int.reduceLE, Int.reduceEq, Int.reduceNeg, Int.reduceToNat, hy])
        simp only [hno, Bool.false_eq_true, if_false]
        exact ⟨noCp, finQ_app (by rw [noCp_f]; simp (disch := first | rfl | omega | exact lt_new _ | assumption | decide | (simp [tk_here, tk_app, tk_0, tk_S, gr_here, gr_app, gr_0, gr_S] <;> omega) | fail) only [go_sem, ↓reduceIte, Nat.reduceLT, Nat.reduceEqDiff, Nat.reduceAdd, Nat.reduceMul, Nat.reduceSub, Int.reduceAdd, Int.reduceSub, Nat.reduceLeDiff, Int.reduceLT, Int.reduceLE, Int.reduceEq, Int.reduceNeg, Int.reduceToNat]), CpEq.rfl' _⟩
    · obtain rfl : i = r.length := by omega
      rw [List.take_length] at qw hall
      have hjc : c.packets ++ jnP r = jnP (c :: r) := by simp [jnP]
      rw [hjc] at qw
      have nw := fun H' => qw.len (P := Try.prog) (t := 29) (z := 5) (by kernel_rfl) H'
      have e0 : ((100 : Int) < ((jnP (c :: r)).length : Int)) = (100 < (jnP (c :: r)).length) := by simp; omega
      simp only [hall, if_true]
      by_cases hbig : 100 < (jnP (c :: r)).length
      · skip
        simp (disch := first | rfl | omega | exact lt_new _ | assumption | decide | (simp [tk_here, tk_app, tk_0, tk_S, gr_here, gr_app, gr_0, gr_S] <;> omega) | fail) only [r32_0, r32_1, r32_2, r32_3, r32_4, r32_5, r32_6, r32_7, r32_8, r32_9, r32_10, r32_11, r32_12, r32_13, r32_14, r32_15, r32_16, r32_17, r32_18, l32_19, r32_20, r32_21, r32_22, c32, rs32, gc32, loadV_ptr, storeV_ptr, List.append_assoc, List.length_append, List.length_cons, List.length_nil, List.set_cons_zero, List.set_cons_succ, tk_here, tk_app, gr_here, gr_app, st_here, st_app, t2, t5, t6, t27, t28, t29, Int.lt_irrefl, gr_l hjO, gr_l hjD, st_l hjO, gO, gD, nw, e0, hbig, k11, k12, k13, k14, k15, k16, k17, k21, k22, k23, k24, k25, k26, k27, k31, k32, k33, k34, k35, k36, k37, k51, k52, k53, k54, k55, k56, k57, go_sem, ↓reduceIte, Nat.reduceLT, Nat.reduceEqDiff, Nat.reduceAdd, Nat.reduceMul, Nat.reduceSub, Int.reduceAdd, Int.reduceSub, Nat.reduceLeDiff, Int.reduceLT, Int.reduceLE, Int.reduceEq, Int.reduceNeg, Int.reduceToNat]
        repeat' ((first | refine guardB_dec (fun hy => ?_) (fun hy => ?_) | refine guardB_bool (fun hy => ?_) (fun hy => ?_) | refine guardQ_ite (fun hy => ?_) (fun hy => ?_) | refine brQ_dec (fun hy => ?_) (fun hy => ?_) | refine brQ_bool (fun hy => ?_) (fun hy => ?_)) <;> (try simp only [Bool.not_eq_true', Bool.not_eq_false', Bool.and_eq_true, Bool.or_eq_false_iff, decide_eq_true_eq, decide_eq_false_iff_not] at hy) <;> simp (disch := first | rfl | omega | exact lt_new _ | assumption | decide | (simp [tk_here, tk_app, tk_0, tk_S, gr_here, gr_app, gr_0, gr_S] <;> omega) | fail) only [r32_0, r32_1, r32_2, r32_3, r32_4, r32_5, r32_6, r32_7, r32_8, r32_9, r32_10, r32_11, r32_12, r32_13, r32_14, r32_15, r32_16, r32_17, r32_18, l32_19, r32_20, r32_21, r32_22, c32, rs32, gc32, loadV_ptr, storeV_ptr, List.append_assoc, List.length_append, List.length_cons, List.length_nil, List.set_cons_zero, List.set_cons_succ, tk_here, tk_app, gr_here, gr_app, st_here, st_app, t2, t5, t6, t27, t28, t29, Int.lt_irrefl, gr_l hjO, gr_l hjD, st_l hjO, gO, gD, nw, e0, hbig, k11, k12, k13, k14, k15, k16, k17, k21, k22, k23, k24, k25, k26, k27, k31, k32, k33, k34, k35, k36, k37, k51, k52, k53, k54, k55, k56, k57, go_sem, ↓reduceIte, Nat.reduceLT, Nat.reduceEqDiff, Nat.reduceAdd, Nat.reduceMul, Nat.reduceSub, Int.reduceAdd, Int.reduceSub, Nat.reduceLeDiff, Int.reduceLT, Int.reduceLE, Int.reduceEq, Int.reduceNeg, Int.reduceToNat, hy])
        exact ⟨noCp, finQ_app (by rw [noCp_f]; simp (disch := first | rfl | omega | exact lt_new _ | assumption | decide | (simp [tk_here, tk_app, tk_0, tk_S, gr_here, gr_app, gr_0, gr_S] <;> omega) | fail) only [go_sem, ↓reduceIte, Nat.reduceLT, Nat.reduceEqDiff, Nat.reduceAdd, Nat.reduceMul, Nat.reduceSub, Int.reduceAdd, Int.reduceSub, Nat.reduceLeDiff, Int.reduceLT, Int.reduceLE, Int.reduceEq, Int.reduceNeg, Int.reduceToNat]), CpEq.rfl' _⟩
      · skip
        simp (disch := first | rfl | omega | exact lt_new _ | assumption | decide | (simp [tk_here, tk_app, tk_0, tk_S, gr_here, gr_app, gr_0, gr_S] <;> omega) | fail) only [r32_0, r32_1, r32_2, r32_3, r32_4, r32_5, r32_6, r32_7, r32_8, r32_9, r32_10, r32_11, r32_12, r32_13, r32_14, r32_15, r32_16, r32_17, r32_18, l32_19, r32_20, r32_21, r32_22, c32, rs32, gc32, loadV_ptr, storeV_ptr, List.append_assoc, List.length_append, List.length_cons, List.length_nil, List.set_cons_zero, List.set_cons_succ, tk_here, tk_app, gr_here, gr_app, st_here, st_app, t2, t5, t6, t27, t28, t29, Int.lt_irrefl, gr_l hjO, gr_l hjD, st_l hjO, gO, gD, nw, e0, hbig, k11, k12, k13, k14, k15, k16, k17, k21, k22, k23, k24, k25, k26, k27, k31, k32, k33, k34, k35, k36, k37, k51, k52, k53, k54, k55, k56, k57, go_sem, ↓reduceIte, Nat.reduceLT, Nat.reduceEqDiff, Nat.reduceAdd, Nat.reduceMul, Nat.reduceSub, Int.reduceAdd, Int.reduceSub, Nat.reduceLeDiff, Int.reduceLT, Int.reduceLE, Int.reduceEq, Int.reduceNeg, Int.reduceToNat]
        repeat' ((first | refine guardB_dec (fun hy => ?_) (fun hy => ?_) | refine guardB_bool (fun hy => ?_) (fun hy => ?_) | refine guardQ_ite (fun hy => ?_) (fun hy => ?_) | refine brQ_dec (fun hy => ?_) (fun hy => ?_) | refine brQ_bool (fun hy => ?_) (fun hy => ?_)) <;> (try simp only [Bool.not_eq_true', Bool.not_eq_false', Bool.and_eq_true, Bool.or_eq_false_iff, decide_eq_true_eq, decide_eq_false_iff_not] at hy) <;> simp (disch := first | rfl | omega | exact lt_new _ | assumption | decide | (simp [tk_here, tk_app, tk_0, tk_S, gr_here, gr_app, gr_0, gr_S] <;> omega) | fail) only [r32_0, r32_1, r32_2, r32_3, r32_4, r32_5, r32_6, r32_7, r32_8, r32_9, r32_10, r32_11, r32_12, r32_13, r32_14, r32_15, r32_16, r32_17, r32_18, l32_19, r32_20, r32_21, r32_22, c32, rs32, gc32, loadV_ptr, storeV_ptr, List.append_assoc, List.length_append, List.length_cons, List.length_nil, List.set_cons_zero, List.set_cons_succ, tk_here, tk_app, gr_here, gr_app, st_here, st_app, t2, t5, t6, t27, t28, t29, Int.lt_irrefl, gr_l hjO, gr_l hjD, st_l hjO, gO, gD, nw, e0, hbig, k11, k12, k13, k14, k15, k16, k17, k21, k22, k23, k24, k25, k26, k27, k31, k32, k33, k34, k35, k36, k37, k51, k52, k53, k54, k55, k56, k57, go_sem, ↓reduceIte, Nat.reduceLT, Nat.reduceEqDiff, Nat.reduceAdd, Nat.reduceMul, Nat.reduceSub, Int.reduceAdd, Int.reduceSub, Nat.reduceLeDiff, Int.reduceLT, Int.reduceLE, Int.reduceEq, Int.reduceNeg, Int.reduceToNat, hy])
        have hin : ∀ {α : Type} {E : Enc α} {v : V} {l : List α}, RowM E (H.length + 1) (L0 ++ K) v l → ∀ A, ∃ b, inlC H.length (H ++ A :: (L0 ++ K)) 8 v = some (slV b E l) := by
          intro α E v l h A
          obtain ⟨b, i⟩ := RowM.inl (f := 6) (A := H) (m := H.length) (RowM.pre [A] h) rfl (Nat.le_refl _)
          simp only [List.cons_append, List.nil_append] at i
          exact ⟨b, i⟩
        obtain ⟨b1, i1⟩ := hin (q1.app K) (AB.row 0 [.str c.note, v1, v2, v3, w] true)
        obtain ⟨b2, i2⟩ := hin (q2.app K) (AB.row 0 [.str c.note, v1, v2, v3, w] true)
        obtain ⟨b3, i3⟩ := hin (q3.app K) (AB.row 0 [.str c.note, v1, v2, v3, w] true)
        obtain ⟨b4, i4⟩ := hin (RowM.pre L0 qw) (AB.row 0 [.str c.note, v1, v2, v3, w] true)
        refine ⟨⟨c.note, b1, c.faces, b2, c.names, b3, c.secrets, b4, jnP (c :: r)⟩, finQ_app ?_, rfl, rfl, rfl, rfl, rfl⟩
        simp (disch := first | rfl | omega | exact lt_new _ | assumption | decide | (simp [tk_here, tk_app, tk_0, tk_S, gr_here, gr_app, gr_0, gr_S] <;> omega) | fail) only [go_sem, ↓reduceIte, Nat.reduceLT, Nat.reduceEqDiff, Nat.reduceAdd, Nat.reduceMul, Nat.reduceSub, Int.reduceAdd, Int.reduceSub, Nat.reduceLeDiff, Int.reduceLT, Int.reduceLE, Int.reduceEq, Int.reduceNeg, Int.reduceToNat, i1, i2, i3, i4, cpE_f]
end Go.Proofs.Ytejkgnmjdaohdaa
/-
  The reference's Join, walked; the statement's function 'FileJoins'. No statement of the seat stands here.
-/
namespace Go.Proofs.Ytejkgnmjdaohdaa
open Go Go.An
set_option maxRecDepth 4000
set_option linter.unusedSimpArgs false
set_option linter.unusedVariables false

theorem sameL_comm {α : Type} {S : α → α → Bool} (h : ∀ x y, S x y = S y x) : ∀ l m : List α, sameL S l m = sameL S m l
  | [], [] => rfl
  | x :: xs, y :: ys => by simp only [sameL]; rw [h, sameL_comm h xs ys]
  | [], y :: ys => rfl
  | x :: xs, [] => rfl
theorem dcomm {α : Type} [DecidableEq α] (x y : α) : decide (x = y) = decide (y = x) := by
  by_cases h : x = y
  · simp [h]
  · rw [decide_eq_false h, decide_eq_false fun e => h e.symm]
theorem sameB_comm (a b : Cp) : sameB a b = sameB b a := by
  unfold sameB
  rw [dcomm a.note, sameL_comm (S := fcS) (fun x y => dcomm x y), sameL_comm (S := nmS) (fun x y => by unfold nmS; rw [dcomm x.text, dcomm x.addr]), sameL_comm (S := scS) (fun x y => by unfold scS; rw [dcomm x.label, dcomm x.key]), sameL_comm (S := pkS) (fun x y => by unfold pkS; rw [dcomm x.time, dcomm x.face, dcomm x.real, dcomm x.note, dcomm x.data])]
theorem sameL_refl {α : Type} {S : α → α → Bool} (h : ∀ x, S x x = true) : ∀ l : List α, sameL S l l = true
  | [] => rfl
  | x :: xs => by unfold sameL; rw [h, sameL_refl h xs]; rfl
theorem sameB_of {a b : Cp} (h : CpEq a b) : sameB a b = true := by
  obtain ⟨h1, h2, h3, h4, h5⟩ := h
  unfold sameB
  rw [h1, h2, h3, h4, h5, sameL_refl (by simp [fcS]), sameL_refl (by simp [nmS]), sameL_refl (by simp [scS]), sameL_refl (by simp [pkS])]
  simp
theorem fn76n (c : Cp) (H : Hp) : callL Try.prog pr 76 [.agg (cpE.f c), .nilslice] H = some (.agg (cpE.f (nop c)), H) := by
  have := fn76 c (b := true) (l := []) H
  rwa [slV_nil] at this
set_option maxHeartbeats 4000000 in
theorem fn33 {b : Bool} {l : List Cp} (hok : ∀ c ∈ l, CpOk c) (hl : l.length ≤ 2 ^ 62) (hlen : askE l = 0 → l.length ≤ 400000) (H : Hp) : ∃ d, callL Try.prog pr 33 [slV b cpE l] H = some (.tup [.agg (cpE.f d), .int .i64 (jnF l).2], H) ∧ CpEq d (jnF l).1 := by
  suffices h : ∃ r, callL Try.prog pr 33 [slV b cpE l] H = some r ∧ ∃ d, r = (.tup [.agg (cpE.f d), .int .i64 (jnF l).2], H) ∧ CpEq d (jnF l).1 by
    obtain ⟨_, h1, d, rfl, h2⟩ := h; exact ⟨d, h1, h2⟩
  have h58 := fun H => fn58 (b := b) hok hl H
  refine ex33 (Nat.le_of_ble_eq_true rfl) ?_
  cases l with
  | nil =>
    have ha : askE [] = 0 := rfl
    simp (disch := first | rfl | omega | exact lt_new _ | assumption | decide | (simp [tk_here, tk_app, tk_0, tk_S, gr_here, gr_app, gr_0, gr_S] <;> omega) | fail) only [r33_0, r33_1, r33_2, r33_3, r33_4, r33_5, r33_6, r33_7, r33_8, r33_9, r33_10, r33_11, r33_12, r33_14, r33_15, r33_16, c33, rs33, gc33, loadV_ptr, storeV_ptr, List.append_assoc, List.length_append, List.length_cons, List.length_nil, List.set_cons_zero, List.set_cons_succ, tk_here, tk_app, gr_here, gr_app, st_here, st_app, h58, ha, go_sem, ↓reduceIte, Nat.reduceLT, Nat.reduceEqDiff, Nat.reduceAdd, Nat.reduceMul, Nat.reduceSub, Int.reduceAdd, Int.reduceSub, Nat.reduceLeDiff, Int.reduceLT, Int.reduceLE, Int.reduceEq, Int.reduceNeg, Int.reduceToNat]
    repeat' ((first | refine guardB_dec (fun hy => ?_) (fun hy => ?_) | refine guardB_bool (fun hy => ?_) (fun hy => ?_) | refine guardQ_ite (fun hy => ?_) (fun hy => ?_) | refine brQ_dec (fun hy => ?_) (fun hy => ?_) | refine brQ_bool (fun hy => ?_) (fun hy => ?_)) <;> (try simp only [Bool.not_eq_true', Bool.not_eq_false', Bool.and_eq_true, Bool.or_eq_false_iff, decide_eq_true_eq, decide_eq_false_iff_not] at hy) <;> simp (disch := first | rfl | omega | exact lt_new _ | assumption | decide | (simp [tk_here, tk_app, tk_0, tk_S, gr_here, gr_app, gr_0, gr_S] <;> omega) | fail) only [r33_0, r33_1, r33_2, r33_3, r33_4, r33_5, r33_6, r33_7, r33_8, r33_9, r33_10, r33_11, r33_12, r33_14, r33_15, r33_16, c33, rs33, gc33, loadV_ptr, storeV_ptr, List.append_assoc, List.length_append, List.length_cons, List.length_nil, List.set_cons_zero, List.set_cons_succ, tk_here, tk_app, gr_here, gr_app, st_here, st_app, h58, ha, go_sem, ↓reduceIte, Nat.reduceLT, Nat.reduceEqDiff, Nat.reduceAdd, Nat.reduceMul, Nat.reduceSub, Int.reduceAdd, Int.reduceSub, Nat.reduceLeDiff, Int.reduceLT, Int.reduceLE, Int.reduceEq, Int.reduceNeg, Int.reduceToNat, hy])
    exact ⟨noCp, finQ_app (by rw [noCp_f]; simp (disch := first | rfl | omega | exact lt_new _ | assumption | decide | (simp [tk_here, tk_app, tk_0, tk_S, gr_here, gr_app, gr_0, gr_S] <;> omega) | fail) only [go_sem, ↓reduceIte, Nat.reduceLT, Nat.reduceEqDiff, Nat.reduceAdd, Nat.reduceMul, Nat.reduceSub, Int.reduceAdd, Int.reduceSub, Nat.reduceLeDiff, Int.reduceLT, Int.reduceLE, Int.reduceEq, Int.reduceNeg, Int.reduceToNat, jnF]), CpEq.rfl' _⟩
  | cons c r =>
    rw [show jnF (c :: r) = if askE (c :: r) = 0 then (if jnS c r = true then (if 100 < (jnP (c :: r)).length then (noCp, 3) else ({c with packets := jnP (c :: r)}, 0)) else (noCp, 10)) else (noCp, askE (c :: r)) from rfl]
    by_cases ha : askE (c :: r) = 0
    case neg =>
      rw [if_neg ha]
      simp (disch := first | rfl | omega | exact lt_new _ | assumption | decide | (simp [tk_here, tk_app, tk_0, tk_S, gr_here, gr_app, gr_0, gr_S] <;> omega) | fail) only [r33_0, r33_1, r33_2, r33_3, r33_4, r33_5, r33_6, r33_7, r33_8, r33_9, r33_10, r33_11, r33_12, r33_14, r33_15, r33_16, c33, rs33, gc33, loadV_ptr, storeV_ptr, List.append_assoc, List.length_append, List.length_cons, List.length_nil, List.set_cons_zero, List.set_cons_succ, tk_here, tk_app, gr_here, gr_app, st_here, st_app, h58, ha, go_sem, ↓reduceIte, Nat.reduceLT, Nat.reduceEqDiff, Nat.reduceAdd, Nat.reduceMul, Nat.reduceSub, Int.reduceAdd, Int.reduceSub, Nat.reduceLeDiff, Int.reduceLT, Int.reduceLE, Int.reduceEq, Int.reduceNeg, Int.reduceToNat]
      repeat' ((first | refine guardB_dec (fun hy => ?_) (fun hy => ?_) | refine guardB_bool (fun hy => ?_) (fun hy => ?_) | refine guardQ_ite (fun hy => ?_) (fun hy => ?_) | refine brQ_dec (fun hy => ?_) (fun hy => ?_) | refine brQ_bool (fun hy => ?_) (fun hy => ?_)) <;> (try simp only [Bool.not_eq_true', Bool.not_eq_false', Bool.and_eq_true, Bool.or_eq_false_iff, decide_eq_true_eq, decide_eq_false_iff_not] at hy) <;> simp (disch := first | rfl | omega | exact lt_new _ | assumption | decide | (simp [tk_here, tk_app, tk_0, tk_S, gr_here, gr_app, gr_0, gr_S] <;> omega) | fail) only [r33_0, r33_1, r33_2, r33_3, r33_4, r33_5, r33_6, r33_7, r33_8, r33_9, r33_10, r33_11, r33_12, r33_14, r33_15, r33_16, c33, rs33, gc33, loadV_ptr, storeV_ptr, List.append_assoc, List.length_append, List.length_cons, List.length_nil, List.set_cons_zero, List.set_cons_succ, tk_here, tk_app, gr_here, gr_app, st_here, st_app, h58, ha, go_sem, ↓reduceIte, Nat.reduceLT, Nat.reduceEqDiff, Nat.reduceAdd, Nat.reduceMul, Nat.reduceSub, Int.reduceAdd, Int.reduceSub, Nat.reduceLeDiff, Int.reduceLT, Int.reduceLE, Int.reduceEq, Int.reduceNeg, Int.reduceToNat, hy])
      exact ⟨noCp, finQ_app (by rw [noCp_f]; simp (disch := first | rfl | omega | exact lt_new _ | assumption | decide | (simp [tk_here, tk_app, tk_0, tk_S, gr_here, gr_app, gr_0, gr_S] <;> omega) | fail) only [go_sem, ↓reduceIte, Nat.reduceLT, Nat.reduceEqDiff, Nat.reduceAdd, Nat.reduceMul, Nat.reduceSub, Int.reduceAdd, Int.reduceSub, Nat.reduceLeDiff, Int.reduceLT, Int.reduceLE, Int.reduceEq, Int.reduceNeg, Int.reduceToNat]), CpEq.rfl' _⟩
    rw [if_pos ha]
    have hlen := hlen ha
    have hv := askE_all ha
    obtain ⟨L, hL⟩ : ∃ L, c :: r = L := ⟨_, rfl⟩
    have hrl : 0 < L.length ∧ L.length ≤ 400000 := by rw [← hL, List.length_cons] at *; omega
    have hl1 : ¬ (L.length : Int) = 0 := by omega
    have hp0 : (0 : Int) < (L.length : Int) := by omega
    have hld : ∀ H, loadV Try.prog 31 H (.ipt (flatE cpE L) 0) = some (.agg (cpE.f c)) := fun H => by
      have := ld_cpE (H := H) (l := c :: r) (i := 0) (by simp)
      rw [← hL]
      simpa [Enc.at] using this
    rw [hL] at h58 ha hlen hv hok
    rw [hL]
    have hjs : jnS c r = L.all fun d => sameB (nop d) (nop c) := by
      rw [← hL, List.all_cons, sameB_of (CpEq.rfl' _), Bool.true_and]
      unfold jnS
      congr 1
      funext d
      exact sameB_comm _ _
    rw [hjs]
    simp (disch := first | rfl | omega | exact lt_new _ | assumption | decide | (simp [tk_here, tk_app, tk_0, tk_S, gr_here, gr_app, gr_0, gr_S] <;> omega) | fail) only [r33_0, r33_1, r33_2, r33_3, r33_4, r33_5, r33_6, r33_7, r33_8, r33_9, r33_10, r33_11, r33_12, r33_14, r33_15, r33_16, c33, rs33, gc33, loadV_ptr, storeV_ptr, List.append_assoc, List.length_append, List.length_cons, List.length_nil, List.set_cons_zero, List.set_cons_succ, tk_here, tk_app, gr_here, gr_app, st_here, st_app, h58, ha, hl1, hp0, hld, go_sem, ↓reduceIte, Nat.reduceLT, Nat.reduceEqDiff, Nat.reduceAdd, Nat.reduceMul, Nat.reduceSub, Int.reduceAdd, Int.reduceSub, Nat.reduceLeDiff, Int.reduceLT, Int.reduceLE, Int.reduceEq, Int.reduceNeg, Int.reduceToNat]
    repeat' ((first | refine guardB_dec (fun hy => ?_) (fun hy => ?_) | refine guardB_bool (fun hy => ?_) (fun hy => ?_) | refine guardQ_ite (fun hy => ?_) (fun hy => ?_) | refine brQ_dec (fun hy => ?_) (fun hy => ?_) | refine brQ_bool (fun hy => ?_) (fun hy => ?_)) <;> (try simp only [Bool.not_eq_true', Bool.not_eq_false', Bool.and_eq_true, Bool.or_eq_false_iff, decide_eq_true_eq, decide_eq_false_iff_not] at hy) <;> simp (disch := first | rfl | omega | exact lt_new _ | assumption | decide | (simp [tk_here, tk_app, tk_0, tk_S, gr_here, gr_app, gr_0, gr_S] <;> omega) | fail) only [r33_0, r33_1, r33_2, r33_3, r33_4, r33_5, r33_6, r33_7, r33_8, r33_9, r33_10, r33_11, r33_12, r33_14, r33_15, r33_16, c33, rs33, gc33, loadV_ptr, storeV_ptr, List.append_assoc, List.length_append, List.length_cons, List.length_nil, List.set_cons_zero, List.set_cons_succ, tk_here, tk_app, gr_here, gr_app, st_here, st_app, h58, ha, hl1, hp0, hld, go_sem, ↓reduceIte, Nat.reduceLT, Nat.reduceEqDiff, Nat.reduceAdd, Nat.reduceMul, Nat.reduceSub, Int.reduceAdd, Int.reduceSub, Nat.reduceLeDiff, Int.reduceLT, Int.reduceLE, Int.reduceEq, Int.reduceNeg, Int.reduceToNat, hy])
    refine Wp_loop (fun m T D H' => ∃ i G, m = L.length - i ∧ i ≤ L.length ∧ D = [] ∧ H' = H ++ AB.row 0 [.str [], .nilslice, .nilslice, .nilslice, .nilslice] true :: .tok ((jnP (L.take i)).length * 5) :: G ∧ get T 0 = slV b cpE L ∧ get T 2 = .ptr H.length 0 0 ∧ get T 5 = osV (H.length + 1) pkE (jnP (L.take i)) ∧ get T 6 = .int .i64 i ∧ (L.take i).all (fun d => sameB (nop d) (nop c)) = true) ?_ L.length _ _ _ ?_
    case refine_2 => exact ⟨0, [], by simp (disch := first | rfl | omega | exact lt_new _ | assumption | decide | (simp [tk_here, tk_app, tk_0, tk_S, gr_here, gr_app, gr_0, gr_S] <;> omega) | fail) only [go_sem, ↓reduceIte, Nat.reduceLT, Nat.reduceEqDiff, Nat.reduceAdd, Nat.reduceMul, Nat.reduceSub, Int.reduceAdd, Int.reduceSub, Nat.reduceLeDiff, Int.reduceLT, Int.reduceLE, Int.reduceEq, Int.reduceNeg, Int.reduceToNat]; simp [osV_nil, jnP]⟩
    rintro m T D H' ⟨i, G, rfl, hi, rfl, rfl, t0, t2, t5, t6, hall⟩
    have hjl : (jnP (L.take i)).length ≤ 100 * L.length := by
      have h1 := jnP_len (l := L.take i) fun x hx => hv x (List.mem_of_mem_take hx)
      have h2 : (L.take i).length ≤ L.length := by rw [List.length_take]; omega
      omega
    by_cases hlt : i < L.length
    · have hlt' : (i : Int) < L.length := by omega
      obtain ⟨d, hd⟩ : ∃ d, cpE.at L i = d := ⟨_, rfl⟩
      have hdm : d ∈ L := by rw [← hd]; exact cpE.at_mem hlt
      have hdc : CpOk d := hok d hdm
      have hvd : valE d = 0 := hv d hdm
      have hdl := (val_pk hvd).2.1.1
      have hjt : (L.take (i + 1)).all (fun d => sameB (nop d) (nop c)) = sameB (nop d) (nop c) := by
        rw [cpE.take_at hlt, List.all_append, hall, hd]
        simp
      have hjp : jnP (L.take (i + 1)) = jnP (L.take i) ++ d.packets := by
        unfold jnP
        rw [cpE.take_at hlt, hd]
        simp
      have h18 := fun H => fn18 (nop d) (nop c) (nop_ok hdc).fits H
      have h76 := fun c H => fn76n c H
      have hoa := fun {H : Hp} {id : Nat} (ht : tokAt H id = some ((jnP (L.take i)).length * 5)) => os_all (E := pkE) (w := 5) (by_ := 64) (l := jnP (L.take i)) (m := d.packets) d.packetsN rfl ht (by omega) (by omega)
      by_cases hq : sameB (nop d) (nop c) = true
      · skip
        simp (disch := first | rfl | omega | exact lt_new _ | assumption | decide | (simp [tk_here, tk_app, tk_0, tk_S, gr_here, gr_app, gr_0, gr_S] <;> omega) | fail) only [r33_0, r33_1, r33_2, r33_3, r33_4, r33_5, r33_6, r33_7, r33_8, r33_9, r33_10, r33_11, r33_12, l33_13, r33_14, r33_15, r33_16, c33, rs33, gc33, loadV_ptr, storeV_ptr, List.append_assoc, List.length_append, List.length_cons, List.length_nil, List.set_cons_zero, List.set_cons_succ, tk_here, tk_app, gr_here, gr_app, st_here, st_app, t0, t2, t5, t6, hlt', hp0, hld, hd, h76, h18, hq, hoa, go_sem, ↓reduceIte, Nat.reduceLT, Nat.reduceEqDiff, Nat.reduceAdd, Nat.reduceMul, Nat.reduceSub, Int.reduceAdd, Int.reduceSub, Nat.reduceLeDiff, Int.reduceLT, Int.reduceLE, Int.reduceEq, Int.reduceNeg, Int.reduceToNat]
        repeat' ((first | refine guardB_dec (fun hy => ?_) (fun hy => ?_) | refine guardB_bool (fun hy => ?_) (fun hy => ?_) | refine guardQ_ite (fun hy => ?_) (fun hy => ?_) | refine brQ_dec (fun hy => ?_) (fun hy => ?_) | refine brQ_bool (fun hy => ?_) (fun hy => ?_)) <;> (try simp only [Bool.not_eq_true', Bool.not_eq_false', Bool.and_eq_true, Bool.or_eq_false_iff, decide_eq_true_eq, decide_eq_false_iff_not] at hy) <;> simp (disch := first | rfl | omega | exact lt_new _ | assumption | decide | (simp [tk_here, tk_app, tk_0, tk_S, gr_here, gr_app, gr_0, gr_S] <;> omega) | fail) only [r33_0, r33_1, r33_2, r33_3, r33_4, r33_5, r33_6, r33_7, r33_8, r33_9, r33_10, r33_11, r33_12, l33_13, r33_14, r33_15, r33_16, c33, rs33, gc33, loadV_ptr, storeV_ptr, List.append_assoc, List.length_append, List.length_cons, List.length_nil, List.set_cons_zero, List.set_cons_succ, tk_here, tk_app, gr_here, gr_app, st_here, st_app, t0, t2, t5, t6, hlt', hp0, hld, hd, h76, h18, hq, hoa, go_sem, ↓reduceIte, Nat.reduceLT, Nat.reduceEqDiff, Nat.reduceAdd, Nat.reduceMul, Nat.reduceSub, Int.reduceAdd, Int.reduceSub, Nat.reduceLeDiff, Int.reduceLT, Int.reduceLE, Int.reduceEq, Int.reduceNeg, Int.reduceToNat, hy])
        exact ⟨_, by omega, i + 1, _, rfl, hlt, by rw [hjp, List.length_append], by rw [hjp], rfl, by rw [hjt, hq]⟩
      · rw [Bool.not_eq_true] at hq
        have hno : (L.all fun d => sameB (nop d) (nop c)) = false := by
          rw [List.all_eq_false]
          exact ⟨d, hdm, by simp [hq]⟩
        simp (disch := first | rfl | omega | exact lt_new _ | assumption | decide | (simp [tk_here, tk_app, tk_0, tk_S, gr_here, gr_app, gr_0, gr_S] <;> omega) | fail) only [r33_0, r33_1, r33_2, r33_3, r33_4, r33_5, r33_6, r33_7, r33_8, r33_9, r33_10, r33_11, r33_12, l33_13, r33_14, r33_15, r33_16, c33, rs33, gc33, loadV_ptr, storeV_ptr, List.append_assoc, List.length_append, List.length_cons, List.length_nil, List.set_cons_zero, List.set_cons_succ, tk_here, tk_app, gr_here, gr_app, st_here, st_app, t0, t2, t5, t6, hlt', hp0, hld, hd, h76, h18, hq, go_sem, ↓reduceIte, Nat.reduceLT, Nat.reduceEqDiff, Nat.reduceAdd, Nat.reduceMul, Nat.reduceSub, Int.reduceAdd, Int.reduceSub, Nat.reduceLeDiff, Int.reduceLT, Int.reduceLE, Int.reduceEq, Int.reduceNeg, Int.reduceToNat]
        repeat' ((first | refine guardB_dec (fun hy => ?_) (fun hy => ?_) | refine guardB_bool (fun hy => ?_) (fun hy => ?_) | refine guardQ_ite (fun hy => ?_) (fun hy => ?_) | refine brQ_dec (fun hy => ?_) (fun hy => ?_) | refine brQ_bool (fun hy => ?_) (fun hy => ?_)) <;> (try simp only [Bool.not_eq_true', Bool.not_eq_false', Bool.and_eq_true, Bool.or_eq_false_iff, decide_eq_true_eq, decide_eq_false_iff_not] at hy) <;> simp (disch := first | rfl | omega | exact lt_new _ | assumption | decide | (simp [tk_here, tk_app, tk_0, tk_S, gr_here, gr_app, gr_0, gr_S] <;> omega) | fail) only [r33_0, r33_1, r33_2, r33_3, r33_4, r33_5, r33_6, r33_7, r33_8, r33_9, r33_10, r33_11, r33_12, l33_13, r33_14, r33_15, r33_16, c33, rs33, gc33, loadV_ptr, storeV_ptr, List.append_assoc, List.length_append, List.length_cons, List.length_nil, List.set_cons_zero, List.set_cons_succ, tk_here, tk_app, gr_here, gr_app, st_here, st_app, t0, t2, t5, t6, hlt', hp0, hld, hd, h76, h18, hq, go_sem, ↓reduceIte, Nat.reduceLT, Nat.reduceEqDiff, Nat.reduceAdd, Nat.reduceMul, Nat.reduceSub, Int.reduceAdd, Int.reduceSub, Nat.reduceLeDiff, Int.reduceLT, Int.reduceLE, Int.reduceEq, Int.reduceNeg, Int.reduceToNat, hy])
        simp only [hno, Bool.false_eq_true, if_false]
        exact ⟨noCp, finQ_app (by rw [noCp_f]; simp (disch := first | rfl | omega | exact lt_new _ | assumption | decide | (simp [tk_here, tk_app, tk_0, tk_S, gr_here, gr_app, gr_0, gr_S] <;> omega) | fail) only [go_sem, ↓reduceIte, Nat.reduceLT, Nat.reduceEqDiff, Nat.reduceAdd, Nat.reduceMul, Nat.reduceSub, Int.reduceAdd, Int.reduceSub, Nat.reduceLeDiff, Int.reduceLT, Int.reduceLE, Int.reduceEq, Int.reduceNeg, Int.reduceToNat]), CpEq.rfl' _⟩
    · obtain rfl : i = L.length := by omega
      rw [List.take_length] at hall t5 hjl
      rw [List.take_length]
      have e0 : ((100 : Int) < ((jnP L).length : Int)) = (100 < (jnP L).length) := by simp; omega
      have h76 := fun H => fn76 c (b := true) (l := jnP L) H
      simp only [hall, if_true]
      by_cases hbig : 100 < (jnP L).length
      · skip
        simp (disch := first | rfl | omega | exact lt_new _ | assumption | decide | (simp [tk_here, tk_app, tk_0, tk_S, gr_here, gr_app, gr_0, gr_S] <;> omega) | fail) only [r33_0, r33_1, r33_2, r33_3, r33_4, r33_5, r33_6, r33_7, r33_8, r33_9, r33_10, r33_11, r33_12, l33_13, r33_14, r33_15, r33_16, c33, rs33, gc33, loadV_ptr, storeV_ptr, List.append_assoc, List.length_append, List.length_cons, List.length_nil, List.set_cons_zero, List.set_cons_succ, tk_here, tk_app, gr_here, gr_app, st_here, st_app, t0, t2, t5, t6, Int.lt_irrefl, hp0, hld, e0, hbig, go_sem, ↓reduceIte, Nat.reduceLT, Nat.reduceEqDiff, Nat.reduceAdd, Nat.reduceMul, Nat.reduceSub, Int.reduceAdd, Int.reduceSub, Nat.reduceLeDiff, Int.reduceLT, Int.reduceLE, Int.reduceEq, Int.reduceNeg, Int.reduceToNat]
        repeat' ((first | refine guardB_dec (fun hy => ?_) (fun hy => ?_) | refine guardB_bool (fun hy => ?_) (fun hy => ?_) | refine guardQ_ite (fun hy => ?_) (fun hy => ?_) | refine brQ_dec (fun hy => ?_) (fun hy => ?_) | refine brQ_bool (fun hy => ?_) (fun hy => ?_)) <;> (try simp only [Bool.not_eq_true', Bool.not_eq_false', Bool.and_eq_true, Bool.or_eq_false_iff, decide_eq_true_eq, decide_eq_false_iff_not] at hy) <;> simp (disch := first | rfl | omega | exact lt_new _ | assumption | decide | (simp [tk_here, tk_app, tk_0, tk_S, gr_here, gr_app, gr_0, gr_S] <;> omega) | fail) only [r33_0, r33_1, r33_2, r33_3, r33_4, r33_5, r33_6, r33_7, r33_8, r33_9, r33_10, r33_11, r33_12, l33_13, r33_14, r33_15, r33_16, c33, rs33, gc33, loadV_ptr, storeV_ptr, List.append_assoc, List.length_append, List.length_cons, List.length_nil, List.set_cons_zero, List.set_cons_succ, tk_here, tk_app, gr_here, gr_app, st_here, st_app, t0, t2, t5, t6, Int.lt_irrefl, hp0, hld, e0, hbig, go_sem, ↓reduceIte, Nat.reduceLT, Nat.reduceEqDiff, Nat.reduceAdd, Nat.reduceMul, Nat.reduceSub, Int.reduceAdd, Int.reduceSub, Nat.reduceLeDiff, Int.reduceLT, Int.reduceLE, Int.reduceEq, Int.reduceNeg, Int.reduceToNat, hy])
        exact ⟨noCp, finQ_app (by rw [noCp_f]; simp (disch := first | rfl | omega | exact lt_new _ | assumption | decide | (simp [tk_here, tk_app, tk_0, tk_S, gr_here, gr_app, gr_0, gr_S] <;> omega) | fail) only [go_sem, ↓reduceIte, Nat.reduceLT, Nat.reduceEqDiff, Nat.reduceAdd, Nat.reduceMul, Nat.reduceSub, Int.reduceAdd, Int.reduceSub, Nat.reduceLeDiff, Int.reduceLT, Int.reduceLE, Int.reduceEq, Int.reduceNeg, Int.reduceToNat]), CpEq.rfl' _⟩
      · skip
        simp (disch := first | rfl | omega | exact lt_new _ | assumption | decide | (simp [tk_here, tk_app, tk_0, tk_S, gr_here, gr_app, gr_0, gr_S] <;> omega) | fail) only [r33_0, r33_1, r33_2, r33_3, r33_4, r33_5, r33_6, r33_7, r33_8, r33_9, r33_10, r33_11, r33_12, l33_13, r33_14, r33_15, r33_16, c33, rs33, gc33, loadV_ptr, storeV_ptr, List.append_assoc, List.length_append, List.length_cons, List.length_nil, List.set_cons_zero, List.set_cons_succ, tk_here, tk_app, gr_here, gr_app, st_here, st_app, t0, t2, t5, t6, Int.lt_irrefl, hp0, hld, e0, hbig, h76, go_sem, ↓reduceIte, Nat.reduceLT, Nat.reduceEqDiff, Nat.reduceAdd, Nat.reduceMul, Nat.reduceSub, Int.reduceAdd, Int.reduceSub, Nat.reduceLeDiff, Int.reduceLT, Int.reduceLE, Int.reduceEq, Int.reduceNeg, Int.reduceToNat]
        repeat' ((first | refine guardB_dec (fun hy => ?_) (fun hy => ?_) | refine guardB_bool (fun hy => ?_) (fun hy => ?_) | refine guardQ_ite (fun hy => ?_) (fun hy => ?_) | refine brQ_dec (fun hy => ?_) (fun hy => ?_) | refine brQ_bool (fun hy => ?_) (fun hy => ?_)) <;> (try simp only [Bool.not_eq_true', Bool.not_eq_false', Bool.and_eq_true, Bool.or_eq_false_iff, decide_eq_true_eq, decide_eq_false_iff_not] at hy) <;> simp (disch := first | rfl | omega | exact lt_new _ | assumption | decide | (simp [tk_here, tk_app, tk_0, tk_S, gr_here, gr_app, gr_0, gr_S] <;> omega) | fail) only [r33_0, r33_1, r33_2, r33_3, r33_4, r33_5, r33_6, r33_7, r33_8, r33_9, r33_10, r33_11, r33_12, l33_13, r33_14, r33_15, r33_16, c33, rs33, gc33, loadV_ptr, storeV_ptr, List.append_assoc, List.length_append, List.length_cons, List.length_nil, List.set_cons_zero, List.set_cons_succ, tk_here, tk_app, gr_here, gr_app, st_here, st_app, t0, t2, t5, t6, Int.lt_irrefl, hp0, hld, e0, hbig, h76, go_sem, ↓reduceIte, Nat.reduceLT, Nat.reduceEqDiff, Nat.reduceAdd, Nat.reduceMul, Nat.reduceSub, Int.reduceAdd, Int.reduceSub, Nat.reduceLeDiff, Int.reduceLT, Int.reduceLE, Int.reduceEq, Int.reduceNeg, Int.reduceToNat, hy])
        exact ⟨{c with packetsN := true, packets := jnP L}, finQ_app (by simp (disch := first | rfl | omega | exact lt_new _ | assumption | decide | (simp [tk_here, tk_app, tk_0, tk_S, gr_here, gr_app, gr_0, gr_S] <;> omega) | fail) only [go_sem, ↓reduceIte, Nat.reduceLT, Nat.reduceEqDiff, Nat.reduceAdd, Nat.reduceMul, Nat.reduceSub, Int.reduceAdd, Int.reduceSub, Nat.reduceLeDiff, Int.reduceLT, Int.reduceLE, Int.reduceEq, Int.reduceNeg, Int.reduceToNat]), rfl, rfl, rfl, rfl, rfl⟩
theorem CpEq.trans' {a b d : Cp} (h : CpEq a d) (h' : CpEq b d) : CpEq a b := by
  obtain ⟨h1, h2, h3, h4, h5⟩ := h
  obtain ⟨g1, g2, g3, g4, g5⟩ := h'
  exact ⟨h1.trans g1.symm, h2.trans g2.symm, h3.trans g3.symm, h4.trans g4.symm, h5.trans g5.symm⟩
theorem CpEq.fits {a d : Cp} (h : CpEq a d) (hd : Fits d) : Fits a := by
  obtain ⟨h1, h2, h3, h4, h5⟩ := h
  unfold Fits
  rw [h2, h3, h4, h5]
  exact hd
theorem noFits : Fits noCp := ⟨by decide, by decide, by decide, by decide⟩
theorem jnFits {l : List Cp} (hok : ∀ c ∈ l, CpOk c) : Fits (jnF l).1 := by
  cases l with
  | nil => exact noFits
  | cons c r =>
    obtain ⟨h1, h2, h3, h4⟩ := (hok c (by simp)).fits
    rw [show jnF (c :: r) = if askE (c :: r) = 0 then (if jnS c r = true then (if 100 < (jnP (c :: r)).length then (noCp, 3) else ({c with packets := jnP (c :: r)}, 0)) else (noCp, 10)) else (noCp, askE (c :: r)) from rfl]
    split
    · split
      · split
        · exact noFits
        · rename_i hb
          exact ⟨h1, h2, h3, by simp only; omega⟩
      · exact noFits
    · exact noFits
set_option maxHeartbeats 1000000 in
theorem fn8 {b : Bool} {l : List Cp} (hok : ∀ c ∈ l, CpOk c) (hl : l.length ≤ 2 ^ 41) (H : Hp) : callL Try.prog pr 8 [slV b cpE l] H = some (.bool true, H) := by
  obtain ⟨n, hn⟩ : ∃ n : Hp → Int, ∀ H, callL Try.prog pr 14 [slV b cpE l] H = some (.int .i64 (n H), H) ∧ (askE l = 0 → (l.length : Int) ≤ n H) := ⟨fun H => (fn14 (b := b) hok hl H).choose, fun H => (fn14 (b := b) hok hl H).choose_spec⟩
  have h14 := fun H => (hn H).1
  by_cases hg : 400000 < n H
  · refine run8 (Nat.le_of_ble_eq_true rfl) ?_
    simp (disch := first | rfl | omega | exact lt_new _ | assumption | decide | (simp [tk_here, tk_app, tk_0, tk_S, gr_here, gr_app, gr_0, gr_S] <;> omega) | fail) only [r8_0, r8_1, r8_2, r8_3, r8_4, r8_5, c8, rs8, gc8, loadV_ptr, storeV_ptr, List.append_assoc, List.length_append, List.length_cons, List.length_nil, List.set_cons_zero, List.set_cons_succ, tk_here, tk_app, gr_here, gr_app, st_here, st_app, known_call, h14, hg, go_sem, ↓reduceIte, Nat.reduceLT, Nat.reduceEqDiff, Nat.reduceAdd, Nat.reduceMul, Nat.reduceSub, Int.reduceAdd, Int.reduceSub, Nat.reduceLeDiff, Int.reduceLT, Int.reduceLE, Int.reduceEq, Int.reduceNeg, Int.reduceToNat]
    repeat' ((first | refine guardB_dec (fun hy => ?_) (fun hy => ?_) | refine guardB_bool (fun hy => ?_) (fun hy => ?_) | refine guardQ_ite (fun hy => ?_) (fun hy => ?_) | refine brQ_dec (fun hy => ?_) (fun hy => ?_) | refine brQ_bool (fun hy => ?_) (fun hy => ?_)) <;> (try simp only [Bool.not_eq_true', Bool.not_eq_false', Bool.and_eq_true, Bool.or_eq_false_iff, decide_eq_true_eq, decide_eq_false_iff_not] at hy) <;> simp (disch := first | rfl | omega | exact lt_new _ | assumption | decide | (simp [tk_here, tk_app, tk_0, tk_S, gr_here, gr_app, gr_0, gr_S] <;> omega) | fail) only [r8_0, r8_1, r8_2, r8_3, r8_4, r8_5, c8, rs8, gc8, loadV_ptr, storeV_ptr, List.append_assoc, List.length_append, List.length_cons, List.length_nil, List.set_cons_zero, List.set_cons_succ, tk_here, tk_app, gr_here, gr_app, st_here, st_app, known_call, h14, hg, go_sem, ↓reduceIte, Nat.reduceLT, Nat.reduceEqDiff, Nat.reduceAdd, Nat.reduceMul, Nat.reduceSub, Int.reduceAdd, Int.reduceSub, Nat.reduceLeDiff, Int.reduceLT, Int.reduceLE, Int.reduceEq, Int.reduceNeg, Int.reduceToNat, hy])
    all_goals (try ((first | refine finQ_same ?_ | refine finQ_app ?_ | (rw [List.append_assoc]; refine finQ_app ?_)) <;> simp (disch := first | rfl | omega | exact lt_new _ | assumption | decide | (simp [tk_here, tk_app, tk_0, tk_S, gr_here, gr_app, gr_0, gr_S] <;> omega) | fail) only [go_sem, ↓reduceIte, Nat.reduceLT, Nat.reduceEqDiff, Nat.reduceAdd, Nat.reduceMul, Nat.reduceSub, Int.reduceAdd, Int.reduceSub, Nat.reduceLeDiff, Int.reduceLT, Int.reduceLE, Int.reduceEq, Int.reduceNeg, Int.reduceToNat, List.append_assoc, List.cons_append, List.nil_append, *]))
    all_goals (try first | rfl | (simp [*]; done) | grind)
  · have hlen : askE l = 0 → l.length ≤ 400000 := fun h => by have := (hn H).2 h; omega
    obtain ⟨d1, h1⟩ : ∃ d : Hp → Cp, ∀ H, callL Try.prog pr 32 [slV b cpE l] H = some (.tup [.agg (cpE.f (d H)), .int .i64 (jnF l).2], H) ∧ CpEq (d H) (jnF l).1 := ⟨fun H => (fn32 hok (by omega) hlen H).choose, fun H => (fn32 hok (by omega) hlen H).choose_spec⟩
    obtain ⟨d2, h2⟩ : ∃ d : Hp → Cp, ∀ H, callL Try.prog pr 33 [slV b cpE l] H = some (.tup [.agg (cpE.f (d H)), .int .i64 (jnF l).2], H) ∧ CpEq (d H) (jnF l).1 := ⟨fun H => (fn33 hok (by omega) hlen H).choose, fun H => (fn33 hok (by omega) hlen H).choose_spec⟩
    have s12 : ∀ H1 H2 H, callL Try.prog pr 18 [.agg (cpE.f (d1 H1)), .agg (cpE.f (d2 H2))] H = some (.bool true, H) := fun H1 H2 H => by
      rw [fn18 _ _ ((h1 H1).2.fits (jnFits hok)), sameB_of ((h1 H1).2.trans' (h2 H2).2)]
    have e1 := fun H => (h1 H).1
    have e2 := fun H => (h2 H).1
    refine run8 (Nat.le_of_ble_eq_true rfl) ?_
    simp (disch := first | rfl | omega | exact lt_new _ | assumption | decide | (simp [tk_here, tk_app, tk_0, tk_S, gr_here, gr_app, gr_0, gr_S] <;> omega) | fail) only [r8_0, r8_1, r8_2, r8_3, r8_4, r8_5, c8, rs8, gc8, loadV_ptr, storeV_ptr, List.append_assoc, List.length_append, List.length_cons, List.length_nil, List.set_cons_zero, List.set_cons_succ, tk_here, tk_app, gr_here, gr_app, st_here, st_app, known_call, h14, hg, e1, e2, s12, go_sem, ↓reduceIte, Nat.reduceLT, Nat.reduceEqDiff, Nat.reduceAdd, Nat.reduceMul, Nat.reduceSub, Int.reduceAdd, Int.reduceSub, Nat.reduceLeDiff, Int.reduceLT, Int.reduceLE, Int.reduceEq, Int.reduceNeg, Int.reduceToNat]
    repeat' ((first | refine guardB_dec (fun hy => ?_) (fun hy => ?_) | refine guardB_bool (fun hy => ?_) (fun hy => ?_) | refine guardQ_ite (fun hy => ?_) (fun hy => ?_) | refine brQ_dec (fun hy => ?_) (fun hy => ?_) | refine brQ_bool (fun hy => ?_) (fun hy => ?_)) <;> (try simp only [Bool.not_eq_true', Bool.not_eq_false', Bool.and_eq_true, Bool.or_eq_false_iff, decide_eq_true_eq, decide_eq_false_iff_not] at hy) <;> simp (disch := first | rfl | omega | exact lt_new _ | assumption | decide | (simp [tk_here, tk_app, tk_0, tk_S, gr_here, gr_app, gr_0, gr_S] <;> omega) | fail) only [r8_0, r8_1, r8_2, r8_3, r8_4, r8_5, c8, rs8, gc8, loadV_ptr, storeV_ptr, List.append_assoc, List.length_append, List.length_cons, List.length_nil, List.set_cons_zero, List.set_cons_succ, tk_here, tk_app, gr_here, gr_app, st_here, st_app, known_call, h14, hg, e1, e2, s12, go_sem, ↓reduceIte, Nat.reduceLT, Nat.reduceEqDiff, Nat.reduceAdd, Nat.reduceMul, Nat.reduceSub, Int.reduceAdd, Int.reduceSub, Nat.reduceLeDiff, Int.reduceLT, Int.reduceLE, Int.reduceEq, Int.reduceNeg, Int.reduceToNat, hy])
    all_goals (try ((first | refine finQ_same ?_ | refine finQ_app ?_ | (rw [List.append_assoc]; refine finQ_app ?_)) <;> simp (disch := first | rfl | omega | exact lt_new _ | assumption | decide | (simp [tk_here, tk_app, tk_0, tk_S, gr_here, gr_app, gr_0, gr_S] <;> omega) | fail) only [go_sem, ↓reduceIte, Nat.reduceLT, Nat.reduceEqDiff, Nat.reduceAdd, Nat.reduceMul, Nat.reduceSub, Int.reduceAdd, Int.reduceSub, Nat.reduceLeDiff, Int.reduceLT, Int.reduceLE, Int.reduceEq, Int.reduceNeg, Int.reduceToNat, List.append_assoc, List.cons_append, List.nil_append, *]))
    all_goals (try first | rfl | (simp [*]; done) | grind)
end Go.Proofs.Ytejkgnmjdaohdaa
