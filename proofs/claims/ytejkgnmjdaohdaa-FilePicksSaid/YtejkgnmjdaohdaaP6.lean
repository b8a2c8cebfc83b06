/-
  Texts of this seat, laid together. No statement of the seat stands here.
-/
import Derived.Test.YtejkgnmjdaohdaaP5
/-
  Which packets are there twice. No statement of the seat stands here.
-/
namespace Go.Proofs.Ytejkgnmjdaohdaa
open Go Go.An
set_option maxRecDepth 4000
set_option linter.unusedSimpArgs false
set_option linter.unusedVariables false

def dbB (w : Int) (p q : Pk) : Bool := decide (q.real = p.real) && decide (p.time - q.time ≤ w) && decide (-(p.time - q.time) ≤ w) && decide (p.data = q.data)
def dbAt (ps : List Pk) (window w : Int) (k : Nat) : Bool := ((ps.drop (k - window.toNat)).take (k - (k - window.toNat))).any (dbB w (pkE.at ps k))
def dbs (ps : List Pk) (window w : Int) : Nat → List Int
  | 0 => []
  | k + 1 => dbs ps window w k ++ if dbAt ps window w k = true then [(k : Int)] else []
theorem dbs_len (ps : List Pk) (window w : Int) : ∀ k, (dbs ps window w k).length ≤ k
  | 0 => Nat.le_refl _
  | k + 1 => by
    have := dbs_len ps window w k
    rw [dbs, List.length_append]
    split <;> simp <;> omega
def dblF (c : Cp) (window w : Int) : List Int × Int := if valE c ≠ 0 then ([], valE c) else if window < 1 ∨ 100 < window ∨ okT w = false then ([], 1) else (dbs c.packets window w c.packets.length, 0)
/-- The times of packets are small. -/
def PkT (p : Pk) : Prop := 0 ≤ p.time ∧ p.time ≤ 1000000000000000
theorem val_pk {c : Cp} (h : valE c = 0) : (∀ p ∈ c.packets, pfB p c.faces = true) ∧ (c.packets.length ≤ 100 ∧ c.secrets.length ≤ 60 ∧ c.names.length ≤ 60 ∧ c.faces.length ≤ 4) ∧ 1 ≤ c.faces.length := by
  unfold valE at h
  split at h
  · cases h
  · rename_i h1
    split at h
    · cases h
    · rename_i h2
      unfold largeB at h1
      unfold wrongB at h2
      simp only [Bool.or_eq_true, decide_eq_true_eq, not_or, List.any_eq_true, not_exists, not_and, Bool.not_eq_true', Bool.not_eq_false] at h1 h2
      refine ⟨fun p hp => h2.2 p hp, by omega, ?_⟩
      have := h2.1.1.1.1.1
      omega
theorem pf_pk {p : Pk} {fs : List Fc} (h : pfB p fs = true) : PkT p ∧ 0 ≤ p.face ∧ p.face < fs.length ∧ p.data.length ≤ 400 ∧ (p.data.length : Int) ≤ p.real ∧ p.real ≤ 1000000 := by
  unfold pfB pkB at h
  simp only [Bool.and_eq_true, decide_eq_true_eq, Bool.or_eq_true] at h
  exact ⟨⟨h.2.1.1.1.1.1.1, h.2.1.1.1.1.1.2⟩, h.1.1, h.1.2, by have := h.2.1.1.1.1.2; omega, h.2.1.2, h.2.2⟩
theorem fn70 {p q : Pk} (hp : PkT p) (hq : PkT q) (hpd : p.data.length ≤ 2 ^ 62) {id : Nat} {w : Int} {H : Hp} (hr : getRow H id 0 = some (pkE.f p, true)) : callL Try.prog pr 70 [.agg (pkE.f q), .ptr id 0 0, .ipt [.int .i64 w] 0] H = some (.bool (dbB w p q), H) := by
  obtain ⟨a1, a2⟩ := hp
  obtain ⟨b1, b2⟩ := hq
  have h71 := fun H => fn71 (b := p.dataN) (b' := q.dataN) (l := p.data) (l' := q.data) hpd H
  have hneg : ∀ x : Int, unV .neg (.int .i64 x) = some (.int .i64 (IntKind.i64.wrap (0 - x))) := fun x => rfl
  refine run70 (Nat.le_of_ble_eq_true rfl) ?_
  unfold dbB
  simp (disch := first | rfl | omega | exact lt_new _ | assumption | decide | (simp [tk_here, tk_app, tk_0, tk_S, gr_here, gr_app, gr_0, gr_S] <;> omega) | fail) only [r70_0, r70_1, r70_2, c70, rs70, gc70, loadV_ptr, storeV_ptr, List.append_assoc, List.length_append, List.length_cons, List.length_nil, List.set_cons_zero, List.set_cons_succ, tk_here, tk_app, gr_here, gr_app, st_here, st_app, hr, h71, hneg, Int.zero_sub, go_sem, ↓reduceIte, Nat.reduceLT, Nat.reduceEqDiff, Nat.reduceAdd, Nat.reduceMul, Nat.reduceSub, Int.reduceAdd, Int.reduceSub, Nat.reduceLeDiff, Int.reduceLT, Int.reduceLE, Int.reduceEq, Int.reduceNeg, Int.reduceToNat]
  repeat' ((first | refine guardB_dec (fun hy => ?_) (fun hy => ?_) | refine guardB_bool (fun hy => ?_) (fun hy => ?_) | refine guardQ_ite (fun hy => ?_) (fun hy => ?_) | refine brQ_dec (fun hy => ?_) (fun hy => ?_) | refine brQ_bool (fun hy => ?_) (fun hy => ?_)) <;> (try simp only [Bool.not_eq_true', Bool.not_eq_false', Bool.and_eq_true, Bool.or_eq_false_iff, decide_eq_true_eq, decide_eq_false_iff_not] at hy) <;> simp (disch := first | rfl | omega | exact lt_new _ | assumption | decide | (simp [tk_here, tk_app, tk_0, tk_S, gr_here, gr_app, gr_0, gr_S] <;> omega) | fail) only [r70_0, r70_1, r70_2, c70, rs70, gc70, loadV_ptr, storeV_ptr, List.append_assoc, List.length_append, List.length_cons, List.length_nil, List.set_cons_zero, List.set_cons_succ, tk_here, tk_app, gr_here, gr_app, st_here, st_app, hr, h71, hneg, Int.zero_sub, go_sem, ↓reduceIte, Nat.reduceLT, Nat.reduceEqDiff, Nat.reduceAdd, Nat.reduceMul, Nat.reduceSub, Int.reduceAdd, Int.reduceSub, Nat.reduceLeDiff, Int.reduceLT, Int.reduceLE, Int.reduceEq, Int.reduceNeg, Int.reduceToNat, hy])
  all_goals (try ((first | refine finQ_same ?_ | refine finQ_app ?_ | (rw [List.append_assoc]; refine finQ_app ?_)) <;> simp (disch := first | rfl | omega | exact lt_new _ | assumption | decide | (simp [tk_here, tk_app, tk_0, tk_S, gr_here, gr_app, gr_0, gr_S] <;> omega) | fail) only [go_sem, ↓reduceIte, Nat.reduceLT, Nat.reduceEqDiff, Nat.reduceAdd, Nat.reduceMul, Nat.reduceSub, Int.reduceAdd, Int.reduceSub, Nat.reduceLeDiff, Int.reduceLT, Int.reduceLE, Int.reduceEq, Int.reduceNeg, Int.reduceToNat, List.append_assoc, List.cons_append, List.nil_append, *]))
  all_goals (try first | rfl | (simp [*]; done) | grind)
theorem lo_max {k : Nat} {window : Int} (h : 1 ≤ window) : (if (k : Int) - window > 0 then (k : Int) - window else 0) = ((k - window.toNat : Nat) : Int) := by
  split <;> omega
set_option maxHeartbeats 4000000 in
theorem fn22 (c : Cp) (hc : CpOk c) (window w : Int) (hw1 : Inx window) (H : Hp) : callL Try.prog pr 22 [.agg (cpE.f c), .int .i64 window, .int .i64 w] H = some (.tup [slV true inE (dblF c window w).1, .int .i64 (dblF c window w).2], H) := by
  have h54 := ask1 c hc
  have h68 := fn68 w
  refine run22 (Nat.le_of_ble_eq_true rfl) ?_
  unfold dblF
  by_cases hv : valE c = 0
  case neg =>
    rw [if_pos hv]
    simp (disch := first | rfl | omega | exact lt_new _ | assumption | decide | (simp [tk_here, tk_app, tk_0, tk_S, gr_here, gr_app, gr_0, gr_S] <;> omega) | fail) only [r22_0, r22_1, r22_2, r22_3, r22_4, r22_5, r22_6, r22_7, r22_8, r22_9, r22_10, r22_11, r22_12, r22_14, c22, rs22, gc22, h54, hv, slV_nil, go_sem, ↓reduceIte, Nat.reduceLT, Nat.reduceEqDiff, Nat.reduceAdd, Nat.reduceMul, Nat.reduceSub, Int.reduceAdd, Int.reduceSub, Nat.reduceLeDiff, Int.reduceLT, Int.reduceLE, Int.reduceEq, Int.reduceNeg, Int.reduceToNat]
    repeat' ((first | refine guardB_dec (fun hy => ?_) (fun hy => ?_) | refine guardB_bool (fun hy => ?_) (fun hy => ?_) | refine guardQ_ite (fun hy => ?_) (fun hy => ?_) | refine brQ_dec (fun hy => ?_) (fun hy => ?_) | refine brQ_bool (fun hy => ?_) (fun hy => ?_)) <;> (try simp only [Bool.not_eq_true', Bool.not_eq_false', Bool.and_eq_true, Bool.or_eq_false_iff, decide_eq_true_eq, decide_eq_false_iff_not] at hy) <;> simp (disch := first | rfl | omega | exact lt_new _ | assumption | decide | (simp [tk_here, tk_app, tk_0, tk_S, gr_here, gr_app, gr_0, gr_S] <;> omega) | fail) only [r22_0, r22_1, r22_2, r22_3, r22_4, r22_5, r22_6, r22_7, r22_8, r22_9, r22_10, r22_11, r22_12, r22_14, c22, rs22, gc22, h54, hv, slV_nil, go_sem, ↓reduceIte, Nat.reduceLT, Nat.reduceEqDiff, Nat.reduceAdd, Nat.reduceMul, Nat.reduceSub, Int.reduceAdd, Int.reduceSub, Nat.reduceLeDiff, Int.reduceLT, Int.reduceLE, Int.reduceEq, Int.reduceNeg, Int.reduceToNat, hy])
    all_goals (try ((first | refine finQ_same ?_ | refine finQ_app ?_ | (rw [List.append_assoc]; refine finQ_app ?_)) <;> simp (disch := first | rfl | omega | exact lt_new _ | assumption | decide | (simp [tk_here, tk_app, tk_0, tk_S, gr_here, gr_app, gr_0, gr_S] <;> omega) | fail) only [go_sem, ↓reduceIte, Nat.reduceLT, Nat.reduceEqDiff, Nat.reduceAdd, Nat.reduceMul, Nat.reduceSub, Int.reduceAdd, Int.reduceSub, Nat.reduceLeDiff, Int.reduceLT, Int.reduceLE, Int.reduceEq, Int.reduceNeg, Int.reduceToNat, List.append_assoc, List.cons_append, List.nil_append, *]))
    all_goals (try first | rfl | (simp [*]; done) | grind)
  rw [if_neg (fun h => h hv)]
  obtain ⟨hpf, ⟨hl, _⟩, _⟩ := val_pk hv
  by_cases ha : window < 1 ∨ 100 < window ∨ okT w = false
  case pos =>
    rw [if_pos ha]
    have ha2 : ¬ window < 1 → ¬ 100 < window → okT w = false := fun a b => (ha.resolve_left a).resolve_left b
    simp (disch := first | rfl | omega | exact lt_new _ | assumption | decide | (simp [tk_here, tk_app, tk_0, tk_S, gr_here, gr_app, gr_0, gr_S] <;> omega) | fail) only [r22_0, r22_1, r22_2, r22_3, r22_4, r22_5, r22_6, r22_7, r22_8, r22_9, r22_10, r22_11, r22_12, r22_14, c22, rs22, gc22, h54, hv, h68, ha2, slV_nil, go_sem, ↓reduceIte, Nat.reduceLT, Nat.reduceEqDiff, Nat.reduceAdd, Nat.reduceMul, Nat.reduceSub, Int.reduceAdd, Int.reduceSub, Nat.reduceLeDiff, Int.reduceLT, Int.reduceLE, Int.reduceEq, Int.reduceNeg, Int.reduceToNat]
    repeat' ((first | refine guardB_dec (fun hy => ?_) (fun hy => ?_) | refine guardB_bool (fun hy => ?_) (fun hy => ?_) | refine guardQ_ite (fun hy => ?_) (fun hy => ?_) | refine brQ_dec (fun hy => ?_) (fun hy => ?_) | refine brQ_bool (fun hy => ?_) (fun hy => ?_)) <;> (try simp only [Bool.not_eq_true', Bool.not_eq_false', Bool.and_eq_true, Bool.or_eq_false_iff, decide_eq_true_eq, decide_eq_false_iff_not] at hy) <;> simp (disch := first | rfl | omega | exact lt_new _ | assumption | decide | (simp [tk_here, tk_app, tk_0, tk_S, gr_here, gr_app, gr_0, gr_S] <;> omega) | fail) only [r22_0, r22_1, r22_2, r22_3, r22_4, r22_5, r22_6, r22_7, r22_8, r22_9, r22_10, r22_11, r22_12, r22_14, c22, rs22, gc22, h54, hv, h68, ha2, slV_nil, go_sem, ↓reduceIte, Nat.reduceLT, Nat.reduceEqDiff, Nat.reduceAdd, Nat.reduceMul, Nat.reduceSub, Int.reduceAdd, Int.reduceSub, Nat.reduceLeDiff, Int.reduceLT, Int.reduceLE, Int.reduceEq, Int.reduceNeg, Int.reduceToNat, hy])
    all_goals (try ((first | refine finQ_same ?_ | refine finQ_app ?_ | (rw [List.append_assoc]; refine finQ_app ?_)) <;> simp (disch := first | rfl | omega | exact lt_new _ | assumption | decide | (simp [tk_here, tk_app, tk_0, tk_S, gr_here, gr_app, gr_0, gr_S] <;> omega) | fail) only [go_sem, ↓reduceIte, Nat.reduceLT, Nat.reduceEqDiff, Nat.reduceAdd, Nat.reduceMul, Nat.reduceSub, Int.reduceAdd, Int.reduceSub, Nat.reduceLeDiff, Int.reduceLT, Int.reduceLE, Int.reduceEq, Int.reduceNeg, Int.reduceToNat, List.append_assoc, List.cons_append, List.nil_append, *]))
    all_goals (try first | rfl | (simp [*]; done) | grind)
  rw [if_neg ha]
  simp only [not_or, Bool.not_eq_false] at ha
  obtain ⟨a1, a2, a3⟩ := ha
  simp (disch := first | rfl | omega | exact lt_new _ | assumption | decide | (simp [tk_here, tk_app, tk_0, tk_S, gr_here, gr_app, gr_0, gr_S] <;> omega) | fail) only [r22_0, r22_1, r22_2, r22_3, r22_4, r22_5, r22_6, r22_7, r22_8, r22_9, r22_10, r22_11, r22_12, r22_14, c22, rs22, gc22, h54, hv, h68, a1, a2, a3, go_sem, ↓reduceIte, Nat.reduceLT, Nat.reduceEqDiff, Nat.reduceAdd, Nat.reduceMul, Nat.reduceSub, Int.reduceAdd, Int.reduceSub, Nat.reduceLeDiff, Int.reduceLT, Int.reduceLE, Int.reduceEq, Int.reduceNeg, Int.reduceToNat]
  repeat' ((first | refine guardB_dec (fun hy => ?_) (fun hy => ?_) | refine guardB_bool (fun hy => ?_) (fun hy => ?_) | refine guardQ_ite (fun hy => ?_) (fun hy => ?_) | refine brQ_dec (fun hy => ?_) (fun hy => ?_) | refine brQ_bool (fun hy => ?_) (fun hy => ?_)) <;> (try simp only [Bool.not_eq_true', Bool.not_eq_false', Bool.and_eq_true, Bool.or_eq_false_iff, decide_eq_true_eq, decide_eq_false_iff_not] at hy) <;> simp (disch := first | rfl | omega | exact lt_new _ | assumption | decide | (simp [tk_here, tk_app, tk_0, tk_S, gr_here, gr_app, gr_0, gr_S] <;> omega) | fail) only [r22_0, r22_1, r22_2, r22_3, r22_4, r22_5, r22_6, r22_7, r22_8, r22_9, r22_10, r22_11, r22_12, r22_14, c22, rs22, gc22, h54, hv, h68, a1, a2, a3, go_sem, ↓reduceIte, Nat.reduceLT, Nat.reduceEqDiff, Nat.reduceAdd, Nat.reduceMul, Nat.reduceSub, Int.reduceAdd, Int.reduceSub, Nat.reduceLeDiff, Int.reduceLT, Int.reduceLE, Int.reduceEq, Int.reduceNeg, Int.reduceToNat, hy])
  refine Wp_loop (fun m T D H' => ∃ k G, m = c.packets.length - k ∧ k ≤ c.packets.length ∧ D = [] ∧ H' = H ++ .tok (dbs c.packets window w k).length :: G ∧ get T 1 = .int .i64 window ∧ get T 3 = .ipt (cpE.f c) 0 ∧ get T 5 = .ipt [.int .i64 w] 0 ∧ get T 9 = osV H.length inE (dbs c.packets window w k) ∧ get T 30 = slV c.packetsN pkE c.packets ∧ get T 31 = .int .i64 c.packets.length ∧ get T 32 = .int .i64 k) ?_ c.packets.length _ _ _ ?_
  case refine_2 => exact ⟨0, [], by simp (disch := first | rfl | omega | exact lt_new _ | assumption | decide | (simp [tk_here, tk_app, tk_0, tk_S, gr_here, gr_app, gr_0, gr_S] <;> omega) | fail) only [go_sem, ↓reduceIte, Nat.reduceLT, Nat.reduceEqDiff, Nat.reduceAdd, Nat.reduceMul, Nat.reduceSub, Int.reduceAdd, Int.reduceSub, Nat.reduceLeDiff, Int.reduceLT, Int.reduceLE, Int.reduceEq, Int.reduceNeg, Int.reduceToNat]; simp [dbs, osV_nil]⟩
  rintro m T D H' ⟨k, G, rfl, hk, rfl, rfl, t1, t3, t5, t9, t30, t31, t32⟩
  have hdl := dbs_len c.packets window w k
  by_cases hlt : k < c.packets.length
  · have hlt' : (k : Int) < c.packets.length := by omega
    have hmx := lo_max (k := k) (window := window) (by omega)
    have hp := (pf_pk (hpf _ (pkE.at_mem hlt)))
    have h69 := fun (lo hi : Nat) (b : Bool) (id : Nat) (H : Hp) (hr : getRow H id 0 = some (pkE.f (pkE.at c.packets k), true)) => fn69L (b := b) (E := pkE) (l := (c.packets.drop lo).take hi) (H := H) rfl (by simp; omega) (dbB w (pkE.at c.packets k)) 70 [] [.ptr id 0 0, .ipt [.int .i64 w] 0] kp70 (fun x hx => fn70 hp.1 (pf_pk (hpf x (List.mem_of_mem_drop (List.mem_of_mem_take hx)))).1 (by omega) hr)
    have hdn : dbs c.packets window w (k + 1) = dbs c.packets window w k ++ if dbAt c.packets window w k = true then [(k : Int)] else [] := rfl
    have hda : ((c.packets.drop (k - window.toNat)).take (k - (k - window.toNat))).any (dbB w (pkE.at c.packets k)) = dbAt c.packets window w k := rfl
    by_cases hq : dbAt c.packets window w k = true
    · rw [if_pos hq] at hdn
      simp (disch := first | rfl | omega | exact lt_new _ | assumption | decide | (simp [tk_here, tk_app, tk_0, tk_S, gr_here, gr_app, gr_0, gr_S] <;> omega) | fail) only [r22_0, r22_1, r22_2, r22_3, r22_4, r22_5, r22_6, r22_7, r22_8, r22_9, r22_10, r22_11, r22_12, l22_13, r22_14, c22, rs22, gc22, loadV_ptr, storeV_ptr, List.append_assoc, List.length_append, List.length_cons, List.length_nil, List.set_cons_zero, List.set_cons_succ, tk_here, tk_app, gr_here, gr_app, st_here, st_app, t1, t3, t5, t9, t30, t31, t32, hlt', hmx, h69, hda, hq, go_sem, ↓reduceIte, Nat.reduceLT, Nat.reduceEqDiff, Nat.reduceAdd, Nat.reduceMul, Nat.reduceSub, Int.reduceAdd, Int.reduceSub, Nat.reduceLeDiff, Int.reduceLT, Int.reduceLE, Int.reduceEq, Int.reduceNeg, Int.reduceToNat]
      repeat' ((first | refine guardB_dec (fun hy => ?_) (fun hy => ?_) | refine guardB_bool (fun hy => ?_) (fun hy => ?_) | refine guardQ_ite (fun hy => ?_) (fun hy => ?_) | refine brQ_dec (fun hy => ?_) (fun hy => ?_) | refine brQ_bool (fun hy => ?_) (fun hy => ?_)) <;> (try simp only [Bool.not_eq_true', Bool.not_eq_false', Bool.and_eq_true, Bool.or_eq_false_iff, decide_eq_true_eq, decide_eq_false_iff_not] at hy) <;> simp (disch := first | rfl | omega | exact lt_new _ | assumption | decide | (simp [tk_here, tk_app, tk_0, tk_S, gr_here, gr_app, gr_0, gr_S] <;> omega) | fail) only [r22_0, r22_1, r22_2, r22_3, r22_4, r22_5, r22_6, r22_7, r22_8, r22_9, r22_10, r22_11, r22_12, l22_13, r22_14, c22, rs22, gc22, loadV_ptr, storeV_ptr, List.append_assoc, List.length_append, List.length_cons, List.length_nil, List.set_cons_zero, List.set_cons_succ, tk_here, tk_app, gr_here, gr_app, st_here, st_app, t1, t3, t5, t9, t30, t31, t32, hlt', hmx, h69, hda, hq, go_sem, ↓reduceIte, Nat.reduceLT, Nat.reduceEqDiff, Nat.reduceAdd, Nat.reduceMul, Nat.reduceSub, Int.reduceAdd, Int.reduceSub, Nat.reduceLeDiff, Int.reduceLT, Int.reduceLE, Int.reduceEq, Int.reduceNeg, Int.reduceToNat, hy])
      exact ⟨_, by omega, k + 1, _, rfl, hlt, by rw [hdn, List.length_append]; rfl, by rw [hdn], rfl⟩
    · rw [if_neg hq] at hdn
      rw [Bool.not_eq_true] at hq
      simp (disch := first | rfl | omega | exact lt_new _ | assumption | decide | (simp [tk_here, tk_app, tk_0, tk_S, gr_here, gr_app, gr_0, gr_S] <;> omega) | fail) only [r22_0, r22_1, r22_2, r22_3, r22_4, r22_5, r22_6, r22_7, r22_8, r22_9, r22_10, r22_11, r22_12, l22_13, r22_14, c22, rs22, gc22, loadV_ptr, storeV_ptr, List.append_assoc, List.length_append, List.length_cons, List.length_nil, List.set_cons_zero, List.set_cons_succ, tk_here, tk_app, gr_here, gr_app, st_here, st_app, t1, t3, t5, t9, t30, t31, t32, hlt', hmx, h69, hda, hq, go_sem, ↓reduceIte, Nat.reduceLT, Nat.reduceEqDiff, Nat.reduceAdd, Nat.reduceMul, Nat.reduceSub, Int.reduceAdd, Int.reduceSub, Nat.reduceLeDiff, Int.reduceLT, Int.reduceLE, Int.reduceEq, Int.reduceNeg, Int.reduceToNat]
      repeat' ((first | refine guardB_dec (fun hy => ?_) (fun hy => ?_) | refine guardB_bool (fun hy => ?_) (fun hy => ?_) | refine guardQ_ite (fun hy => ?_) (fun hy => ?_) | refine brQ_dec (fun hy => ?_) (fun hy => ?_) | refine brQ_bool (fun hy => ?_) (fun hy => ?_)) <;> (try simp only [Bool.not_eq_true', Bool.not_eq_false', Bool.and_eq_true, Bool.or_eq_false_iff, decide_eq_true_eq, decide_eq_false_iff_not] at hy) <;> simp (disch := first | rfl | omega | exact lt_new _ | assumption | decide | (simp [tk_here, tk_app, tk_0, tk_S, gr_here, gr_app, gr_0, gr_S] <;> omega) | fail) only [r22_0, r22_1, r22_2, r22_3, r22_4, r22_5, r22_6, r22_7, r22_8, r22_9, r22_10, r22_11, r22_12, l22_13, r22_14, c22, rs22, gc22, loadV_ptr, storeV_ptr, List.append_assoc, List.length_append, List.length_cons, List.length_nil, List.set_cons_zero, List.set_cons_succ, tk_here, tk_app, gr_here, gr_app, st_here, st_app, t1, t3, t5, t9, t30, t31, t32, hlt', hmx, h69, hda, hq, go_sem, ↓reduceIte, Nat.reduceLT, Nat.reduceEqDiff, Nat.reduceAdd, Nat.reduceMul, Nat.reduceSub, Int.reduceAdd, Int.reduceSub, Nat.reduceLeDiff, Int.reduceLT, Int.reduceLE, Int.reduceEq, Int.reduceNeg, Int.reduceToNat, hy])
      exact ⟨_, by omega, k + 1, _, rfl, hlt, by rw [hdn, List.append_nil], by rw [hdn, List.append_nil], rfl⟩
  · obtain rfl : k = c.packets.length := by omega
    simp (disch := first | rfl | omega | exact lt_new _ | assumption | decide | (simp [tk_here, tk_app, tk_0, tk_S, gr_here, gr_app, gr_0, gr_S] <;> omega) | fail) only [r22_0, r22_1, r22_2, r22_3, r22_4, r22_5, r22_6, r22_7, r22_8, r22_9, r22_10, r22_11, r22_12, l22_13, r22_14, c22, rs22, gc22, loadV_ptr, storeV_ptr, List.append_assoc, List.length_append, List.length_cons, List.length_nil, List.set_cons_zero, List.set_cons_succ, tk_here, tk_app, gr_here, gr_app, st_here, st_app, t1, t3, t5, t9, t30, t31, t32, Int.lt_irrefl, go_sem, ↓reduceIte, Nat.reduceLT, Nat.reduceEqDiff, Nat.reduceAdd, Nat.reduceMul, Nat.reduceSub, Int.reduceAdd, Int.reduceSub, Nat.reduceLeDiff, Int.reduceLT, Int.reduceLE, Int.reduceEq, Int.reduceNeg, Int.reduceToNat]
    repeat' ((first | refine guardB_dec (fun hy => ?_) (fun hy => ?_) | refine guardB_bool (fun hy => ?_) (fun hy => ?_) | refine guardQ_ite (fun hy => ?_) (fun hy => ?_) | refine brQ_dec (fun hy => ?_) (fun hy => ?_) | refine brQ_bool (fun hy => ?_) (fun hy => ?_)) <;> (try simp only [Bool.not_eq_true', Bool.not_eq_false', Bool.and_eq_true, Bool.or_eq_false_iff, decide_eq_true_eq, decide_eq_false_iff_not] at hy) <;> simp (disch := first | rfl | omega | exact lt_new _ | assumption | decide | (simp [tk_here, tk_app, tk_0, tk_S, gr_here, gr_app, gr_0, gr_S] <;> omega) | fail) only [r22_0, r22_1, r22_2, r22_3, r22_4, r22_5, r22_6, r22_7, r22_8, r22_9, r22_10, r22_11, r22_12, l22_13, r22_14, c22, rs22, gc22, loadV_ptr, storeV_ptr, List.append_assoc, List.length_append, List.length_cons, List.length_nil, List.set_cons_zero, List.set_cons_succ, tk_here, tk_app, gr_here, gr_app, st_here, st_app, t1, t3, t5, t9, t30, t31, t32, Int.lt_irrefl, go_sem, ↓reduceIte, Nat.reduceLT, Nat.reduceEqDiff, Nat.reduceAdd, Nat.reduceMul, Nat.reduceSub, Int.reduceAdd, Int.reduceSub, Nat.reduceLeDiff, Int.reduceLT, Int.reduceLE, Int.reduceEq, Int.reduceNeg, Int.reduceToNat, hy])
    refine finQ_app ?_
    simp (disch := first | rfl | omega | exact lt_new _ | assumption | decide | (simp [tk_here, tk_app, tk_0, tk_S, gr_here, gr_app, gr_0, gr_S] <;> omega) | fail) only [go_sem, ↓reduceIte, Nat.reduceLT, Nat.reduceEqDiff, Nat.reduceAdd, Nat.reduceMul, Nat.reduceSub, Int.reduceAdd, Int.reduceSub, Nat.reduceLeDiff, Int.reduceLT, Int.reduceLE, Int.reduceEq, Int.reduceNeg, Int.reduceToNat]
set_option maxHeartbeats 4000000 in
theorem fn23 (c : Cp) (hc : CpOk c) (window w : Int) (hw1 : Inx window) (H : Hp) : callL Try.prog pr 23 [.agg (cpE.f c), .int .i64 window, .int .i64 w] H = some (.tup [slV true inE (dblF c window w).1, .int .i64 (dblF c window w).2], H) := by
  have h63 := fn63 c hc
  have h72 := fn72 w
  refine run23 (Nat.le_of_ble_eq_true rfl) ?_
  unfold dblF
  by_cases hv : valE c = 0
  case neg =>
    rw [if_pos hv]
    simp (disch := first | rfl | omega | exact lt_new _ | assumption | decide | (simp [tk_here, tk_app, tk_0, tk_S, gr_here, gr_app, gr_0, gr_S] <;> omega) | fail) only [r23_0, r23_1, r23_2, r23_3, r23_4, r23_5, r23_6, r23_7, r23_8, r23_9, r23_10, r23_11, r23_12, r23_13, r23_14, r23_15, r23_17, r23_18, r23_19, r23_21, c23, rs23, gc23, h63, hv, slV_nil, go_sem, ↓reduceIte, Nat.reduceLT, Nat.reduceEqDiff, Nat.reduceAdd, Nat.reduceMul, Nat.reduceSub, Int.reduceAdd, Int.reduceSub, Nat.reduceLeDiff, Int.reduceLT, Int.reduceLE, Int.reduceEq, Int.reduceNeg, Int.reduceToNat]
    repeat' ((first | refine guardB_dec (fun hy => ?_) (fun hy => ?_) | refine guardB_bool (fun hy => ?_) (fun hy => ?_) | refine guardQ_ite (fun hy => ?_) (fun hy => ?_) | refine brQ_dec (fun hy => ?_) (fun hy => ?_) | refine brQ_bool (fun hy => ?_) (fun hy => ?_)) <;> (try simp only [Bool.not_eq_true', Bool.not_eq_false', Bool.and_eq_true, Bool.or_eq_false_iff, decide_eq_true_eq, decide_eq_false_iff_not] at hy) <;> simp (disch := first | rfl | omega | exact lt_new _ | assumption | decide | (simp [tk_here, tk_app, tk_0, tk_S, gr_here, gr_app, gr_0, gr_S] <;> omega) | fail) only [r23_0, r23_1, r23_2, r23_3, r23_4, r23_5, r23_6, r23_7, r23_8, r23_9, r23_10, r23_11, r23_12, r23_13, r23_14, r23_15, r23_17, r23_18, r23_19, r23_21, c23, rs23, gc23, h63, hv, slV_nil, go_sem, ↓reduceIte, Nat.reduceLT, Nat.reduceEqDiff, Nat.reduceAdd, Nat.reduceMul, Nat.reduceSub, Int.reduceAdd, Int.reduceSub, Nat.reduceLeDiff, Int.reduceLT, Int.reduceLE, Int.reduceEq, Int.reduceNeg, Int.reduceToNat, hy])
    all_goals (try ((first | refine finQ_same ?_ | refine finQ_app ?_ | (rw [List.append_assoc]; refine finQ_app ?_)) <;> simp (disch := first | rfl | omega | exact lt_new _ | assumption | decide | (simp [tk_here, tk_app, tk_0, tk_S, gr_here, gr_app, gr_0, gr_S] <;> omega) | fail) only [go_sem, ↓reduceIte, Nat.reduceLT, Nat.reduceEqDiff, Nat.reduceAdd, Nat.reduceMul, Nat.reduceSub, Int.reduceAdd, Int.reduceSub, Nat.reduceLeDiff, Int.reduceLT, Int.reduceLE, Int.reduceEq, Int.reduceNeg, Int.reduceToNat, List.append_assoc, List.cons_append, List.nil_append, *]))
    all_goals (try first | rfl | (simp [*]; done) | grind)
  rw [if_neg (fun h => h hv)]
  obtain ⟨hpf, ⟨hl, _⟩, _⟩ := val_pk hv
  by_cases ha : window < 1 ∨ 100 < window ∨ okT w = false
  case pos =>
    rw [if_pos ha]
    have ha2 : ¬ window < 1 → ¬ 100 < window → okT w = false := fun a b => (ha.resolve_left a).resolve_left b
    simp (disch := first | rfl | omega | exact lt_new _ | assumption | decide | (simp [tk_here, tk_app, tk_0, tk_S, gr_here, gr_app, gr_0, gr_S] <;> omega) | fail) only [r23_0, r23_1, r23_2, r23_3, r23_4, r23_5, r23_6, r23_7, r23_8, r23_9, r23_10, r23_11, r23_12, r23_13, r23_14, r23_15, r23_17, r23_18, r23_19, r23_21, c23, rs23, gc23, h63, hv, h72, ha2, slV_nil, go_sem, ↓reduceIte, Nat.reduceLT, Nat.reduceEqDiff, Nat.reduceAdd, Nat.reduceMul, Nat.reduceSub, Int.reduceAdd, Int.reduceSub, Nat.reduceLeDiff, Int.reduceLT, Int.reduceLE, Int.reduceEq, Int.reduceNeg, Int.reduceToNat]
    repeat' ((first | refine guardB_dec (fun hy => ?_) (fun hy => ?_) | refine guardB_bool (fun hy => ?_) (fun hy => ?_) | refine guardQ_ite (fun hy => ?_) (fun hy => ?_) | refine brQ_dec (fun hy => ?_) (fun hy => ?_) | refine brQ_bool (fun hy => ?_) (fun hy => ?_)) <;> (try simp only [Bool.not_eq_true', Bool.not_eq_false', Bool.and_eq_true, Bool.or_eq_false_iff, decide_eq_true_eq, decide_eq_false_iff_not] at hy) <;> simp (disch := first | rfl | omega | exact lt_new _ | assumption | decide | (simp [tk_here, tk_app, tk_0, tk_S, gr_here, gr_app, gr_0, gr_S] <;> omega) | fail) only [r23_0, r23_1, r23_2, r23_3, r23_4, r23_5, r23_6, r23_7, r23_8, r23_9, r23_10, r23_11, r23_12, r23_13, r23_14, r23_15, r23_17, r23_18, r23_19, r23_21, c23, rs23, gc23, h63, hv, h72, ha2, slV_nil, go_sem, ↓reduceIte, Nat.reduceLT, Nat.reduceEqDiff, Nat.reduceAdd, Nat.reduceMul, Nat.reduceSub, Int.reduceAdd, Int.reduceSub, Nat.reduceLeDiff, Int.reduceLT, Int.reduceLE, Int.reduceEq, Int.reduceNeg, Int.reduceToNat, hy])
    all_goals (try ((first | refine finQ_same ?_ | refine finQ_app ?_ | (rw [List.append_assoc]; refine finQ_app ?_)) <;> simp (disch := first | rfl | omega | exact lt_new _ | assumption | decide | (simp [tk_here, tk_app, tk_0, tk_S, gr_here, gr_app, gr_0, gr_S] <;> omega) | fail) only [go_sem, ↓reduceIte, Nat.reduceLT, Nat.reduceEqDiff, Nat.reduceAdd, Nat.reduceMul, Nat.reduceSub, Int.reduceAdd, Int.reduceSub, Nat.reduceLeDiff, Int.reduceLT, Int.reduceLE, Int.reduceEq, Int.reduceNeg, Int.reduceToNat, List.append_assoc, List.cons_append, List.nil_append, *]))
    all_goals (try first | rfl | (simp [*]; done) | grind)
  rw [if_neg ha]
  simp only [not_or, Bool.not_eq_false] at ha
  obtain ⟨a1, a2, a3⟩ := ha
  simp (disch := first | rfl | omega | exact lt_new _ | assumption | decide | (simp [tk_here, tk_app, tk_0, tk_S, gr_here, gr_app, gr_0, gr_S] <;> omega) | fail) only [r23_0, r23_1, r23_2, r23_3, r23_4, r23_5, r23_6, r23_7, r23_8, r23_9, r23_10, r23_11, r23_12, r23_13, r23_14, r23_15, r23_17, r23_18, r23_19, r23_21, c23, rs23, gc23, h63, hv, h72, a1, a2, a3, go_sem, ↓reduceIte, Nat.reduceLT, Nat.reduceEqDiff, Nat.reduceAdd, Nat.reduceMul, Nat.reduceSub, Int.reduceAdd, Int.reduceSub, Nat.reduceLeDiff, Int.reduceLT, Int.reduceLE, Int.reduceEq, Int.reduceNeg, Int.reduceToNat]
  repeat' ((first | refine guardB_dec (fun hy => ?_) (fun hy => ?_) | refine guardB_bool (fun hy => ?_) (fun hy => ?_) | refine guardQ_ite (fun hy => ?_) (fun hy => ?_) | refine brQ_dec (fun hy => ?_) (fun hy => ?_) | refine brQ_bool (fun hy => ?_) (fun hy => ?_)) <;> (try simp only [Bool.not_eq_true', Bool.not_eq_false', Bool.and_eq_true, Bool.or_eq_false_iff, decide_eq_true_eq, decide_eq_false_iff_not] at hy) <;> simp (disch := first | rfl | omega | exact lt_new _ | assumption | decide | (simp [tk_here, tk_app, tk_0, tk_S, gr_here, gr_app, gr_0, gr_S] <;> omega) | fail) only [r23_0, r23_1, r23_2, r23_3, r23_4, r23_5, r23_6, r23_7, r23_8, r23_9, r23_10, r23_11, r23_12, r23_13, r23_14, r23_15, r23_17, r23_18, r23_19, r23_21, c23, rs23, gc23, h63, hv, h72, a1, a2, a3, go_sem, ↓reduceIte, Nat.reduceLT, Nat.reduceEqDiff, Nat.reduceAdd, Nat.reduceMul, Nat.reduceSub, Int.reduceAdd, Int.reduceSub, Nat.reduceLeDiff, Int.reduceLT, Int.reduceLE, Int.reduceEq, Int.reduceNeg, Int.reduceToNat, hy])
  refine Wp_loop (fun m T D H' => ∃ k G, m = c.packets.length - k ∧ k ≤ c.packets.length ∧ D = [] ∧ H' = H ++ .tok (dbs c.packets window w k).length :: G ∧ get T 1 = .int .i64 window ∧ get T 2 = .int .i64 w ∧ get T 3 = .ipt (cpE.f c) 0 ∧ get T 9 = osV H.length inE (dbs c.packets window w k) ∧ get T 10 = .int .i64 k) ?_ c.packets.length _ _ _ ?_
  case refine_2 => exact ⟨0, [], by simp (disch := first | rfl | omega | exact lt_new _ | assumption | decide | (simp [tk_here, tk_app, tk_0, tk_S, gr_here, gr_app, gr_0, gr_S] <;> omega) | fail) only [go_sem, ↓reduceIte, Nat.reduceLT, Nat.reduceEqDiff, Nat.reduceAdd, Nat.reduceMul, Nat.reduceSub, Int.reduceAdd, Int.reduceSub, Nat.reduceLeDiff, Int.reduceLT, Int.reduceLE, Int.reduceEq, Int.reduceNeg, Int.reduceToNat]; simp [dbs, osV_nil]⟩
  rintro m T D H' ⟨k, G, rfl, hk, rfl, rfl, t1, t2, t3, t9, t10⟩
  have hdl := dbs_len c.packets window w k
  by_cases hlt : k < c.packets.length
  · have hlt' : (k : Int) < c.packets.length := by omega
    have hmx := lo_max (k := k) (window := window) (by omega)
    obtain ⟨⟨p1, p2⟩, _⟩ := pf_pk (hpf _ (pkE.at_mem hlt))
    have hdn : dbs c.packets window w (k + 1) = dbs c.packets window w k ++ if dbAt c.packets window w k = true then [(k : Int)] else [] := rfl
    obtain ⟨lo, hlo⟩ : ∃ lo, k - window.toNat = lo := ⟨_, rfl⟩
    rw [hlo] at hmx
    obtain ⟨L, hL⟩ : ∃ L, (c.packets.drop lo).take (k - lo) = L := ⟨_, rfl⟩
    have hLl : L.length = k - lo := by rw [← hL]; simp; omega
    have hda : L.any (dbB w (pkE.at c.packets k)) = dbAt c.packets window w k := by unfold dbAt; rw [hlo, hL]
    simp (disch := first | rfl | omega | exact lt_new _ | assumption | decide | (simp [tk_here, tk_app, tk_0, tk_S, gr_here, gr_app, gr_0, gr_S] <;> omega) | fail) only [l23_20, r23_8, r23_9, r23_10, loadV_ptr, storeV_ptr, List.append_assoc, List.length_append, List.length_cons, List.length_nil, List.set_cons_zero, List.set_cons_succ, tk_here, tk_app, gr_here, gr_app, st_here, st_app, t1, t2, t3, t9, t10, hlt', hmx, go_sem, ↓reduceIte, Nat.reduceLT, Nat.reduceEqDiff, Nat.reduceAdd, Nat.reduceMul, Nat.reduceSub, Int.reduceAdd, Int.reduceSub, Nat.reduceLeDiff, Int.reduceLT, Int.reduceLE, Int.reduceEq, Int.reduceNeg, Int.reduceToNat]
    repeat' ((first | refine guardB_dec (fun hy => ?_) (fun hy => ?_) | refine guardB_bool (fun hy => ?_) (fun hy => ?_) | refine guardQ_ite (fun hy => ?_) (fun hy => ?_) | refine brQ_dec (fun hy => ?_) (fun hy => ?_) | refine brQ_bool (fun hy => ?_) (fun hy => ?_)) <;> (try simp only [Bool.not_eq_true', Bool.not_eq_false', Bool.and_eq_true, Bool.or_eq_false_iff, decide_eq_true_eq, decide_eq_false_iff_not] at hy) <;> simp (disch := first | rfl | omega | exact lt_new _ | assumption | decide | (simp [tk_here, tk_app, tk_0, tk_S, gr_here, gr_app, gr_0, gr_S] <;> omega) | fail) only [l23_20, r23_8, r23_9, r23_10, loadV_ptr, storeV_ptr, List.append_assoc, List.length_append, List.length_cons, List.length_nil, List.set_cons_zero, List.set_cons_succ, tk_here, tk_app, gr_here, gr_app, st_here, st_app, t1, t2, t3, t9, t10, hlt', hmx, go_sem, ↓reduceIte, Nat.reduceLT, Nat.reduceEqDiff, Nat.reduceAdd, Nat.reduceMul, Nat.reduceSub, Int.reduceAdd, Int.reduceSub, Nat.reduceLeDiff, Int.reduceLT, Int.reduceLE, Int.reduceEq, Int.reduceNeg, Int.reduceToNat, hy])
    refine Wp_loop (fun m T D H' => ∃ j G, m = L.length - j ∧ j ≤ L.length ∧ D = [] ∧ H' = H ++ .tok (dbs c.packets window w k).length :: G ∧ get T 1 = .int .i64 window ∧ get T 2 = .int .i64 w ∧ get T 3 = .ipt (cpE.f c) 0 ∧ get T 9 = osV H.length inE (dbs c.packets window w k) ∧ get T 10 = .int .i64 k ∧ get T 12 = .int .i64 ((lo + j : Nat) : Int) ∧ get T 11 = .bool (false || (L.take j).any (dbB w (pkE.at c.packets k)))) ?_ L.length _ _ _ ?_
    case refine_2 =>
      refine ⟨0, G, rfl, by omega, rfl, rfl, ?_, ?_, ?_, ?_, ?_, ?_, ?_⟩
      all_goals simp (disch := first | rfl | omega | exact lt_new _ | assumption | decide | (simp [tk_here, tk_app, tk_0, tk_S, gr_here, gr_app, gr_0, gr_S] <;> omega) | fail) only [go_sem, ↓reduceIte, Nat.reduceLT, Nat.reduceEqDiff, Nat.reduceAdd, Nat.reduceMul, Nat.reduceSub, Int.reduceAdd, Int.reduceSub, Nat.reduceLeDiff, Int.reduceLT, Int.reduceLE, Int.reduceEq, Int.reduceNeg, Int.reduceToNat, t1, t2, t3, t9, t10]
      all_goals first | rfl | (simp; done)
    clear t1 t2 t3 t9 t10
    rintro m T D H' ⟨j, G, rfl, hj, rfl, rfl, t1, t2, t3, t9, t10, t12, t11⟩
    by_cases hjl : j < L.length
    · have hjk : ((lo + j : Nat) : Int) < k := by omega
      have hjn : lo + j < c.packets.length := by omega
      have hw := any_take pkE hjl (dbB w (pkE.at c.packets k)) false
      have hat : pkE.at L j = pkE.at c.packets (lo + j) := by
        rw [← hL]
        simp only [Enc.at, List.getD_eq_getElem?_getD, List.getElem?_take, List.getElem?_drop]
        rw [if_pos (by omega)]
      rw [hat] at hw
      obtain ⟨⟨r1, r2⟩, _⟩ := pf_pk (hpf _ (pkE.at_mem hjn))
      obtain ⟨x, hx⟩ : ∃ x, pkE.at c.packets (lo + j) = x := ⟨_, rfl⟩
      obtain ⟨y, hyy⟩ : ∃ x, pkE.at c.packets k = x := ⟨_, rfl⟩
      rw [hx] at hw r1 r2
      rw [hyy] at hw p1 p2 t11
      have hneg : ∀ x : Int, unV .neg (.int .i64 x) = some (.int .i64 (IntKind.i64.wrap (0 - x))) := fun x => rfl
      have hjl' : ((lo + j : Nat) : Int).toNat = lo + j := rfl
      cases hb : (false || (L.take j).any (dbB w y)) with
      | true =>
        rw [hb] at t11 hw
        simp (disch := first | rfl | omega | exact lt_new _ | assumption | decide | (simp [tk_here, tk_app, tk_0, tk_S, gr_here, gr_app, gr_0, gr_S] <;> omega) | fail) only [l23_16, r23_11, r23_12, r23_13, r23_14, r23_15, loadV_ptr, storeV_ptr, List.append_assoc, List.length_append, List.length_cons, List.length_nil, List.set_cons_zero, List.set_cons_succ, tk_here, tk_app, gr_here, gr_app, st_here, st_app, t1, t2, t3, t9, t10, t11, t12, hjk, hjl', hx, hyy, hneg, go_sem, ↓reduceIte, Nat.reduceLT, Nat.reduceEqDiff, Nat.reduceAdd, Nat.reduceMul, Nat.reduceSub, Int.reduceAdd, Int.reduceSub, Nat.reduceLeDiff, Int.reduceLT, Int.reduceLE, Int.reduceEq, Int.reduceNeg, Int.reduceToNat]
        repeat' ((first | refine guardB_dec (fun hy => ?_) (fun hy => ?_) | refine guardB_bool (fun hy => ?_) (fun hy => ?_) | refine guardQ_ite (fun hy => ?_) (fun hy => ?_) | refine brQ_dec (fun hy => ?_) (fun hy => ?_) | refine brQ_bool (fun hy => ?_) (fun hy => ?_)) <;> (try simp only [Bool.not_eq_true', Bool.not_eq_false', Bool.and_eq_true, Bool.or_eq_false_iff, decide_eq_true_eq, decide_eq_false_iff_not] at hy) <;> simp (disch := first | rfl | omega | exact lt_new _ | assumption | decide | (simp [tk_here, tk_app, tk_0, tk_S, gr_here, gr_app, gr_0, gr_S] <;> omega) | fail) only [l23_16, r23_11, r23_12, r23_13, r23_14, r23_15, loadV_ptr, storeV_ptr, List.append_assoc, List.length_append, List.length_cons, List.length_nil, List.set_cons_zero, List.set_cons_succ, tk_here, tk_app, gr_here, gr_app, st_here, st_app, t1, t2, t3, t9, t10, t11, t12, hjk, hjl', hx, hyy, hneg, go_sem, ↓reduceIte, Nat.reduceLT, Nat.reduceEqDiff, Nat.reduceAdd, Nat.reduceMul, Nat.reduceSub, Int.reduceAdd, Int.reduceSub, Nat.reduceLeDiff, Int.reduceLT, Int.reduceLE, Int.reduceEq, Int.reduceNeg, Int.reduceToNat, hy])
        exact ⟨_, by omega, j + 1, _, rfl, by omega, rfl, by simp; omega, by rw [Bool.false_or, Bool.true_or] at hw; rw [hw]⟩
      | false =>
        rw [hb] at t11 hw
        rw [Bool.false_or] at hw
        simp (disch := first | rfl | omega | exact lt_new _ | assumption | decide | (simp [tk_here, tk_app, tk_0, tk_S, gr_here, gr_app, gr_0, gr_S] <;> omega) | fail) only [l23_16, r23_11, r23_12, r23_13, r23_14, r23_15, loadV_ptr, storeV_ptr, List.append_assoc, List.length_append, List.length_cons, List.length_nil, List.set_cons_zero, List.set_cons_succ, tk_here, tk_app, gr_here, gr_app, st_here, st_app, t1, t2, t3, t9, t10, t11, t12, hjk, hjl', hx, hyy, hneg, Int.zero_sub, go_sem, ↓reduceIte, Nat.reduceLT, Nat.reduceEqDiff, Nat.reduceAdd, Nat.reduceMul, Nat.reduceSub, Int.reduceAdd, Int.reduceSub, Nat.reduceLeDiff, Int.reduceLT, Int.reduceLE, Int.reduceEq, Int.reduceNeg, Int.reduceToNat]
        repeat' ((first | refine guardB_dec (fun hy => ?_) (fun hy => ?_) | refine guardB_bool (fun hy => ?_) (fun hy => ?_) | refine guardQ_ite (fun hy => ?_) (fun hy => ?_) | refine brQ_dec (fun hy => ?_) (fun hy => ?_) | refine brQ_bool (fun hy => ?_) (fun hy => ?_)) <;> (try simp only [Bool.not_eq_true', Bool.not_eq_false', Bool.and_eq_true, Bool.or_eq_false_iff, decide_eq_true_eq, decide_eq_false_iff_not] at hy) <;> simp (disch := first | rfl | omega | exact lt_new _ | assumption | decide | (simp [tk_here, tk_app, tk_0, tk_S, gr_here, gr_app, gr_0, gr_S] <;> omega) | fail) only [l23_16, r23_11, r23_12, r23_13, r23_14, r23_15, loadV_ptr, storeV_ptr, List.append_assoc, List.length_append, List.length_cons, List.length_nil, List.set_cons_zero, List.set_cons_succ, tk_here, tk_app, gr_here, gr_app, st_here, st_app, t1, t2, t3, t9, t10, t11, t12, hjk, hjl', hx, hyy, hneg, Int.zero_sub, go_sem, ↓reduceIte, Nat.reduceLT, Nat.reduceEqDiff, Nat.reduceAdd, Nat.reduceMul, Nat.reduceSub, Int.reduceAdd, Int.reduceSub, Nat.reduceLeDiff, Int.reduceLT, Int.reduceLE, Int.reduceEq, Int.reduceNeg, Int.reduceToNat, hy])
        rw [Bool.false_or] at hw
        all_goals refine ⟨_, by omega, j + 1, _, rfl, by omega, rfl, by simp; omega, ?_⟩
        all_goals (rw [hw]; unfold dbB; simp; grind)
    · obtain rfl : j = L.length := by omega
      rw [List.take_length, hda, Bool.false_or] at t11
      have hle : ¬ ((lo + L.length : Nat) : Int) < k := by omega
      by_cases hq : dbAt c.packets window w k = true
      · rw [if_pos hq] at hdn
        rw [hq] at t11
        simp (disch := first | rfl | omega | exact lt_new _ | assumption | decide | (simp [tk_here, tk_app, tk_0, tk_S, gr_here, gr_app, gr_0, gr_S] <;> omega) | fail) only [l23_16, r23_11, r23_17, r23_18, r23_19, loadV_ptr, storeV_ptr, List.append_assoc, List.length_append, List.length_cons, List.length_nil, List.set_cons_zero, List.set_cons_succ, tk_here, tk_app, gr_here, gr_app, st_here, st_app, t1, t2, t3, t9, t10, t11, t12, hle, go_sem, ↓reduceIte, Nat.reduceLT, Nat.reduceEqDiff, Nat.reduceAdd, Nat.reduceMul, Nat.reduceSub, Int.reduceAdd, Int.reduceSub, Nat.reduceLeDiff, Int.reduceLT, Int.reduceLE, Int.reduceEq, Int.reduceNeg, Int.reduceToNat]
        repeat' ((first | refine guardB_dec (fun hy => ?_) (fun hy => ?_) | refine guardB_bool (fun hy => ?_) (fun hy => ?_) | refine guardQ_ite (fun hy => ?_) (fun hy => ?_) | refine brQ_dec (fun hy => ?_) (fun hy => ?_) | refine brQ_bool (fun hy => ?_) (fun hy => ?_)) <;> (try simp only [Bool.not_eq_true', Bool.not_eq_false', Bool.and_eq_true, Bool.or_eq_false_iff, decide_eq_true_eq, decide_eq_false_iff_not] at hy) <;> simp (disch := first | rfl | omega | exact lt_new _ | assumption | decide | (simp [tk_here, tk_app, tk_0, tk_S, gr_here, gr_app, gr_0, gr_S] <;> omega) | fail) only [l23_16, r23_11, r23_17, r23_18, r23_19, loadV_ptr, storeV_ptr, List.append_assoc, List.length_append, List.length_cons, List.length_nil, List.set_cons_zero, List.set_cons_succ, tk_here, tk_app, gr_here, gr_app, st_here, st_app, t1, t2, t3, t9, t10, t11, t12, hle, go_sem, ↓reduceIte, Nat.reduceLT, Nat.reduceEqDiff, Nat.reduceAdd, Nat.reduceMul, Nat.reduceSub, Int.reduceAdd, Int.reduceSub, Nat.reduceLeDiff, Int.reduceLT, Int.reduceLE, Int.reduceEq, Int.reduceNeg, Int.reduceToNat, hy])
        exact ⟨_, by omega, k + 1, _, rfl, hlt, by rw [hdn, List.length_append]; rfl, by rw [hdn], rfl⟩
      · rw [if_neg hq] at hdn
        rw [Bool.not_eq_true] at hq
        rw [hq] at t11
        simp (disch := first | rfl | omega | exact lt_new _ | assumption | decide | (simp [tk_here, tk_app, tk_0, tk_S, gr_here, gr_app, gr_0, gr_S] <;> omega) | fail) only [l23_16, r23_11, r23_17, r23_19, loadV_ptr, storeV_ptr, List.append_assoc, List.length_append, List.length_cons, List.length_nil, List.set_cons_zero, List.set_cons_succ, tk_here, tk_app, gr_here, gr_app, st_here, st_app, t1, t2, t3, t9, t10, t11, t12, hle, go_sem, ↓reduceIte, Nat.reduceLT, Nat.reduceEqDiff, Nat.reduceAdd, Nat.reduceMul, Nat.reduceSub, Int.reduceAdd, Int.reduceSub, Nat.reduceLeDiff, Int.reduceLT, Int.reduceLE, Int.reduceEq, Int.reduceNeg, Int.reduceToNat]
        repeat' ((first | refine guardB_dec (fun hy => ?_) (fun hy => ?_) | refine guardB_bool (fun hy => ?_) (fun hy => ?_) | refine guardQ_ite (fun hy => ?_) (fun hy => ?_) | refine brQ_dec (fun hy => ?_) (fun hy => ?_) | refine brQ_bool (fun hy => ?_) (fun hy => ?_)) <;> (try simp only [Bool.not_eq_true', Bool.not_eq_false', Bool.and_eq_true, Bool.or_eq_false_iff, decide_eq_true_eq, decide_eq_false_iff_not] at hy) <;> simp (disch := first | rfl | omega | exact lt_new _ | assumption | decide | (simp [tk_here, tk_app, tk_0, tk_S, gr_here, gr_app, gr_0, gr_S] <;> omega) | fail) only [l23_16, r23_11, r23_17, r23_19, loadV_ptr, storeV_ptr, List.append_assoc, List.length_append, List.length_cons, List.length_nil, List.set_cons_zero, List.set_cons_succ, tk_here, tk_app, gr_here, gr_app, st_here, st_app, t1, t2, t3, t9, t10, t11, t12, hle, go_sem, ↓reduceIte, Nat.reduceLT, Nat.reduceEqDiff, Nat.reduceAdd, Nat.reduceMul, Nat.reduceSub, Int.reduceAdd, Int.reduceSub, Nat.reduceLeDiff, Int.reduceLT, Int.reduceLE, Int.reduceEq, Int.reduceNeg, Int.reduceToNat, hy])
        exact ⟨_, by omega, k + 1, _, rfl, hlt, by rw [hdn, List.append_nil], by rw [hdn, List.append_nil], rfl⟩
  · obtain rfl : k = c.packets.length := by omega
    simp (disch := first | rfl | omega | exact lt_new _ | assumption | decide | (simp [tk_here, tk_app, tk_0, tk_S, gr_here, gr_app, gr_0, gr_S] <;> omega) | fail) only [r23_0, r23_1, r23_2, r23_3, r23_4, r23_5, r23_6, r23_7, r23_8, r23_9, r23_10, r23_11, r23_12, r23_13, r23_14, r23_15, l23_16, r23_17, r23_18, r23_19, l23_20, r23_21, c23, rs23, gc23, loadV_ptr, storeV_ptr, List.append_assoc, List.length_append, List.length_cons, List.length_nil, List.set_cons_zero, List.set_cons_succ, tk_here, tk_app, gr_here, gr_app, st_here, st_app, t1, t2, t3, t9, t10, Int.lt_irrefl, go_sem, ↓reduceIte, Nat.reduceLT, Nat.reduceEqDiff, Nat.reduceAdd, Nat.reduceMul, Nat.reduceSub, Int.reduceAdd, Int.reduceSub, Nat.reduceLeDiff, Int.reduceLT, Int.reduceLE, Int.reduceEq, Int.reduceNeg, Int.reduceToNat]
    repeat' ((first | refine guardB_dec (fun hy => ?_) (fun hy => ?_) | refine guardB_bool (fun hy => ?_) (fun hy => ?_) | refine guardQ_ite (fun hy => ?_) (fun hy => ?_) | refine brQ_dec (fun hy => ?_) (fun hy => ?_) | refine brQ_bool (fun hy => ?_) (fun hy => ?_)) <;> (try simp only [Bool.not_eq_true', Bool.not_eq_false', Bool.and_eq_true, Bool.or_eq_false_iff, decide_eq_true_eq, decide_eq_false_iff_not] at hy) <;> simp (disch := first | rfl | omega | exact lt_new _ | assumption | decide | (simp [tk_here, tk_app, tk_0, tk_S, gr_here, gr_app, gr_0, gr_S] <;> omega) | fail) only [r23_0, r23_1, r23_2, r23_3, r23_4, r23_5, r23_6, r23_7, r23_8, r23_9, r23_10, r23_11, r23_12, r23_13, r23_14, r23_15, l23_16, r23_17, r23_18, r23_19, l23_20, r23_21, c23, rs23, gc23, loadV_ptr, storeV_ptr, List.append_assoc, List.length_append, List.length_cons, List.length_nil, List.set_cons_zero, List.set_cons_succ, tk_here, tk_app, gr_here, gr_app, st_here, st_app, t1, t2, t3, t9, t10, Int.lt_irrefl, go_sem, ↓reduceIte, Nat.reduceLT, Nat.reduceEqDiff, Nat.reduceAdd, Nat.reduceMul, Nat.reduceSub, Int.reduceAdd, Int.reduceSub, Nat.reduceLeDiff, Int.reduceLT, Int.reduceLE, Int.reduceEq, Int.reduceNeg, Int.reduceToNat, hy])
    refine finQ_app ?_
    simp (disch := first | rfl | omega | exact lt_new _ | assumption | decide | (simp [tk_here, tk_app, tk_0, tk_S, gr_here, gr_app, gr_0, gr_S] <;> omega) | fail) only [go_sem, ↓reduceIte, Nat.reduceLT, Nat.reduceEqDiff, Nat.reduceAdd, Nat.reduceMul, Nat.reduceSub, Int.reduceAdd, Int.reduceSub, Nat.reduceLeDiff, Int.reduceLT, Int.reduceLE, Int.reduceEq, Int.reduceNeg, Int.reduceToNat]
theorem fn5 (c : Cp) (hc : CpOk c) (window w : Int) (hw1 : Inx window) (H : Hp) : callL Try.prog pr 5 [.agg (cpE.f c), .int .i64 window, .int .i64 w] H = some (.bool true, H) := by
  obtain ⟨n, h21⟩ : ∃ n : Hp → Int, ∀ H, callL Try.prog pr 21 [.agg (cpE.f c)] H = some (.int .i64 (n H), H) := ⟨fun H => (fn21 c hc H).choose, fun H => (fn21 c hc H).choose_spec⟩
  have h22 := fn22 c hc window w hw1
  have h23 := fn23 c hc window w hw1
  obtain ⟨⟨l, e⟩, hr⟩ : ∃ r, dblF c window w = r := ⟨_, rfl⟩
  have hll : l.length ≤ 2 ^ 62 := by
    have : (dblF c window w).1.length ≤ 2 ^ 62 := by
      unfold dblF
      split
      · simp
      · split
        · simp
        · have h1 := dbs_len c.packets window w c.packets.length
          have h2 := hc.fits.2.2.2
          simp only
          omega
    rwa [hr] at this
  rw [hr] at h22 h23
  have h24 := fun H => fn24 (b := true) (b' := true) (l := l) (l' := l) hll H
  refine run5 (Nat.le_of_ble_eq_true rfl) ?_
  simp (disch := first | rfl | omega | exact lt_new _ | assumption | decide | (simp [tk_here, tk_app, tk_0, tk_S, gr_here, gr_app, gr_0, gr_S] <;> omega) | fail) only [r5_0, r5_1, r5_2, r5_3, r5_4, r5_5, c5, rs5, gc5, known_call, h21, h22, h23, h24, go_sem, ↓reduceIte, Nat.reduceLT, Nat.reduceEqDiff, Nat.reduceAdd, Nat.reduceMul, Nat.reduceSub, Int.reduceAdd, Int.reduceSub, Nat.reduceLeDiff, Int.reduceLT, Int.reduceLE, Int.reduceEq, Int.reduceNeg, Int.reduceToNat]
  repeat' ((first | refine guardB_dec (fun hy => ?_) (fun hy => ?_) | refine guardB_bool (fun hy => ?_) (fun hy => ?_) | refine guardQ_ite (fun hy => ?_) (fun hy => ?_) | refine brQ_dec (fun hy => ?_) (fun hy => ?_) | refine brQ_bool (fun hy => ?_) (fun hy => ?_)) <;> (try simp only [Bool.not_eq_true', Bool.not_eq_false', Bool.and_eq_true, Bool.or_eq_false_iff, decide_eq_true_eq, decide_eq_false_iff_not] at hy) <;> simp (disch := first | rfl | omega | exact lt_new _ | assumption | decide | (simp [tk_here, tk_app, tk_0, tk_S, gr_here, gr_app, gr_0, gr_S] <;> omega) | fail) only [r5_0, r5_1, r5_2, r5_3, r5_4, r5_5, c5, rs5, gc5, known_call, h21, h22, h23, h24, go_sem, ↓reduceIte, Nat.reduceLT, Nat.reduceEqDiff, Nat.reduceAdd, Nat.reduceMul, Nat.reduceSub, Int.reduceAdd, Int.reduceSub, Nat.reduceLeDiff, Int.reduceLT, Int.reduceLE, Int.reduceEq, Int.reduceNeg, Int.reduceToNat, hy])
  all_goals (try ((first | refine finQ_same ?_ | refine finQ_app ?_ | (rw [List.append_assoc]; refine finQ_app ?_)) <;> simp (disch := first | rfl | omega | exact lt_new _ | assumption | decide | (simp [tk_here, tk_app, tk_0, tk_S, gr_here, gr_app, gr_0, gr_S] <;> omega) | fail) only [go_sem, ↓reduceIte, Nat.reduceLT, Nat.reduceEqDiff, Nat.reduceAdd, Nat.reduceMul, Nat.reduceSub, Int.reduceAdd, Int.reduceSub, Nat.reduceLeDiff, Int.reduceLT, Int.reduceLE, Int.reduceEq, Int.reduceNeg, Int.reduceToNat, List.append_assoc, List.cons_append, List.nil_append, *]))
  all_goals (try first | rfl | (simp [*]; done) | grind)
end Go.Proofs.Ytejkgnmjdaohdaa
/-
  Copies of captures, walked. No statement of the seat stands here.
-/
namespace Go.Proofs.Ytejkgnmjdaohdaa
open Go Go.An
set_option maxRecDepth 4000
set_option linter.unusedSimpArgs false
set_option linter.unusedVariables false

theorem fn116 {b : Bool} {l : List Fc} (hl : l.length ≤ 2 ^ 30) (H : Hp) : ∃ v L, callL Try.prog pr 116 [slV b fcE l] H = some (v, H ++ L) ∧ RowM fcE H.length L v l := by
  suffices h : ∃ r, callL Try.prog pr 116 [slV b fcE l] H = some r ∧ ∃ v L, r = (v, H ++ L) ∧ RowM fcE H.length L v l by
    obtain ⟨_, h1, v, L, rfl, h2⟩ := h; exact ⟨v, L, h1, h2⟩
  refine ex116 (Nat.le_of_ble_eq_true rfl) ?_
  by_cases hb : b = true ∧ l = []
  · obtain ⟨rfl, rfl⟩ := hb
    simp (disch := first | rfl | omega | exact lt_new _ | assumption | decide | (simp [tk_here, tk_app, tk_0, tk_S, gr_here, gr_app, gr_0, gr_S] <;> omega) | fail) only [r116_0, r116_1, r116_2, r116_3, c116, rs116, gc116, go_sem, ↓reduceIte, Nat.reduceLT, Nat.reduceEqDiff, Nat.reduceAdd, Nat.reduceMul, Nat.reduceSub, Int.reduceAdd, Int.reduceSub, Nat.reduceLeDiff, Int.reduceLT, Int.reduceLE, Int.reduceEq, Int.reduceNeg, Int.reduceToNat, slV_nil]
    exact ⟨V.nilslice, [], by simp, Or.inl ⟨rfl, rfl⟩⟩
  · have hb2 : (b && decide (l.length = 0)) = false := by
      cases b with
      | false => rfl
      | true => simp only [true_and] at hb; simp [hb]
    obtain ⟨g, ha⟩ : ∃ g, appOf 3 32 (H ++ [.row 0 [] true]) (.slice H.length 0 0 0 3 .full) (slV b fcE l) = some (.slice H.length g 0 l.length 3 .full, H ++ [.row g (flatE fcE l) true]) := by
      have hw : fcE.w = 3 := rfl
      have hfl := flatE_len (E := fcE) (l := l)
      rw [hw] at hfl
      have hfc := flatE_cells fcE l
      unfold appOf
      rw [src_slV]
      simp only [Option.bind_some]
      rw [if_pos ⟨hfl, hfc⟩]
      simp only [getRow_last, Option.bind_some]
      rw [if_pos ⟨trivial, by omega, by omega, by simp⟩]
      by_cases hz : l.length = 0
      · obtain rfl : l = [] := List.eq_nil_of_length_eq_zero hz
        exact ⟨0, by simp [flatE]⟩
      · refine ⟨1, ?_⟩
        rw [if_neg hz, if_pos trivial, if_neg (by simp; omega), if_pos (by simp)]
        simp
    simp (disch := first | rfl | omega | exact lt_new _ | assumption | decide | (simp [tk_here, tk_app, tk_0, tk_S, gr_here, gr_app, gr_0, gr_S] <;> omega) | fail) only [r116_0, r116_1, r116_2, r116_3, c116, rs116, gc116, go_sem, ↓reduceIte, Nat.reduceLT, Nat.reduceEqDiff, Nat.reduceAdd, Nat.reduceMul, Nat.reduceSub, Int.reduceAdd, Int.reduceSub, Nat.reduceLeDiff, Int.reduceLT, Int.reduceLE, Int.reduceEq, Int.reduceNeg, Int.reduceToNat, hb2, ha]
    exact ⟨_, _, rfl, Or.inr ⟨0, g, rfl, by simp, by simp [getRow]⟩⟩

theorem fn117 {b : Bool} {l : List Nm} (hl : l.length ≤ 2 ^ 30) (H : Hp) : ∃ v L, callL Try.prog pr 117 [slV b nmE l] H = some (v, H ++ L) ∧ RowM nmE H.length L v l := by
  suffices h : ∃ r, callL Try.prog pr 117 [slV b nmE l] H = some r ∧ ∃ v L, r = (v, H ++ L) ∧ RowM nmE H.length L v l by
    obtain ⟨_, h1, v, L, rfl, h2⟩ := h; exact ⟨v, L, h1, h2⟩
  refine ex117 (Nat.le_of_ble_eq_true rfl) ?_
  by_cases hb : b = true ∧ l = []
  · obtain ⟨rfl, rfl⟩ := hb
    simp (disch := first | rfl | omega | exact lt_new _ | assumption | decide | (simp [tk_here, tk_app, tk_0, tk_S, gr_here, gr_app, gr_0, gr_S] <;> omega) | fail) only [r117_0, r117_1, r117_2, r117_3, c117, rs117, gc117, go_sem, ↓reduceIte, Nat.reduceLT, Nat.reduceEqDiff, Nat.reduceAdd, Nat.reduceMul, Nat.reduceSub, Int.reduceAdd, Int.reduceSub, Nat.reduceLeDiff, Int.reduceLT, Int.reduceLE, Int.reduceEq, Int.reduceNeg, Int.reduceToNat, slV_nil]
    exact ⟨V.nilslice, [], by simp, Or.inl ⟨rfl, rfl⟩⟩
  · have hb2 : (b && decide (l.length = 0)) = false := by
      cases b with
      | false => rfl
      | true => simp only [true_and] at hb; simp [hb]
    obtain ⟨g, ha⟩ : ∃ g, appOf 2 40 (H ++ [.row 0 [] true]) (.slice H.length 0 0 0 2 .full) (slV b nmE l) = some (.slice H.length g 0 l.length 2 .full, H ++ [.row g (flatE nmE l) true]) := by
      have hw : nmE.w = 2 := rfl
      have hfl := flatE_len (E := nmE) (l := l)
      rw [hw] at hfl
      have hfc := flatE_cells nmE l
      unfold appOf
      rw [src_slV]
      simp only [Option.bind_some]
      rw [if_pos ⟨hfl, hfc⟩]
      simp only [getRow_last, Option.bind_some]
      rw [if_pos ⟨trivial, by omega, by omega, by simp⟩]
      by_cases hz : l.length = 0
      · obtain rfl : l = [] := List.eq_nil_of_length_eq_zero hz
        exact ⟨0, by simp [flatE]⟩
      · refine ⟨1, ?_⟩
        rw [if_neg hz, if_pos trivial, if_neg (by simp; omega), if_pos (by simp)]
        simp
    simp (disch := first | rfl | omega | exact lt_new _ | assumption | decide | (simp [tk_here, tk_app, tk_0, tk_S, gr_here, gr_app, gr_0, gr_S] <;> omega) | fail) only [r117_0, r117_1, r117_2, r117_3, c117, rs117, gc117, go_sem, ↓reduceIte, Nat.reduceLT, Nat.reduceEqDiff, Nat.reduceAdd, Nat.reduceMul, Nat.reduceSub, Int.reduceAdd, Int.reduceSub, Nat.reduceLeDiff, Int.reduceLT, Int.reduceLE, Int.reduceEq, Int.reduceNeg, Int.reduceToNat, hb2, ha]
    exact ⟨_, _, rfl, Or.inr ⟨0, g, rfl, by simp, by simp [getRow]⟩⟩

theorem fn119 {b : Bool} {l : List Sc} (hl : l.length ≤ 2 ^ 30) (H : Hp) : ∃ v L, callL Try.prog pr 119 [slV b scE l] H = some (v, H ++ L) ∧ RowM scE H.length L v l := by
  suffices h : ∃ r, callL Try.prog pr 119 [slV b scE l] H = some r ∧ ∃ v L, r = (v, H ++ L) ∧ RowM scE H.length L v l by
    obtain ⟨_, h1, v, L, rfl, h2⟩ := h; exact ⟨v, L, h1, h2⟩
  refine ex119 (Nat.le_of_ble_eq_true rfl) ?_
  by_cases hb : b = true ∧ l = []
  · obtain ⟨rfl, rfl⟩ := hb
    simp (disch := first | rfl | omega | exact lt_new _ | assumption | decide | (simp [tk_here, tk_app, tk_0, tk_S, gr_here, gr_app, gr_0, gr_S] <;> omega) | fail) only [r119_0, r119_1, r119_2, r119_3, c119, rs119, gc119, go_sem, ↓reduceIte, Nat.reduceLT, Nat.reduceEqDiff, Nat.reduceAdd, Nat.reduceMul, Nat.reduceSub, Int.reduceAdd, Int.reduceSub, Nat.reduceLeDiff, Int.reduceLT, Int.reduceLE, Int.reduceEq, Int.reduceNeg, Int.reduceToNat, slV_nil]
    exact ⟨V.nilslice, [], by simp, Or.inl ⟨rfl, rfl⟩⟩
  · have hb2 : (b && decide (l.length = 0)) = false := by
      cases b with
      | false => rfl
      | true => simp only [true_and] at hb; simp [hb]
    obtain ⟨g, ha⟩ : ∃ g, appOf 2 40 (H ++ [.row 0 [] true]) (.slice H.length 0 0 0 2 .full) (slV b scE l) = some (.slice H.length g 0 l.length 2 .full, H ++ [.row g (flatE scE l) true]) := by
      have hw : scE.w = 2 := rfl
      have hfl := flatE_len (E := scE) (l := l)
      rw [hw] at hfl
      have hfc := flatE_cells scE l
      unfold appOf
      rw [src_slV]
      simp only [Option.bind_some]
      rw [if_pos ⟨hfl, hfc⟩]
      simp only [getRow_last, Option.bind_some]
      rw [if_pos ⟨trivial, by omega, by omega, by simp⟩]
      by_cases hz : l.length = 0
      · obtain rfl : l = [] := List.eq_nil_of_length_eq_zero hz
        exact ⟨0, by simp [flatE]⟩
      · refine ⟨1, ?_⟩
        rw [if_neg hz, if_pos trivial, if_neg (by simp; omega), if_pos (by simp)]
        simp
    simp (disch := first | rfl | omega | exact lt_new _ | assumption | decide | (simp [tk_here, tk_app, tk_0, tk_S, gr_here, gr_app, gr_0, gr_S] <;> omega) | fail) only [r119_0, r119_1, r119_2, r119_3, c119, rs119, gc119, go_sem, ↓reduceIte, Nat.reduceLT, Nat.reduceEqDiff, Nat.reduceAdd, Nat.reduceMul, Nat.reduceSub, Int.reduceAdd, Int.reduceSub, Nat.reduceLeDiff, Int.reduceLT, Int.reduceLE, Int.reduceEq, Int.reduceNeg, Int.reduceToNat, hb2, ha]
    exact ⟨_, _, rfl, Or.inr ⟨0, g, rfl, by simp, by simp [getRow]⟩⟩

theorem fn120 {b : Bool} {l : List Pk} (hl : l.length ≤ 2 ^ 30) (H : Hp) : ∃ v L, callL Try.prog pr 120 [slV b pkE l] H = some (v, H ++ L) ∧ RowM pkE H.length L v l := by
  suffices h : ∃ r, callL Try.prog pr 120 [slV b pkE l] H = some r ∧ ∃ v L, r = (v, H ++ L) ∧ RowM pkE H.length L v l by
    obtain ⟨_, h1, v, L, rfl, h2⟩ := h; exact ⟨v, L, h1, h2⟩
  refine ex120 (Nat.le_of_ble_eq_true rfl) ?_
  by_cases hb : b = true ∧ l = []
  · obtain ⟨rfl, rfl⟩ := hb
    simp (disch := first | rfl | omega | exact lt_new _ | assumption | decide | (simp [tk_here, tk_app, tk_0, tk_S, gr_here, gr_app, gr_0, gr_S] <;> omega) | fail) only [r120_0, r120_1, r120_2, r120_3, c120, rs120, gc120, go_sem, ↓reduceIte, Nat.reduceLT, Nat.reduceEqDiff, Nat.reduceAdd, Nat.reduceMul, Nat.reduceSub, Int.reduceAdd, Int.reduceSub, Nat.reduceLeDiff, Int.reduceLT, Int.reduceLE, Int.reduceEq, Int.reduceNeg, Int.reduceToNat, slV_nil]
    exact ⟨V.nilslice, [], by simp, Or.inl ⟨rfl, rfl⟩⟩
  · have hb2 : (b && decide (l.length = 0)) = false := by
      cases b with
      | false => rfl
      | true => simp only [true_and] at hb; simp [hb]
    obtain ⟨g, ha⟩ : ∃ g, appOf 5 64 (H ++ [.row 0 [] true]) (.slice H.length 0 0 0 5 .full) (slV b pkE l) = some (.slice H.length g 0 l.length 5 .full, H ++ [.row g (flatE pkE l) true]) := by
      have hw : pkE.w = 5 := rfl
      have hfl := flatE_len (E := pkE) (l := l)
      rw [hw] at hfl
      have hfc := flatE_cells pkE l
      unfold appOf
      rw [src_slV]
      simp only [Option.bind_some]
      rw [if_pos ⟨hfl, hfc⟩]
      simp only [getRow_last, Option.bind_some]
      rw [if_pos ⟨trivial, by omega, by omega, by simp⟩]
      by_cases hz : l.length = 0
      · obtain rfl : l = [] := List.eq_nil_of_length_eq_zero hz
        exact ⟨0, by simp [flatE]⟩
      · refine ⟨1, ?_⟩
        rw [if_neg hz, if_pos trivial, if_neg (by simp; omega), if_pos (by simp)]
        simp
    simp (disch := first | rfl | omega | exact lt_new _ | assumption | decide | (simp [tk_here, tk_app, tk_0, tk_S, gr_here, gr_app, gr_0, gr_S] <;> omega) | fail) only [r120_0, r120_1, r120_2, r120_3, c120, rs120, gc120, go_sem, ↓reduceIte, Nat.reduceLT, Nat.reduceEqDiff, Nat.reduceAdd, Nat.reduceMul, Nat.reduceSub, Int.reduceAdd, Int.reduceSub, Nat.reduceLeDiff, Int.reduceLT, Int.reduceLE, Int.reduceEq, Int.reduceNeg, Int.reduceToNat, hb2, ha]
    exact ⟨_, _, rfl, Or.inr ⟨0, g, rfl, by simp, by simp [getRow]⟩⟩


theorem gr_l {G K : Hp} {j g : Nat} (h : j < G.length) : getRow (G ++ K) j g = getRow G j g := by
  unfold getRow; rw [List.getElem?_append_left h]
theorem st_l {G K : Hp} {j : Nat} {b : AB} (h : j < G.length) : (G ++ K).set j b = G.set j b ++ K := List.set_append_left _ _ h
theorem RowM.two {α : Type} {E : Enc α} {n : Nat} {M : Hp} {v : V} {l : List α} (h : RowM E (n + 2) M v l) : (v = .nilslice ∧ l = []) ∨ ∃ j g, v = .slice (n + (j + 1 + 1)) g 0 l.length E.w .full ∧ j < M.length ∧ getRow M j g = some (flatE E l, true) := by
  rcases h with h | ⟨j, g, rfl, h⟩
  · exact Or.inl h
  · exact Or.inr ⟨j, g, by rw [show n + 2 + j = n + (j + 1 + 1) by omega], h⟩
theorem fn118 {b : Bool} {l : List UInt8} (hl : l.length ≤ 2 ^ 30) (H : Hp) : callL Try.prog pr 118 [slV b byE l] H = some (slV b byE l, H) := by
  refine run118 (Nat.le_of_ble_eq_true rfl) ?_
  by_cases hb : b = true ∧ l = []
  · obtain ⟨rfl, rfl⟩ := hb
    simp (disch := first | rfl | omega | exact lt_new _ | assumption | decide | (simp [tk_here, tk_app, tk_0, tk_S, gr_here, gr_app, gr_0, gr_S] <;> omega) | fail) only [r118_0, r118_1, r118_2, r118_3, c118, rs118, gc118, go_sem, ↓reduceIte, Nat.reduceLT, Nat.reduceEqDiff, Nat.reduceAdd, Nat.reduceMul, Nat.reduceSub, Int.reduceAdd, Int.reduceSub, Nat.reduceLeDiff, Int.reduceLT, Int.reduceLE, Int.reduceEq, Int.reduceNeg, Int.reduceToNat, slV_nil]
    exact finQ_same (by simp (disch := first | rfl | omega | exact lt_new _ | assumption | decide | (simp [tk_here, tk_app, tk_0, tk_S, gr_here, gr_app, gr_0, gr_S] <;> omega) | fail) only [go_sem, ↓reduceIte, Nat.reduceLT, Nat.reduceEqDiff, Nat.reduceAdd, Nat.reduceMul, Nat.reduceSub, Int.reduceAdd, Int.reduceSub, Nat.reduceLeDiff, Int.reduceLT, Int.reduceLE, Int.reduceEq, Int.reduceNeg, Int.reduceToNat])
  · have hb2 : (b && decide (l.length = 0)) = false := by
      cases b with
      | false => rfl
      | true => simp only [true_and] at hb; simp [hb]
    obtain ⟨g, ha⟩ : ∃ g, appOf 1 1 (H ++ [.row 0 [] true]) (.slice H.length 0 0 0 1 .full) (slV b byE l) = some (.slice H.length g 0 l.length 1 .full, H ++ [.row g (flatE byE l) true]) := by
      have hw : byE.w = 1 := rfl
      have hfl := flatE_len (E := byE) (l := l)
      rw [hw] at hfl
      have hfc := flatE_cells byE l
      unfold appOf
      rw [src_slV]
      simp only [Option.bind_some]
      rw [if_pos ⟨hfl, hfc⟩]
      simp only [getRow_last, Option.bind_some]
      rw [if_pos ⟨trivial, by omega, by omega, by simp⟩]
      by_cases hz : l.length = 0
      · obtain rfl : l = [] := List.eq_nil_of_length_eq_zero hz
        exact ⟨0, by simp [flatE]⟩
      · refine ⟨1, ?_⟩
        rw [if_neg hz, if_pos trivial, if_neg (by simpa using fun h => hz (by rw [h]; rfl)), if_pos (by simp)]
        simp
    simp (disch := first | rfl | omega | exact lt_new _ | assumption | decide | (simp [tk_here, tk_app, tk_0, tk_S, gr_here, gr_app, gr_0, gr_S] <;> omega) | fail) only [r118_0, r118_1, r118_2, r118_3, c118, rs118, gc118, go_sem, ↓reduceIte, Nat.reduceLT, Nat.reduceEqDiff, Nat.reduceAdd, Nat.reduceMul, Nat.reduceSub, Int.reduceAdd, Int.reduceSub, Nat.reduceLeDiff, Int.reduceLT, Int.reduceLE, Int.reduceEq, Int.reduceNeg, Int.reduceToNat, hb2, ha]
    refine finQ_app (by rw [show ∀ n H' f id g off m sz cp, inlR n H' f (V.slice id g off m sz cp) = inlB n H' f (V.slice id g off m sz cp) from fun _ _ _ _ _ _ _ _ _ => rfl, inlB_row (Nat.le_refl _) (w := 1) (cs := flatE byE l) (g := g) (len := l.length) (by simp) flatE_len flatE_imm]; simp (disch := first | rfl | omega | exact lt_new _ | assumption | decide | (simp [tk_here, tk_app, tk_0, tk_S, gr_here, gr_app, gr_0, gr_S] <;> omega) | fail) only [go_sem, ↓reduceIte, Nat.reduceLT, Nat.reduceEqDiff, Nat.reduceAdd, Nat.reduceMul, Nat.reduceSub, Int.reduceAdd, Int.reduceSub, Nat.reduceLeDiff, Int.reduceLT, Int.reduceLE, Int.reduceEq, Int.reduceNeg, Int.reduceToNat, slV, if_neg hb]; rfl)
def CpS (c : Cp) : Prop := (c.faces.length ≤ 2 ^ 30 ∧ c.names.length ≤ 2 ^ 30 ∧ c.secrets.length ≤ 2 ^ 30 ∧ c.packets.length ≤ 2 ^ 30) ∧ (∀ x ∈ c.names, x.addr.length ≤ 2 ^ 30) ∧ (∀ x ∈ c.secrets, x.key.length ≤ 2 ^ 30) ∧ ∀ x ∈ c.packets, x.data.length ≤ 2 ^ 30
-- COPY BEGIN
set_option maxHeartbeats 4000000 in
theorem fn74 (c : Cp) (hs : CpS c) (H : Hp) : ∃ v1 v2 v3 v4 L, callL Try.prog pr 74 [.agg (cpE.f c)] H = some (.agg [.str c.note, v1, v2, v3, v4], H ++ L) ∧ RowM fcE H.length L v1 c.faces ∧ RowM nmE H.length L v2 c.names ∧ RowM scE H.length L v3 c.secrets ∧ RowM pkE H.length L v4 c.packets := by
  suffices h : ∃ r, callL Try.prog pr 74 [.agg (cpE.f c)] H = some r ∧ ∃ v1 v2 v3 v4 L, r = (.agg [.str c.note, v1, v2, v3, v4], H ++ L) ∧ RowM fcE H.length L v1 c.faces ∧ RowM nmE H.length L v2 c.names ∧ RowM scE H.length L v3 c.secrets ∧ RowM pkE H.length L v4 c.packets by
    obtain ⟨_, h1, v1, v2, v3, v4, L, rfl, h2⟩ := h; exact ⟨v1, v2, v3, v4, L, h1, h2⟩
  refine ex74 (Nat.le_of_ble_eq_true rfl) ?_
  obtain ⟨hlen, ha1, ha2, ha3⟩ := hs
  have e118 := fun {b l} h H => fn118 (b := b) (l := l) h H
  have hc0 : cpE.f c = [.str c.note, slV c.facesN fcE c.faces, slV c.namesN nmE c.names, slV c.secretsN scE c.secrets, slV c.packetsN pkE c.packets] := rfl
  obtain ⟨v1, L1, e1, r1⟩ := fn116 (b := c.facesN) hlen.1 (H ++ AB.row 0 [.str c.note, slV c.facesN fcE c.faces, slV c.namesN nmE c.names, slV c.secretsN scE c.secrets, slV c.packetsN pkE c.packets] true :: AB.row 0 [.str [], .nilslice, .nilslice, .nilslice, .nilslice] true :: [])
  rw [show (H ++ AB.row 0 [.str c.note, slV c.facesN fcE c.faces, slV c.namesN nmE c.names, slV c.secretsN scE c.secrets, slV c.packetsN pkE c.packets] true :: AB.row 0 [.str [], .nilslice, .nilslice, .nilslice, .nilslice] true :: []).length = H.length + 2 by simp] at r1
  obtain ⟨c11, c12, c13, c14, c15, c16, c17⟩ := r1.cell
  have n1 := fun H' => r1.len (P := Try.prog) (t := 26) (z := 3) (by kernel_rfl) H'
  have q1 := r1
  obtain ⟨v2, L2, e2, r2⟩ := fn117 (b := c.namesN) hlen.2.1 (H ++ AB.row 0 [.str c.note, v1, slV c.namesN nmE c.names, slV c.secretsN scE c.secrets, slV c.packetsN pkE c.packets] true :: AB.row 0 [.str [], .nilslice, .nilslice, .nilslice, .nilslice] true :: L1)
  rw [show (H ++ AB.row 0 [.str c.note, v1, slV c.namesN nmE c.names, slV c.secretsN scE c.secrets, slV c.packetsN pkE c.packets] true :: AB.row 0 [.str [], .nilslice, .nilslice, .nilslice, .nilslice] true :: L1).length = H.length + 2 + L1.length by simp; omega] at r2
  replace r2 := RowM.pre L1 r2
  replace q1 := RowM.app q1 L2
  obtain ⟨c21, c22, c23, c24, c25, c26, c27⟩ := r2.cell
  have n2 := fun H' => r2.len (P := Try.prog) (t := 27) (z := 2) (by kernel_rfl) H'
  simp (disch := first | rfl | omega | exact lt_new _ | assumption | decide | (simp [tk_here, tk_app, tk_0, tk_S, gr_here, gr_app, gr_0, gr_S] <;> omega) | fail) only [r74_0, r74_1, r74_2, r74_3, r74_4, r74_5, r74_6, r74_7, r74_9, r74_10, r74_11, r74_12, r74_13, r74_14, r74_16, r74_17, r74_18, r74_19, r74_20, r74_21, r74_23, c74, rs74, gc74, go_sem, ↓reduceIte, Nat.reduceLT, Nat.reduceEqDiff, Nat.reduceAdd, Nat.reduceMul, Nat.reduceSub, Int.reduceAdd, Int.reduceSub, Nat.reduceLeDiff, Int.reduceLT, Int.reduceLE, Int.reduceEq, Int.reduceNeg, Int.reduceToNat, loadV_ptr, storeV_ptr, List.append_assoc, List.length_append, List.length_cons, List.length_nil, List.set_cons_zero, List.set_cons_succ, tk_here, tk_app, gr_here, gr_app, st_here, st_app, hc0, e1, e2, n2, c11, c12, c13, c14, c15, c16, c17, c21, c22, c23, c24, c25, c26, c27]
  refine Wp_loop (fun m T D H' => ∃ i M, m = c.names.length - i ∧ i ≤ c.names.length ∧ D = [] ∧ H' = H ++ AB.row 0 [.str c.note, v1, v2, slV c.secretsN scE c.secrets, slV c.packetsN pkE c.packets] true :: AB.row 0 [.str [], .nilslice, .nilslice, .nilslice, .nilslice] true :: M ∧ get T 1 = .ptr H.length 0 0 ∧ get T 2 = .ptr (H.length + 1) 0 0 ∧ get T 18 = v2 ∧ get T 19 = .int .i64 c.names.length ∧ get T 20 = .int .i64 i ∧ RowM fcE (H.length + 2) M v1 c.faces ∧ RowM nmE (H.length + 2) M v2 c.names) ?_ c.names.length _ _ _ ?_
  case refine_2 => exact ⟨0, _, by simp (disch := first | rfl | omega | exact lt_new _ | assumption | decide | (simp [tk_here, tk_app, tk_0, tk_S, gr_here, gr_app, gr_0, gr_S] <;> omega) | fail) only [go_sem, ↓reduceIte, Nat.reduceLT, Nat.reduceEqDiff, Nat.reduceAdd, Nat.reduceMul, Nat.reduceSub, Int.reduceAdd, Int.reduceSub, Nat.reduceLeDiff, Int.reduceLT, Int.reduceLE, Int.reduceEq, Int.reduceNeg, Int.reduceToNat], by omega, rfl, rfl, by simp [go_sem], by simp [go_sem], by simp [go_sem], by simp [go_sem], by simp [go_sem], q1, r2⟩
  rintro m T D H' ⟨i, M, rfl, hi, rfl, rfl, t1, t2, t18, t19, t20, q1, q2⟩
  by_cases hlt : i < c.names.length
  · have hlt' : (i : Int) < c.names.length := by omega
    rcases RowM.two q2 with ⟨_, hnil⟩ | ⟨j, g, hv, hj, hr⟩
    · rw [hnil] at hlt; cases hlt
    have hv' : v2 = .slice (H.length + (j + 1 + 1)) g 0 c.names.length 2 .full := hv
    have p1 : partV Try.prog 97 (flatE nmE c.names) (i * 2) = some (.agg (nmE.f (nmE.at c.names i))) := ld_nmE (H := H) hlt
    have ec := e118 (b := (nmE.at c.names i).addrN) (ha1 _ (nmE.at_mem hlt))
    have hfs : setAt (flatE nmE c.names) (i * 2 + 0) [slV (nmE.at c.names i).addrN byE (nmE.at c.names i).addr] = flatE nmE c.names := flatE_same (E := nmE) hlt (by decide) rfl
    have hfl : (flatE nmE c.names).length = c.names.length * 2 := flatE_len
    have hle : i * 2 + 0 + 1 ≤ c.names.length * 2 := by omega
    have hse := (RowM.get hr).2
    subst hv'
    rw [Nat.add_zero] at hfs hle
    simp (disch := first | rfl | omega | exact lt_new _ | assumption | decide | (simp [tk_here, tk_app, tk_0, tk_S, gr_here, gr_app, gr_0, gr_S] <;> omega) | fail) only [r74_0, r74_1, r74_2, r74_3, r74_4, r74_5, r74_6, r74_7, l74_8, r74_9, r74_10, r74_11, r74_12, r74_13, r74_14, l74_15, r74_16, r74_17, r74_18, r74_19, r74_20, r74_21, l74_22, r74_23, c74, rs74, gc74, go_sem, ↓reduceIte, Nat.reduceLT, Nat.reduceEqDiff, Nat.reduceAdd, Nat.reduceMul, Nat.reduceSub, Int.reduceAdd, Int.reduceSub, Nat.reduceLeDiff, Int.reduceLT, Int.reduceLE, Int.reduceEq, Int.reduceNeg, Int.reduceToNat, loadV_ptr, storeV_ptr, List.append_assoc, List.length_append, List.length_cons, List.length_nil, List.set_cons_zero, List.set_cons_succ, tk_here, tk_app, gr_here, gr_app, st_here, st_app, gr_l hj, st_l hj, hr, hse, t1, t2, t18, t19, t20, hlt', p1, ec, hfs, hfl, hle]
    exact ⟨_, by omega, i + 1, M ++ [_], rfl, hlt, rfl, rfl, RowM.app q1 _, RowM.app q2 _⟩
  · obtain rfl : i = c.names.length := by omega
    have t0 := Int.lt_irrefl
    obtain ⟨v3, L3, e3, r3⟩ := fn119 (b := c.secretsN) hlen.2.2.1 (H ++ AB.row 0 [.str c.note, v1, v2, slV c.secretsN scE c.secrets, slV c.packetsN pkE c.packets] true :: AB.row 0 [.str [], .nilslice, .nilslice, .nilslice, .nilslice] true :: M)
    rw [show (H ++ AB.row 0 [.str c.note, v1, v2, slV c.secretsN scE c.secrets, slV c.packetsN pkE c.packets] true :: AB.row 0 [.str [], .nilslice, .nilslice, .nilslice, .nilslice] true :: M).length = H.length + 2 + M.length by simp; omega] at r3
    replace r3 := RowM.pre M r3
    replace q1 := RowM.app q1 L3
    replace q2 := RowM.app q2 L3
    obtain ⟨c31, c32, c33, c34, c35, c36, c37⟩ := r3.cell
    have n3 := fun H' => r3.len (P := Try.prog) (t := 28) (z := 2) (by kernel_rfl) H'
    simp (disch := first | rfl | omega | exact lt_new _ | assumption | decide | (simp [tk_here, tk_app, tk_0, tk_S, gr_here, gr_app, gr_0, gr_S] <;> omega) | fail) only [r74_0, r74_1, r74_2, r74_3, r74_4, r74_5, r74_6, r74_7, l74_8, r74_9, r74_10, r74_11, r74_12, r74_13, r74_14, l74_15, r74_16, r74_17, r74_18, r74_19, r74_20, r74_21, l74_22, r74_23, c74, rs74, gc74, go_sem, ↓reduceIte, Nat.reduceLT, Nat.reduceEqDiff, Nat.reduceAdd, Nat.reduceMul, Nat.reduceSub, Int.reduceAdd, Int.reduceSub, Nat.reduceLeDiff, Int.reduceLT, Int.reduceLE, Int.reduceEq, Int.reduceNeg, Int.reduceToNat, loadV_ptr, storeV_ptr, List.append_assoc, List.length_append, List.length_cons, List.length_nil, List.set_cons_zero, List.set_cons_succ, tk_here, tk_app, gr_here, gr_app, st_here, st_app, t1, t2, t18, t19, t20, t0, e3, n3, c11, c12, c13, c14, c15, c16, c17, c21, c22, c23, c24, c25, c26, c27, c31, c32, c33, c34, c35, c36, c37]
    refine Wp_loop (fun m T D H' => ∃ i M, m = c.secrets.length - i ∧ i ≤ c.secrets.length ∧ D = [] ∧ H' = H ++ AB.row 0 [.str c.note, v1, v2, v3, slV c.packetsN pkE c.packets] true :: AB.row 0 [.str [], .nilslice, .nilslice, .nilslice, .nilslice] true :: M ∧ get T 1 = .ptr H.length 0 0 ∧ get T 2 = .ptr (H.length + 1) 0 0 ∧ get T 39 = v3 ∧ get T 40 = .int .i64 c.secrets.length ∧ get T 41 = .int .i64 i ∧ RowM fcE (H.length + 2) M v1 c.faces ∧ RowM nmE (H.length + 2) M v2 c.names ∧ RowM scE (H.length + 2) M v3 c.secrets) ?_ c.secrets.length _ _ _ ?_
    case refine_2 => exact ⟨0, _, by simp (disch := first | rfl | omega | exact lt_new _ | assumption | decide | (simp [tk_here, tk_app, tk_0, tk_S, gr_here, gr_app, gr_0, gr_S] <;> omega) | fail) only [go_sem, ↓reduceIte, Nat.reduceLT, Nat.reduceEqDiff, Nat.reduceAdd, Nat.reduceMul, Nat.reduceSub, Int.reduceAdd, Int.reduceSub, Nat.reduceLeDiff, Int.reduceLT, Int.reduceLE, Int.reduceEq, Int.reduceNeg, Int.reduceToNat], by omega, rfl, rfl, by simp [go_sem, t1, t2], by simp [go_sem, t1, t2], by simp [go_sem], by simp [go_sem], by simp [go_sem], q1, q2, r3⟩
    rintro m T D H' ⟨i, M, rfl, hi, rfl, rfl, t1, t2, t39, t40, t41, q1, q2, q3⟩
    by_cases hlt : i < c.secrets.length
    · have hlt' : (i : Int) < c.secrets.length := by omega
      rcases RowM.two q3 with ⟨_, hnil⟩ | ⟨j, g, hv, hj, hr⟩
      · rw [hnil] at hlt; cases hlt
      have hv' : v3 = .slice (H.length + (j + 1 + 1)) g 0 c.secrets.length 2 .full := hv
      have p1 : partV Try.prog 100 (flatE scE c.secrets) (i * 2) = some (.agg (scE.f (scE.at c.secrets i))) := ld_scE (H := H) hlt
      have ec := e118 (b := (scE.at c.secrets i).keyN) (ha2 _ (scE.at_mem hlt))
      have hfs : setAt (flatE scE c.secrets) (i * 2 + 1) [slV (scE.at c.secrets i).keyN byE (scE.at c.secrets i).key] = flatE scE c.secrets := flatE_same (E := scE) hlt (by decide) rfl
      have hfl : (flatE scE c.secrets).length = c.secrets.length * 2 := flatE_len
      have hle : i * 2 + 1 + 1 ≤ c.secrets.length * 2 := by omega
      have hse := (RowM.get hr).2
      subst hv'
      simp (disch := first | rfl | omega | exact lt_new _ | assumption | decide | (simp [tk_here, tk_app, tk_0, tk_S, gr_here, gr_app, gr_0, gr_S] <;> omega) | fail) only [r74_0, r74_1, r74_2, r74_3, r74_4, r74_5, r74_6, r74_7, l74_8, r74_9, r74_10, r74_11, r74_12, r74_13, r74_14, l74_15, r74_16, r74_17, r74_18, r74_19, r74_20, r74_21, l74_22, r74_23, c74, rs74, gc74, go_sem, ↓reduceIte, Nat.reduceLT, Nat.reduceEqDiff, Nat.reduceAdd, Nat.reduceMul, Nat.reduceSub, Int.reduceAdd, Int.reduceSub, Nat.reduceLeDiff, Int.reduceLT, Int.reduceLE, Int.reduceEq, Int.reduceNeg, Int.reduceToNat, loadV_ptr, storeV_ptr, List.append_assoc, List.length_append, List.length_cons, List.length_nil, List.set_cons_zero, List.set_cons_succ, tk_here, tk_app, gr_here, gr_app, st_here, st_app, gr_l hj, st_l hj, hr, hse, t1, t2, t39, t40, t41, hlt', p1, ec, hfs, hfl, hle]
      exact ⟨_, by omega, i + 1, M ++ [_], rfl, hlt, rfl, rfl, RowM.app q1 _, RowM.app q2 _, RowM.app q3 _⟩
    · obtain rfl : i = c.secrets.length := by omega
      have t0 := Int.lt_irrefl
      obtain ⟨v4, L4, e4, r4⟩ := fn120 (b := c.packetsN) hlen.2.2.2 (H ++ AB.row 0 [.str c.note, v1, v2, v3, slV c.packetsN pkE c.packets] true :: AB.row 0 [.str [], .nilslice, .nilslice, .nilslice, .nilslice] true :: M)
      rw [show (H ++ AB.row 0 [.str c.note, v1, v2, v3, slV c.packetsN pkE c.packets] true :: AB.row 0 [.str [], .nilslice, .nilslice, .nilslice, .nilslice] true :: M).length = H.length + 2 + M.length by simp; omega] at r4
      replace r4 := RowM.pre M r4
      replace q1 := RowM.app q1 L4
      replace q2 := RowM.app q2 L4
      replace q3 := RowM.app q3 L4
      obtain ⟨c41, c42, c43, c44, c45, c46, c47⟩ := r4.cell
      have n4 := fun H' => r4.len (P := Try.prog) (t := 29) (z := 5) (by kernel_rfl) H'
      simp (disch := first | rfl | omega | exact lt_new _ | assumption | decide | (simp [tk_here, tk_app, tk_0, tk_S, gr_here, gr_app, gr_0, gr_S] <;> omega) | fail) only [r74_0, r74_1, r74_2, r74_3, r74_4, r74_5, r74_6, r74_7, l74_8, r74_9, r74_10, r74_11, r74_12, r74_13, r74_14, l74_15, r74_16, r74_17, r74_18, r74_19, r74_20, r74_21, l74_22, r74_23, c74, rs74, gc74, go_sem, ↓reduceIte, Nat.reduceLT, Nat.reduceEqDiff, Nat.reduceAdd, Nat.reduceMul, Nat.reduceSub, Int.reduceAdd, Int.reduceSub, Nat.reduceLeDiff, Int.reduceLT, Int.reduceLE, Int.reduceEq, Int.reduceNeg, Int.reduceToNat, loadV_ptr, storeV_ptr, List.append_assoc, List.length_append, List.length_cons, List.length_nil, List.set_cons_zero, List.set_cons_succ, tk_here, tk_app, gr_here, gr_app, st_here, st_app, t1, t2, t39, t40, t41, t0, e4, n4, c11, c12, c13, c14, c15, c16, c17, c21, c22, c23, c24, c25, c26, c27, c31, c32, c33, c34, c35, c36, c37, c41, c42, c43, c44, c45, c46, c47]
      refine Wp_loop (fun m T D H' => ∃ i M, m = c.packets.length - i ∧ i ≤ c.packets.length ∧ D = [] ∧ H' = H ++ AB.row 0 [.str c.note, v1, v2, v3, v4] true :: AB.row 0 [.str [], .nilslice, .nilslice, .nilslice, .nilslice] true :: M ∧ get T 1 = .ptr H.length 0 0 ∧ get T 2 = .ptr (H.length + 1) 0 0 ∧ get T 60 = v4 ∧ get T 61 = .int .i64 c.packets.length ∧ get T 62 = .int .i64 i ∧ RowM fcE (H.length + 2) M v1 c.faces ∧ RowM nmE (H.length + 2) M v2 c.names ∧ RowM scE (H.length + 2) M v3 c.secrets ∧ RowM pkE (H.length + 2) M v4 c.packets) ?_ c.packets.length _ _ _ ?_
      case refine_2 => exact ⟨0, _, by simp (disch := first | rfl | omega | exact lt_new _ | assumption | decide | (simp [tk_here, tk_app, tk_0, tk_S, gr_here, gr_app, gr_0, gr_S] <;> omega) | fail) only [go_sem, ↓reduceIte, Nat.reduceLT, Nat.reduceEqDiff, Nat.reduceAdd, Nat.reduceMul, Nat.reduceSub, Int.reduceAdd, Int.reduceSub, Nat.reduceLeDiff, Int.reduceLT, Int.reduceLE, Int.reduceEq, Int.reduceNeg, Int.reduceToNat], by omega, rfl, rfl, by simp [go_sem, t1, t2], by simp [go_sem, t1, t2], by simp [go_sem], by simp [go_sem], by simp [go_sem], q1, q2, q3, r4⟩
      rintro m T D H' ⟨i, M, rfl, hi, rfl, rfl, t1, t2, t60, t61, t62, q1, q2, q3, q4⟩
      by_cases hlt : i < c.packets.length
      · have hlt' : (i : Int) < c.packets.length := by omega
        rcases RowM.two q4 with ⟨_, hnil⟩ | ⟨j, g, hv, hj, hr⟩
        · rw [hnil] at hlt; cases hlt
        have hv' : v4 = .slice (H.length + (j + 1 + 1)) g 0 c.packets.length 5 .full := hv
        have p1 : partV Try.prog 56 (flatE pkE c.packets) (i * 5) = some (.agg (pkE.f (pkE.at c.packets i))) := ld_pkE (H := H) hlt
        have ec := e118 (b := (pkE.at c.packets i).dataN) (ha3 _ (pkE.at_mem hlt))
        have hfs : setAt (flatE pkE c.packets) (i * 5 + 3) [slV (pkE.at c.packets i).dataN byE (pkE.at c.packets i).data] = flatE pkE c.packets := flatE_same (E := pkE) hlt (by decide) rfl
        have hfl : (flatE pkE c.packets).length = c.packets.length * 5 := flatE_len
        have hle : i * 5 + 3 + 1 ≤ c.packets.length * 5 := by omega
        have hse := (RowM.get hr).2
        subst hv'
        simp (disch := first | rfl | omega | exact lt_new _ | assumption | decide | (simp [tk_here, tk_app, tk_0, tk_S, gr_here, gr_app, gr_0, gr_S] <;> omega) | fail) only [r74_0, r74_1, r74_2, r74_3, r74_4, r74_5, r74_6, r74_7, l74_8, r74_9, r74_10, r74_11, r74_12, r74_13, r74_14, l74_15, r74_16, r74_17, r74_18, r74_19, r74_20, r74_21, l74_22, r74_23, c74, rs74, gc74, go_sem, ↓reduceIte, Nat.reduceLT, Nat.reduceEqDiff, Nat.reduceAdd, Nat.reduceMul, Nat.reduceSub, Int.reduceAdd, Int.reduceSub, Nat.reduceLeDiff, Int.reduceLT, Int.reduceLE, Int.reduceEq, Int.reduceNeg, Int.reduceToNat, loadV_ptr, storeV_ptr, List.append_assoc, List.length_append, List.length_cons, List.length_nil, List.set_cons_zero, List.set_cons_succ, tk_here, tk_app, gr_here, gr_app, st_here, st_app, gr_l hj, st_l hj, hr, hse, t1, t2, t60, t61, t62, hlt', p1, ec, hfs, hfl, hle]
        exact ⟨_, by omega, i + 1, M ++ [_], rfl, hlt, rfl, rfl, RowM.app q1 _, RowM.app q2 _, RowM.app q3 _, RowM.app q4 _⟩
      · obtain rfl : i = c.packets.length := by omega
        have t0 := Int.lt_irrefl
        simp (disch := first | rfl | omega | exact lt_new _ | assumption | decide | (simp [tk_here, tk_app, tk_0, tk_S, gr_here, gr_app, gr_0, gr_S] <;> omega) | fail) only [r74_0, r74_1, r74_2, r74_3, r74_4, r74_5, r74_6, r74_7, l74_8, r74_9, r74_10, r74_11, r74_12, r74_13, r74_14, l74_15, r74_16, r74_17, r74_18, r74_19, r74_20, r74_21, l74_22, r74_23, c74, rs74, gc74, go_sem, ↓reduceIte, Nat.reduceLT, Nat.reduceEqDiff, Nat.reduceAdd, Nat.reduceMul, Nat.reduceSub, Int.reduceAdd, Int.reduceSub, Nat.reduceLeDiff, Int.reduceLT, Int.reduceLE, Int.reduceEq, Int.reduceNeg, Int.reduceToNat, loadV_ptr, storeV_ptr, List.append_assoc, List.length_append, List.length_cons, List.length_nil, List.set_cons_zero, List.set_cons_succ, tk_here, tk_app, gr_here, gr_app, st_here, st_app, t1, t2, t60, t61, t62, t0, c11, c12, c13, c14, c15, c16, c17, c21, c22, c23, c24, c25, c26, c27, c31, c32, c33, c34, c35, c36, c37, c41, c42, c43, c44, c45, c46, c47]
        exact ⟨_, _, _, _, _, rfl, RowM.pre [_, _] q1, RowM.pre [_, _] q2, RowM.pre [_, _] q3, RowM.pre [_, _] q4⟩
end Go.Proofs.Ytejkgnmjdaohdaa
/-
  Which packets are chosen, walked. No statement of the seat stands here.
-/
namespace Go.Proofs.Ytejkgnmjdaohdaa
open Go Go.An
set_option maxRecDepth 4000
set_option linter.unusedSimpArgs false
set_option linter.unusedVariables false

def CpEq (c d : Cp) : Prop := c.note = d.note ∧ c.faces = d.faces ∧ c.names = d.names ∧ c.secrets = d.secrets ∧ c.packets = d.packets
def keepP (P : Nat → Pk → Bool) (l : List Pk) : Nat → List Pk
  | 0 => []
  | k + 1 => keepP P l k ++ if P k (pkE.at l k) = true then [pkE.at l k] else []
theorem keepP_len (P : Nat → Pk → Bool) (l : List Pk) : ∀ k, (keepP P l k).length ≤ k
  | 0 => Nat.le_refl 0
  | k + 1 => by
    have := keepP_len P l k
    unfold keepP
    split <;> simp <;> omega
theorem fn77 (c : Cp) (hs : CpS c) (P : Nat → Pk → Bool) (f : Nat) (ca cb : List V) (hk : ∀ v, demK f v = v.dem) (hf : ∀ k < c.packets.length, ∀ H, callL Try.prog pr f (ca ++ [.int .i64 k, .agg (pkE.f (pkE.at c.packets k))] ++ cb) H = some (.bool (P k (pkE.at c.packets k)), H)) (H : Hp) : ∃ d, callL Try.prog pr 77 [.agg (cpE.f c), .fn f ca cb] H = some (.agg (cpE.f d), H) ∧ CpEq d {c with packets := keepP P c.packets c.packets.length} := by
  suffices h : ∃ r, callL Try.prog pr 77 [.agg (cpE.f c), .fn f ca cb] H = some r ∧ ∃ d, r = (.agg (cpE.f d), H) ∧ CpEq d {c with packets := keepP P c.packets c.packets.length} by
    obtain ⟨_, h1, d, rfl, h2⟩ := h; exact ⟨d, h1, h2⟩
  refine ex77 (Nat.le_of_ble_eq_true rfl) ?_
  have hc0 : cpE.f c = [.str c.note, slV c.facesN fcE c.faces, slV c.namesN nmE c.names, slV c.secretsN scE c.secrets, slV c.packetsN pkE c.packets] := rfl
  obtain ⟨v1, v2, v3, v4, L, e, q1, q2, q3, q4⟩ := fn74 c hs (H ++ .row 0 (cpE.f c) true :: .row 0 [.str [], .nilslice, .nilslice, .nilslice, .nilslice] true :: [])
  rw [show (H ++ AB.row 0 (cpE.f c) true :: .row 0 [.str [], .nilslice, .nilslice, .nilslice, .nilslice] true :: []).length = H.length + 2 by simp] at q1 q2 q3 q4
  obtain ⟨c11, c12, c13, c14, c15, c16, c17⟩ := q1.cell
  obtain ⟨c21, c22, c23, c24, c25, c26, c27⟩ := q2.cell
  obtain ⟨c31, c32, c33, c34, c35, c36, c37⟩ := q3.cell
  obtain ⟨c41, c42, c43, c44, c45, c46, c47⟩ := q4.cell
  have n4 := fun H' => q4.len (P := Try.prog) (t := 29) (z := 5) (by kernel_rfl) H'
  rw [hc0] at e
  simp (disch := first | rfl | omega | exact lt_new _ | assumption | decide | (simp [tk_here, tk_app, tk_0, tk_S, gr_here, gr_app, gr_0, gr_S] <;> omega) | fail) only [r77_0, r77_1, r77_2, r77_3, r77_4, r77_5, r77_6, r77_7, r77_8, r77_10, r77_11, c77, rs77, gc77, go_sem, ↓reduceIte, Nat.reduceLT, Nat.reduceEqDiff, Nat.reduceAdd, Nat.reduceMul, Nat.reduceSub, Int.reduceAdd, Int.reduceSub, Nat.reduceLeDiff, Int.reduceLT, Int.reduceLE, Int.reduceEq, Int.reduceNeg, Int.reduceToNat, loadV_ptr, storeV_ptr, List.append_assoc, List.length_append, List.length_cons, List.length_nil, List.set_cons_zero, List.set_cons_succ, tk_here, tk_app, gr_here, gr_app, st_here, st_app, hc0, e, n4, c11, c12, c13, c14, c15, c16, c17, c21, c22, c23, c24, c25, c26, c27, c31, c32, c33, c34, c35, c36, c37, c41, c42, c43, c44, c45, c46, c47]
  refine Wp_loop (fun m T D H' => ∃ k G, m = c.packets.length - k ∧ k ≤ c.packets.length ∧ D = [] ∧ H' = H ++ AB.row 0 [.str c.note, slV c.facesN fcE c.faces, slV c.namesN nmE c.names, slV c.secretsN scE c.secrets, slV c.packetsN pkE c.packets] true :: AB.row 0 [.str [], .nilslice, .nilslice, .nilslice, .nilslice] true :: (L ++ AB.row 0 [.str c.note, v1, v2, v3, v4] true :: .tok ((keepP P c.packets k).length * 5) :: G) ∧ get T 1 = .fn f ca cb ∧ get T 4 = .ptr (H.length + 1) 0 0 ∧ get T 5 = .ptr (H.length + (L.length + 1 + 1)) 0 0 ∧ get T 6 = osV (H.length + (L.length + 1 + 1 + 1)) pkE (keepP P c.packets k) ∧ get T 12 = v4 ∧ get T 13 = .int .i64 c.packets.length ∧ get T 14 = .int .i64 k) ?_ c.packets.length _ _ _ ?_
  case refine_2 => exact ⟨0, [], by simp (disch := first | rfl | omega | exact lt_new _ | assumption | decide | (simp [tk_here, tk_app, tk_0, tk_S, gr_here, gr_app, gr_0, gr_S] <;> omega) | fail) only [go_sem, ↓reduceIte, Nat.reduceLT, Nat.reduceEqDiff, Nat.reduceAdd, Nat.reduceMul, Nat.reduceSub, Int.reduceAdd, Int.reduceSub, Nat.reduceLeDiff, Int.reduceLT, Int.reduceLE, Int.reduceEq, Int.reduceNeg, Int.reduceToNat]; simp [keepP, osV_nil]⟩
  rintro m T D H' ⟨k, G, rfl, hk', rfl, rfl, t1, t4, t5, t6, t12, t13, t14⟩
  have hkl := keepP_len P c.packets k
  have hs4 := hs.1.2.2.2
  by_cases hlt : k < c.packets.length
  · have hlt' : (k : Int) < c.packets.length := by omega
    rcases RowM.two q4 with ⟨_, hnil⟩ | ⟨j, g, hv, hj, hr⟩
    · rw [hnil] at hlt; cases hlt
    have hv' : v4 = .slice (H.length + (j + 1 + 1)) g 0 c.packets.length 5 .full := hv
    have p1 : partV Try.prog 56 (flatE pkE c.packets) (k * 5) = some (.agg (pkE.f (pkE.at c.packets k))) := ld_pkE (H := H) hlt
    have hfk := hf k hlt
    simp only [List.append_assoc, List.cons_append, List.nil_append] at hfk
    have hkn : keepP P c.packets (k + 1) = keepP P c.packets k ++ if P k (pkE.at c.packets k) = true then [pkE.at c.packets k] else [] := rfl
    subst hv'
    by_cases hq : P k (pkE.at c.packets k) = true
    · rw [if_pos hq] at hkn
      simp (disch := first | rfl | omega | exact lt_new _ | assumption | decide | (simp [tk_here, tk_app, tk_0, tk_S, gr_here, gr_app, gr_0, gr_S] <;> omega) | fail) only [r77_0, r77_1, r77_2, r77_3, r77_4, r77_5, r77_6, r77_7, r77_8, l77_9, r77_10, r77_11, c77, rs77, gc77, loadV_ptr, storeV_ptr, List.append_assoc, List.length_append, List.length_cons, List.length_nil, List.set_cons_zero, List.set_cons_succ, tk_here, tk_app, gr_here, gr_app, st_here, st_app, gr_l hj, hr, t1, t4, t5, t6, t12, t13, t14, hlt', p1, hk, hfk, hq, go_sem, ↓reduceIte, Nat.reduceLT, Nat.reduceEqDiff, Nat.reduceAdd, Nat.reduceMul, Nat.reduceSub, Int.reduceAdd, Int.reduceSub, Nat.reduceLeDiff, Int.reduceLT, Int.reduceLE, Int.reduceEq, Int.reduceNeg, Int.reduceToNat]
      repeat' ((first | refine guardB_dec (fun hy => ?_) (fun hy => ?_) | refine guardB_bool (fun hy => ?_) (fun hy => ?_) | refine guardQ_ite (fun hy => ?_) (fun hy => ?_) | refine brQ_dec (fun hy => ?_) (fun hy => ?_) | refine brQ_bool (fun hy => ?_) (fun hy => ?_)) <;> (try simp only [Bool.not_eq_true', Bool.not_eq_false', Bool.and_eq_true, Bool.or_eq_false_iff, decide_eq_true_eq, decide_eq_false_iff_not] at hy) <;> simp (disch := first | rfl | omega | exact lt_new _ | assumption | decide | (simp [tk_here, tk_app, tk_0, tk_S, gr_here, gr_app, gr_0, gr_S] <;> omega) | fail) only [r77_0, r77_1, r77_2, r77_3, r77_4, r77_5, r77_6, r77_7, r77_8, l77_9, r77_10, r77_11, c77, rs77, gc77, loadV_ptr, storeV_ptr, List.append_assoc, List.length_append, List.length_cons, List.length_nil, List.set_cons_zero, List.set_cons_succ, tk_here, tk_app, gr_here, gr_app, st_here, st_app, gr_l hj, hr, t1, t4, t5, t6, t12, t13, t14, hlt', p1, hk, hfk, hq, go_sem, ↓reduceIte, Nat.reduceLT, Nat.reduceEqDiff, Nat.reduceAdd, Nat.reduceMul, Nat.reduceSub, Int.reduceAdd, Int.reduceSub, Nat.reduceLeDiff, Int.reduceLT, Int.reduceLE, Int.reduceEq, Int.reduceNeg, Int.reduceToNat, hy])
      exact ⟨_, by omega, k + 1, G ++ [AB.row 0 (pkE.f (pkE.at c.packets k)) true], rfl, hlt, by simp [hkn, Nat.add_mul], by rw [hkn], rfl⟩
    · rw [if_neg hq] at hkn
      rw [Bool.not_eq_true] at hq
      simp (disch := first | rfl | omega | exact lt_new _ | assumption | decide | (simp [tk_here, tk_app, tk_0, tk_S, gr_here, gr_app, gr_0, gr_S] <;> omega) | fail) only [r77_0, r77_1, r77_2, r77_3, r77_4, r77_5, r77_6, r77_7, r77_8, l77_9, r77_10, r77_11, c77, rs77, gc77, loadV_ptr, storeV_ptr, List.append_assoc, List.length_append, List.length_cons, List.length_nil, List.set_cons_zero, List.set_cons_succ, tk_here, tk_app, gr_here, gr_app, st_here, st_app, gr_l hj, hr, t1, t4, t5, t6, t12, t13, t14, hlt', p1, hk, hfk, hq, go_sem, ↓reduceIte, Nat.reduceLT, Nat.reduceEqDiff, Nat.reduceAdd, Nat.reduceMul, Nat.reduceSub, Int.reduceAdd, Int.reduceSub, Nat.reduceLeDiff, Int.reduceLT, Int.reduceLE, Int.reduceEq, Int.reduceNeg, Int.reduceToNat]
      repeat' ((first | refine guardB_dec (fun hy => ?_) (fun hy => ?_) | refine guardB_bool (fun hy => ?_) (fun hy => ?_) | refine guardQ_ite (fun hy => ?_) (fun hy => ?_) | refine brQ_dec (fun hy => ?_) (fun hy => ?_) | refine brQ_bool (fun hy => ?_) (fun hy => ?_)) <;> (try simp only [Bool.not_eq_true', Bool.not_eq_false', Bool.and_eq_true, Bool.or_eq_false_iff, decide_eq_true_eq, decide_eq_false_iff_not] at hy) <;> simp (disch := first | rfl | omega | exact lt_new _ | assumption | decide | (simp [tk_here, tk_app, tk_0, tk_S, gr_here, gr_app, gr_0, gr_S] <;> omega) | fail) only [r77_0, r77_1, r77_2, r77_3, r77_4, r77_5, r77_6, r77_7, r77_8, l77_9, r77_10, r77_11, c77, rs77, gc77, loadV_ptr, storeV_ptr, List.append_assoc, List.length_append, List.length_cons, List.length_nil, List.set_cons_zero, List.set_cons_succ, tk_here, tk_app, gr_here, gr_app, st_here, st_app, gr_l hj, hr, t1, t4, t5, t6, t12, t13, t14, hlt', p1, hk, hfk, hq, go_sem, ↓reduceIte, Nat.reduceLT, Nat.reduceEqDiff, Nat.reduceAdd, Nat.reduceMul, Nat.reduceSub, Int.reduceAdd, Int.reduceSub, Nat.reduceLeDiff, Int.reduceLT, Int.reduceLE, Int.reduceEq, Int.reduceNeg, Int.reduceToNat, hy])
      exact ⟨_, by omega, k + 1, _, rfl, hlt, by rw [hkn, List.append_nil], by rw [hkn, List.append_nil], rfl⟩
  · obtain rfl : k = c.packets.length := by omega
    simp (disch := first | rfl | omega | exact lt_new _ | assumption | decide | (simp [tk_here, tk_app, tk_0, tk_S, gr_here, gr_app, gr_0, gr_S] <;> omega) | fail) only [r77_0, r77_1, r77_2, r77_3, r77_4, r77_5, r77_6, r77_7, r77_8, l77_9, r77_10, r77_11, c77, rs77, gc77, loadV_ptr, storeV_ptr, List.append_assoc, List.length_append, List.length_cons, List.length_nil, List.set_cons_zero, List.set_cons_succ, tk_here, tk_app, gr_here, gr_app, st_here, st_app, t1, t4, t5, t6, t12, t13, t14, Int.lt_irrefl, c11, c12, c13, c14, c15, c16, c17, c21, c22, c23, c24, c25, c26, c27, c31, c32, c33, c34, c35, c36, c37, c41, c42, c43, c44, c45, c46, c47, go_sem, ↓reduceIte, Nat.reduceLT, Nat.reduceEqDiff, Nat.reduceAdd, Nat.reduceMul, Nat.reduceSub, Int.reduceAdd, Int.reduceSub, Nat.reduceLeDiff, Int.reduceLT, Int.reduceLE, Int.reduceEq, Int.reduceNeg, Int.reduceToNat]
    repeat' ((first | refine guardB_dec (fun hy => ?_) (fun hy => ?_) | refine guardB_bool (fun hy => ?_) (fun hy => ?_) | refine guardQ_ite (fun hy => ?_) (fun hy => ?_) | refine brQ_dec (fun hy => ?_) (fun hy => ?_) | refine brQ_bool (fun hy => ?_) (fun hy => ?_)) <;> (try simp only [Bool.not_eq_true', Bool.not_eq_false', Bool.and_eq_true, Bool.or_eq_false_iff, decide_eq_true_eq, decide_eq_false_iff_not] at hy) <;> simp (disch := first | rfl | omega | exact lt_new _ | assumption | decide | (simp [tk_here, tk_app, tk_0, tk_S, gr_here, gr_app, gr_0, gr_S] <;> omega) | fail) only [r77_0, r77_1, r77_2, r77_3, r77_4, r77_5, r77_6, r77_7, r77_8, l77_9, r77_10, r77_11, c77, rs77, gc77, loadV_ptr, storeV_ptr, List.append_assoc, List.length_append, List.length_cons, List.length_nil, List.set_cons_zero, List.set_cons_succ, tk_here, tk_app, gr_here, gr_app, st_here, st_app, t1, t4, t5, t6, t12, t13, t14, Int.lt_irrefl, c11, c12, c13, c14, c15, c16, c17, c21, c22, c23, c24, c25, c26, c27, c31, c32, c33, c34, c35, c36, c37, c41, c42, c43, c44, c45, c46, c47, go_sem, ↓reduceIte, Nat.reduceLT, Nat.reduceEqDiff, Nat.reduceAdd, Nat.reduceMul, Nat.reduceSub, Int.reduceAdd, Int.reduceSub, Nat.reduceLeDiff, Int.reduceLT, Int.reduceLE, Int.reduceEq, Int.reduceNeg, Int.reduceToNat, hy])
    obtain ⟨b1, i1⟩ := RowM.inl (f := 6) (A := H) (m := H.length) (RowM.pre [AB.row 0 [.str c.note, slV c.facesN fcE c.faces, slV c.namesN nmE c.names, slV c.secretsN scE c.secrets, slV c.packetsN pkE c.packets] true, AB.row 0 [.str c.note, v1, v2, v3, osV (H.length + (L.length + 1 + 1 + 1)) pkE (keepP P c.packets c.packets.length)] true] (q1.app (AB.row 0 [.str c.note, v1, v2, v3, osV (H.length + (L.length + 1 + 1 + 1)) pkE (keepP P c.packets c.packets.length)] true :: .tok ((keepP P c.packets c.packets.length).length * 5) :: G))) rfl (Nat.le_refl _)
    simp only [List.cons_append, List.nil_append] at i1
    obtain ⟨b2, i2⟩ := RowM.inl (f := 6) (A := H) (m := H.length) (RowM.pre [AB.row 0 [.str c.note, slV c.facesN fcE c.faces, slV c.namesN nmE c.names, slV c.secretsN scE c.secrets, slV c.packetsN pkE c.packets] true, AB.row 0 [.str c.note, v1, v2, v3, osV (H.length + (L.length + 1 + 1 + 1)) pkE (keepP P c.packets c.packets.length)] true] (q2.app (AB.row 0 [.str c.note, v1, v2, v3, osV (H.length + (L.length + 1 + 1 + 1)) pkE (keepP P c.packets c.packets.length)] true :: .tok ((keepP P c.packets c.packets.length).length * 5) :: G))) rfl (Nat.le_refl _)
    simp only [List.cons_append, List.nil_append] at i2
    obtain ⟨b3, i3⟩ := RowM.inl (f := 6) (A := H) (m := H.length) (RowM.pre [AB.row 0 [.str c.note, slV c.facesN fcE c.faces, slV c.namesN nmE c.names, slV c.secretsN scE c.secrets, slV c.packetsN pkE c.packets] true, AB.row 0 [.str c.note, v1, v2, v3, osV (H.length + (L.length + 1 + 1 + 1)) pkE (keepP P c.packets c.packets.length)] true] (q3.app (AB.row 0 [.str c.note, v1, v2, v3, osV (H.length + (L.length + 1 + 1 + 1)) pkE (keepP P c.packets c.packets.length)] true :: .tok ((keepP P c.packets c.packets.length).length * 5) :: G))) rfl (Nat.le_refl _)
    simp only [List.cons_append, List.nil_append] at i3
    refine ⟨⟨c.note, b1, c.faces, b2, c.names, b3, c.secrets, true, keepP P c.packets c.packets.length⟩, finQ_app ?_, rfl, rfl, rfl, rfl, rfl⟩
    simp (disch := first | rfl | omega | exact lt_new _ | assumption | decide | (simp [tk_here, tk_app, tk_0, tk_S, gr_here, gr_app, gr_0, gr_S] <;> omega) | fail) only [go_sem, ↓reduceIte, Nat.reduceLT, Nat.reduceEqDiff, Nat.reduceAdd, Nat.reduceMul, Nat.reduceSub, Int.reduceAdd, Int.reduceSub, Nat.reduceLeDiff, Int.reduceLT, Int.reduceLE, Int.reduceEq, Int.reduceNeg, Int.reduceToNat, i1, i2, i3, cpE_f]
theorem val_S {c : Cp} (hv : valE c = 0) : CpS c := by
  obtain ⟨hpf, ⟨h1, h2, h3, h4⟩, _⟩ := val_pk hv
  have hw : (∀ n ∈ c.names, nmB n = true) ∧ ∀ s ∈ c.secrets, scB s = true := by
    unfold valE at hv
    split at hv
    · cases hv
    · split at hv
      · cases hv
      · rename_i h2
        unfold wrongB at h2
        simp only [Bool.or_eq_true, decide_eq_true_eq, not_or, List.any_eq_true, not_exists, not_and, Bool.not_eq_true', Bool.not_eq_false] at h2
        exact ⟨fun n hn => h2.1.1.2 n hn, fun n hn => h2.1.2 n hn⟩
  refine ⟨by omega, fun x hx => ?_, fun x hx => ?_, fun x hx => ?_⟩
  · have := hw.1 x hx
    unfold nmB at this
    simp only [Bool.and_eq_true, decide_eq_true_eq] at this
    omega
  · have := hw.2 x hx
    unfold scB at this
    simp only [Bool.and_eq_true, decide_eq_true_eq] at this
    omega
  · have := pf_pk (hpf x hx)
    omega
def rgB (a b : Int) (k : Nat) (p : Pk) : Bool := decide (a ≤ p.time) && decide (p.time < b)
def noCp : Cp := ⟨[], true, [], true, [], true, [], true, []⟩
theorem noCp_f : cpE.f noCp = [.str [], .nilslice, .nilslice, .nilslice, .nilslice] := by
  rw [cpE_f]
  simp only [noCp, slV_nil]
theorem CpEq.rfl' (c : Cp) : CpEq c c := ⟨rfl, rfl, rfl, rfl, rfl⟩
def rngF (c : Cp) (a b : Int) : Cp × Int := if valE c = 0 then ({c with packets := keepP (rgB a b) c.packets c.packets.length}, 0) else (noCp, valE c)
theorem fn78 (k a b : Int) (p : Pk) (H : Hp) : callL Try.prog pr 78 [.int .i64 k, .agg (pkE.f p), .ipt [.int .i64 a] 0, .ipt [.int .i64 b] 0] H = some (.bool (rgB a b k.toNat p), H) := by
  refine run78 (Nat.le_of_ble_eq_true rfl) ?_
  unfold rgB
  simp (disch := first | rfl | omega | exact lt_new _ | assumption | decide | (simp [tk_here, tk_app, tk_0, tk_S, gr_here, gr_app, gr_0, gr_S] <;> omega) | fail) only [r78_0, r78_1, c78, rs78, gc78, loadV_ptr, storeV_ptr, List.append_assoc, List.length_append, List.length_cons, List.length_nil, List.set_cons_zero, List.set_cons_succ, tk_here, tk_app, gr_here, gr_app, st_here, st_app, go_sem, ↓reduceIte, Nat.reduceLT, Nat.reduceEqDiff, Nat.reduceAdd, Nat.reduceMul, Nat.reduceSub, Int.reduceAdd, Int.reduceSub, Nat.reduceLeDiff, Int.reduceLT, Int.reduceLE, Int.reduceEq, Int.reduceNeg, Int.reduceToNat]
  repeat' ((first | refine guardB_dec (fun hy => ?_) (fun hy => ?_) | refine guardB_bool (fun hy => ?_) (fun hy => ?_) | refine guardQ_ite (fun hy => ?_) (fun hy => ?_) | refine brQ_dec (fun hy => ?_) (fun hy => ?_) | refine brQ_bool (fun hy => ?_) (fun hy => ?_)) <;> (try simp only [Bool.not_eq_true', Bool.not_eq_false', Bool.and_eq_true, Bool.or_eq_false_iff, decide_eq_true_eq, decide_eq_false_iff_not] at hy) <;> simp (disch := first | rfl | omega | exact lt_new _ | assumption | decide | (simp [tk_here, tk_app, tk_0, tk_S, gr_here, gr_app, gr_0, gr_S] <;> omega) | fail) only [r78_0, r78_1, c78, rs78, gc78, loadV_ptr, storeV_ptr, List.append_assoc, List.length_append, List.length_cons, List.length_nil, List.set_cons_zero, List.set_cons_succ, tk_here, tk_app, gr_here, gr_app, st_here, st_app, go_sem, ↓reduceIte, Nat.reduceLT, Nat.reduceEqDiff, Nat.reduceAdd, Nat.reduceMul, Nat.reduceSub, Int.reduceAdd, Int.reduceSub, Nat.reduceLeDiff, Int.reduceLT, Int.reduceLE, Int.reduceEq, Int.reduceNeg, Int.reduceToNat, hy])
  all_goals (try ((first | refine finQ_same ?_ | refine finQ_app ?_ | (rw [List.append_assoc]; refine finQ_app ?_)) <;> simp (disch := first | rfl | omega | exact lt_new _ | assumption | decide | (simp [tk_here, tk_app, tk_0, tk_S, gr_here, gr_app, gr_0, gr_S] <;> omega) | fail) only [go_sem, ↓reduceIte, Nat.reduceLT, Nat.reduceEqDiff, Nat.reduceAdd, Nat.reduceMul, Nat.reduceSub, Int.reduceAdd, Int.reduceSub, Nat.reduceLeDiff, Int.reduceLT, Int.reduceLE, Int.reduceEq, Int.reduceNeg, Int.reduceToNat, List.append_assoc, List.cons_append, List.nil_append, *]))
  all_goals (try first | rfl | (simp [*]; done) | grind)
theorem fn28 (c : Cp) (hc : CpOk c) (a b : Int) (H : Hp) : ∃ d, callL Try.prog pr 28 [.agg (cpE.f c), .int .i64 a, .int .i64 b] H = some (.tup [.agg (cpE.f d), .int .i64 (rngF c a b).2], H) ∧ CpEq d (rngF c a b).1 := by
  have h54 := ask1 c hc
  unfold rngF
  by_cases hv : valE c = 0
  case neg =>
    rw [if_neg hv]
    refine ⟨noCp, ?_, CpEq.rfl' _⟩
    refine run28 (Nat.le_of_ble_eq_true rfl) ?_
    rw [noCp_f]
    simp (disch := first | rfl | omega | exact lt_new _ | assumption | decide | (simp [tk_here, tk_app, tk_0, tk_S, gr_here, gr_app, gr_0, gr_S] <;> omega) | fail) only [r28_0, r28_1, r28_2, r28_3, r28_4, c28, rs28, gc28, loadV_ptr, storeV_ptr, List.append_assoc, List.length_append, List.length_cons, List.length_nil, List.set_cons_zero, List.set_cons_succ, tk_here, tk_app, gr_here, gr_app, st_here, st_app, h54, hv, go_sem, ↓reduceIte, Nat.reduceLT, Nat.reduceEqDiff, Nat.reduceAdd, Nat.reduceMul, Nat.reduceSub, Int.reduceAdd, Int.reduceSub, Nat.reduceLeDiff, Int.reduceLT, Int.reduceLE, Int.reduceEq, Int.reduceNeg, Int.reduceToNat]
    repeat' ((first | refine guardB_dec (fun hy => ?_) (fun hy => ?_) | refine guardB_bool (fun hy => ?_) (fun hy => ?_) | refine guardQ_ite (fun hy => ?_) (fun hy => ?_) | refine brQ_dec (fun hy => ?_) (fun hy => ?_) | refine brQ_bool (fun hy => ?_) (fun hy => ?_)) <;> (try simp only [Bool.not_eq_true', Bool.not_eq_false', Bool.and_eq_true, Bool.or_eq_false_iff, decide_eq_true_eq, decide_eq_false_iff_not] at hy) <;> simp (disch := first | rfl | omega | exact lt_new _ | assumption | decide | (simp [tk_here, tk_app, tk_0, tk_S, gr_here, gr_app, gr_0, gr_S] <;> omega) | fail) only [r28_0, r28_1, r28_2, r28_3, r28_4, c28, rs28, gc28, loadV_ptr, storeV_ptr, List.append_assoc, List.length_append, List.length_cons, List.length_nil, List.set_cons_zero, List.set_cons_succ, tk_here, tk_app, gr_here, gr_app, st_here, st_app, h54, hv, go_sem, ↓reduceIte, Nat.reduceLT, Nat.reduceEqDiff, Nat.reduceAdd, Nat.reduceMul, Nat.reduceSub, Int.reduceAdd, Int.reduceSub, Nat.reduceLeDiff, Int.reduceLT, Int.reduceLE, Int.reduceEq, Int.reduceNeg, Int.reduceToNat, hy])
    all_goals (try ((first | refine finQ_same ?_ | refine finQ_app ?_ | (rw [List.append_assoc]; refine finQ_app ?_)) <;> simp (disch := first | rfl | omega | exact lt_new _ | assumption | decide | (simp [tk_here, tk_app, tk_0, tk_S, gr_here, gr_app, gr_0, gr_S] <;> omega) | fail) only [go_sem, ↓reduceIte, Nat.reduceLT, Nat.reduceEqDiff, Nat.reduceAdd, Nat.reduceMul, Nat.reduceSub, Int.reduceAdd, Int.reduceSub, Nat.reduceLeDiff, Int.reduceLT, Int.reduceLE, Int.reduceEq, Int.reduceNeg, Int.reduceToNat, List.append_assoc, List.cons_append, List.nil_append, *]))
    all_goals (try first | rfl | (simp [*]; done) | grind)
  rw [if_pos hv]
  obtain ⟨d, hd⟩ : ∃ d : Hp → Cp, ∀ H, callL Try.prog pr 77 [.agg (cpE.f c), .fn 78 [] [.ipt [.int .i64 a] 0, .ipt [.int .i64 b] 0]] H = some (.agg (cpE.f (d H)), H) ∧ CpEq (d H) {c with packets := keepP (rgB a b) c.packets c.packets.length} := ⟨fun H => (fn77 c (val_S hv) (rgB a b) 78 [] [.ipt [.int .i64 a] 0, .ipt [.int .i64 b] 0] kp78 (fun k hk H => fn78 k a b _ H) H).choose, fun H => (fn77 c (val_S hv) (rgB a b) 78 [] [.ipt [.int .i64 a] 0, .ipt [.int .i64 b] 0] kp78 (fun k hk H => fn78 k a b _ H) H).choose_spec⟩
  have h77 := fun H => (hd H).1
  suffices h : ∃ r, callL Try.prog pr 28 [.agg (cpE.f c), .int .i64 a, .int .i64 b] H = some r ∧ ∃ d, r = (.tup [.agg (cpE.f d), .int .i64 0], H) ∧ CpEq d {c with packets := keepP (rgB a b) c.packets c.packets.length} by
    obtain ⟨_, h1, d, rfl, h2⟩ := h; exact ⟨d, h1, h2⟩
  refine ex28 (Nat.le_of_ble_eq_true rfl) ?_
  simp (disch := first | rfl | omega | exact lt_new _ | assumption | decide | (simp [tk_here, tk_app, tk_0, tk_S, gr_here, gr_app, gr_0, gr_S] <;> omega) | fail) only [r28_0, r28_1, r28_2, r28_3, r28_4, c28, rs28, gc28, loadV_ptr, storeV_ptr, List.append_assoc, List.length_append, List.length_cons, List.length_nil, List.set_cons_zero, List.set_cons_succ, tk_here, tk_app, gr_here, gr_app, st_here, st_app, h54, hv, h77, go_sem, ↓reduceIte, Nat.reduceLT, Nat.reduceEqDiff, Nat.reduceAdd, Nat.reduceMul, Nat.reduceSub, Int.reduceAdd, Int.reduceSub, Nat.reduceLeDiff, Int.reduceLT, Int.reduceLE, Int.reduceEq, Int.reduceNeg, Int.reduceToNat]
  repeat' ((first | refine guardB_dec (fun hy => ?_) (fun hy => ?_) | refine guardB_bool (fun hy => ?_) (fun hy => ?_) | refine guardQ_ite (fun hy => ?_) (fun hy => ?_) | refine brQ_dec (fun hy => ?_) (fun hy => ?_) | refine brQ_bool (fun hy => ?_) (fun hy => ?_)) <;> (try simp only [Bool.not_eq_true', Bool.not_eq_false', Bool.and_eq_true, Bool.or_eq_false_iff, decide_eq_true_eq, decide_eq_false_iff_not] at hy) <;> simp (disch := first | rfl | omega | exact lt_new _ | assumption | decide | (simp [tk_here, tk_app, tk_0, tk_S, gr_here, gr_app, gr_0, gr_S] <;> omega) | fail) only [r28_0, r28_1, r28_2, r28_3, r28_4, c28, rs28, gc28, loadV_ptr, storeV_ptr, List.append_assoc, List.length_append, List.length_cons, List.length_nil, List.set_cons_zero, List.set_cons_succ, tk_here, tk_app, gr_here, gr_app, st_here, st_app, h54, hv, h77, go_sem, ↓reduceIte, Nat.reduceLT, Nat.reduceEqDiff, Nat.reduceAdd, Nat.reduceMul, Nat.reduceSub, Int.reduceAdd, Int.reduceSub, Nat.reduceLeDiff, Int.reduceLT, Int.reduceLE, Int.reduceEq, Int.reduceNeg, Int.reduceToNat, hy])
  exact ⟨d (H ++ [AB.row 0 [.str [], .nilslice, .nilslice, .nilslice, .nilslice] true]), finQ_app (by simp (disch := first | rfl | omega | exact lt_new _ | assumption | decide | (simp [tk_here, tk_app, tk_0, tk_S, gr_here, gr_app, gr_0, gr_S] <;> omega) | fail) only [go_sem, ↓reduceIte, Nat.reduceLT, Nat.reduceEqDiff, Nat.reduceAdd, Nat.reduceMul, Nat.reduceSub, Int.reduceAdd, Int.reduceSub, Nat.reduceLeDiff, Int.reduceLT, Int.reduceLE, Int.reduceEq, Int.reduceNeg, Int.reduceToNat]), (hd _).2⟩
theorem fn76 (c : Cp) {b : Bool} {l : List Pk} (H : Hp) : callL Try.prog pr 76 [.agg (cpE.f c), slV b pkE l] H = some (.agg (cpE.f {c with packetsN := b, packets := l}), H) := by
  refine run76 (Nat.le_of_ble_eq_true rfl) ?_
  simp only [cpE_f]
  simp (disch := first | rfl | omega | exact lt_new _ | assumption | decide | (simp [tk_here, tk_app, tk_0, tk_S, gr_here, gr_app, gr_0, gr_S] <;> omega) | fail) only [r76_0, r76_1, r76_2, c76, rs76, gc76, go_sem, ↓reduceIte, Nat.reduceLT, Nat.reduceEqDiff, Nat.reduceAdd, Nat.reduceMul, Nat.reduceSub, Int.reduceAdd, Int.reduceSub, Nat.reduceLeDiff, Int.reduceLT, Int.reduceLE, Int.reduceEq, Int.reduceNeg, Int.reduceToNat, loadV_ptr, storeV_ptr, List.append_assoc, List.length_append, List.length_cons, List.length_nil, List.set_cons_zero, List.set_cons_succ, tk_here, tk_app, gr_here, gr_app, st_here, st_app]
  exact finQ_app (by simp (disch := first | rfl | omega | exact lt_new _ | assumption | decide | (simp [tk_here, tk_app, tk_0, tk_S, gr_here, gr_app, gr_0, gr_S] <;> omega) | fail) only [go_sem, ↓reduceIte, Nat.reduceLT, Nat.reduceEqDiff, Nat.reduceAdd, Nat.reduceMul, Nat.reduceSub, Int.reduceAdd, Int.reduceSub, Nat.reduceLeDiff, Int.reduceLT, Int.reduceLE, Int.reduceEq, Int.reduceNeg, Int.reduceToNat])
set_option maxHeartbeats 4000000 in
theorem fn29 (c : Cp) (hc : CpOk c) (a b : Int) (H : Hp) : ∃ d, callL Try.prog pr 29 [.agg (cpE.f c), .int .i64 a, .int .i64 b] H = some (.tup [.agg (cpE.f d), .int .i64 (rngF c a b).2], H) ∧ CpEq d (rngF c a b).1 := by
  have h63 := fn63 c hc
  unfold rngF
  by_cases hv : valE c = 0
  case neg =>
    rw [if_neg hv]
    refine ⟨noCp, ?_, CpEq.rfl' _⟩
    refine run29 (Nat.le_of_ble_eq_true rfl) ?_
    rw [noCp_f]
    simp (disch := first | rfl | omega | exact lt_new _ | assumption | decide | (simp [tk_here, tk_app, tk_0, tk_S, gr_here, gr_app, gr_0, gr_S] <;> omega) | fail) only [r29_0, r29_1, r29_2, r29_3, r29_4, r29_5, r29_6, r29_7, r29_8, r29_9, r29_11, c29, rs29, gc29, loadV_ptr, storeV_ptr, List.append_assoc, List.length_append, List.length_cons, List.length_nil, List.set_cons_zero, List.set_cons_succ, tk_here, tk_app, gr_here, gr_app, st_here, st_app, h63, hv, go_sem, ↓reduceIte, Nat.reduceLT, Nat.reduceEqDiff, Nat.reduceAdd, Nat.reduceMul, Nat.reduceSub, Int.reduceAdd, Int.reduceSub, Nat.reduceLeDiff, Int.reduceLT, Int.reduceLE, Int.reduceEq, Int.reduceNeg, Int.reduceToNat]
    repeat' ((first | refine guardB_dec (fun hy => ?_) (fun hy => ?_) | refine guardB_bool (fun hy => ?_) (fun hy => ?_) | refine guardQ_ite (fun hy => ?_) (fun hy => ?_) | refine brQ_dec (fun hy => ?_) (fun hy => ?_) | refine brQ_bool (fun hy => ?_) (fun hy => ?_)) <;> (try simp only [Bool.not_eq_true', Bool.not_eq_false', Bool.and_eq_true, Bool.or_eq_false_iff, decide_eq_true_eq, decide_eq_false_iff_not] at hy) <;> simp (disch := first | rfl | omega | exact lt_new _ | assumption | decide | (simp [tk_here, tk_app, tk_0, tk_S, gr_here, gr_app, gr_0, gr_S] <;> omega) | fail) only [r29_0, r29_1, r29_2, r29_3, r29_4, r29_5, r29_6, r29_7, r29_8, r29_9, r29_11, c29, rs29, gc29, loadV_ptr, storeV_ptr, List.append_assoc, List.length_append, List.length_cons, List.length_nil, List.set_cons_zero, List.set_cons_succ, tk_here, tk_app, gr_here, gr_app, st_here, st_app, h63, hv, go_sem, ↓reduceIte, Nat.reduceLT, Nat.reduceEqDiff, Nat.reduceAdd, Nat.reduceMul, Nat.reduceSub, Int.reduceAdd, Int.reduceSub, Nat.reduceLeDiff, Int.reduceLT, Int.reduceLE, Int.reduceEq, Int.reduceNeg, Int.reduceToNat, hy])
    all_goals (try ((first | refine finQ_same ?_ | refine finQ_app ?_ | (rw [List.append_assoc]; refine finQ_app ?_)) <;> simp (disch := first | rfl | omega | exact lt_new _ | assumption | decide | (simp [tk_here, tk_app, tk_0, tk_S, gr_here, gr_app, gr_0, gr_S] <;> omega) | fail) only [go_sem, ↓reduceIte, Nat.reduceLT, Nat.reduceEqDiff, Nat.reduceAdd, Nat.reduceMul, Nat.reduceSub, Int.reduceAdd, Int.reduceSub, Nat.reduceLeDiff, Int.reduceLT, Int.reduceLE, Int.reduceEq, Int.reduceNeg, Int.reduceToNat, List.append_assoc, List.cons_append, List.nil_append, *]))
    all_goals (try first | rfl | (simp [*]; done) | grind)
  rw [if_pos hv]
  refine ⟨{c with packetsN := true, packets := keepP (rgB a b) c.packets c.packets.length}, ?_, rfl, rfl, rfl, rfl, rfl⟩
  refine run29 (Nat.le_of_ble_eq_true rfl) ?_
  have hs4 := (val_S hv).1.2.2.2
  simp (disch := first | rfl | omega | exact lt_new _ | assumption | decide | (simp [tk_here, tk_app, tk_0, tk_S, gr_here, gr_app, gr_0, gr_S] <;> omega) | fail) only [r29_0, r29_1, r29_2, r29_3, r29_4, r29_5, r29_6, r29_7, r29_8, r29_9, r29_11, c29, rs29, gc29, loadV_ptr, storeV_ptr, List.append_assoc, List.length_append, List.length_cons, List.length_nil, List.set_cons_zero, List.set_cons_succ, tk_here, tk_app, gr_here, gr_app, st_here, st_app, h63, hv, go_sem, ↓reduceIte, Nat.reduceLT, Nat.reduceEqDiff, Nat.reduceAdd, Nat.reduceMul, Nat.reduceSub, Int.reduceAdd, Int.reduceSub, Nat.reduceLeDiff, Int.reduceLT, Int.reduceLE, Int.reduceEq, Int.reduceNeg, Int.reduceToNat]
  repeat' ((first | refine guardB_dec (fun hy => ?_) (fun hy => ?_) | refine guardB_bool (fun hy => ?_) (fun hy => ?_) | refine guardQ_ite (fun hy => ?_) (fun hy => ?_) | refine brQ_dec (fun hy => ?_) (fun hy => ?_) | refine brQ_bool (fun hy => ?_) (fun hy => ?_)) <;> (try simp only [Bool.not_eq_true', Bool.not_eq_false', Bool.and_eq_true, Bool.or_eq_false_iff, decide_eq_true_eq, decide_eq_false_iff_not] at hy) <;> simp (disch := first | rfl | omega | exact lt_new _ | assumption | decide | (simp [tk_here, tk_app, tk_0, tk_S, gr_here, gr_app, gr_0, gr_S] <;> omega) | fail) only [r29_0, r29_1, r29_2, r29_3, r29_4, r29_5, r29_6, r29_7, r29_8, r29_9, r29_11, c29, rs29, gc29, loadV_ptr, storeV_ptr, List.append_assoc, List.length_append, List.length_cons, List.length_nil, List.set_cons_zero, List.set_cons_succ, tk_here, tk_app, gr_here, gr_app, st_here, st_app, h63, hv, go_sem, ↓reduceIte, Nat.reduceLT, Nat.reduceEqDiff, Nat.reduceAdd, Nat.reduceMul, Nat.reduceSub, Int.reduceAdd, Int.reduceSub, Nat.reduceLeDiff, Int.reduceLT, Int.reduceLE, Int.reduceEq, Int.reduceNeg, Int.reduceToNat, hy])
  refine Wp_loop (fun m T D H' => ∃ k G, m = c.packets.length - k ∧ k ≤ c.packets.length ∧ D = [] ∧ H' = H ++ AB.row 0 [.str [], .nilslice, .nilslice, .nilslice, .nilslice] true :: .tok ((keepP (rgB a b) c.packets k).length * 5) :: G ∧ get T 1 = .int .i64 a ∧ get T 2 = .int .i64 b ∧ get T 3 = .ipt (cpE.f c) 0 ∧ get T 6 = .ptr H.length 0 0 ∧ get T 9 = osV (H.length + 1) pkE (keepP (rgB a b) c.packets k) ∧ get T 10 = .int .i64 k) ?_ c.packets.length _ _ _ ?_
  case refine_2 => exact ⟨0, [], by simp (disch := first | rfl | omega | exact lt_new _ | assumption | decide | (simp [tk_here, tk_app, tk_0, tk_S, gr_here, gr_app, gr_0, gr_S] <;> omega) | fail) only [go_sem, ↓reduceIte, Nat.reduceLT, Nat.reduceEqDiff, Nat.reduceAdd, Nat.reduceMul, Nat.reduceSub, Int.reduceAdd, Int.reduceSub, Nat.reduceLeDiff, Int.reduceLT, Int.reduceLE, Int.reduceEq, Int.reduceNeg, Int.reduceToNat]; simp [keepP, osV_nil]⟩
  rintro m T D H' ⟨k, G, rfl, hk, rfl, rfl, t1, t2, t3, t6, t9, t10⟩
  have hkl := keepP_len (rgB a b) c.packets k
  by_cases hlt : k < c.packets.length
  · have hlt' : (k : Int) < c.packets.length := by omega
    have hkn : keepP (rgB a b) c.packets (k + 1) = keepP (rgB a b) c.packets k ++ if rgB a b k (pkE.at c.packets k) = true then [pkE.at c.packets k] else [] := rfl
    by_cases h1 : a ≤ (pkE.at c.packets k).time <;> by_cases h2 : (pkE.at c.packets k).time < b
    · rw [if_pos (by simp [rgB, h1, h2])] at hkn
      simp (disch := first | rfl | omega | exact lt_new _ | assumption | decide | (simp [tk_here, tk_app, tk_0, tk_S, gr_here, gr_app, gr_0, gr_S] <;> omega) | fail) only [r29_0, r29_1, r29_2, r29_3, r29_4, r29_5, r29_6, r29_7, r29_8, r29_9, l29_10, r29_11, c29, rs29, gc29, loadV_ptr, storeV_ptr, List.append_assoc, List.length_append, List.length_cons, List.length_nil, List.set_cons_zero, List.set_cons_succ, tk_here, tk_app, gr_here, gr_app, st_here, st_app, t1, t2, t3, t6, t9, t10, hlt', h1, h2, go_sem, ↓reduceIte, Nat.reduceLT, Nat.reduceEqDiff, Nat.reduceAdd, Nat.reduceMul, Nat.reduceSub, Int.reduceAdd, Int.reduceSub, Nat.reduceLeDiff, Int.reduceLT, Int.reduceLE, Int.reduceEq, Int.reduceNeg, Int.reduceToNat]
      repeat' ((first | refine guardB_dec (fun hy => ?_) (fun hy => ?_) | refine guardB_bool (fun hy => ?_) (fun hy => ?_) | refine guardQ_ite (fun hy => ?_) (fun hy => ?_) | refine brQ_dec (fun hy => ?_) (fun hy => ?_) | refine brQ_bool (fun hy => ?_) (fun hy => ?_)) <;> (try simp only [Bool.not_eq_true', Bool.not_eq_false', Bool.and_eq_true, Bool.or_eq_false_iff, decide_eq_true_eq, decide_eq_false_iff_not] at hy) <;> simp (disch := first | rfl | omega | exact lt_new _ | assumption | decide | (simp [tk_here, tk_app, tk_0, tk_S, gr_here, gr_app, gr_0, gr_S] <;> omega) | fail) only [r29_0, r29_1, r29_2, r29_3, r29_4, r29_5, r29_6, r29_7, r29_8, r29_9, l29_10, r29_11, c29, rs29, gc29, loadV_ptr, storeV_ptr, List.append_assoc, List.length_append, List.length_cons, List.length_nil, List.set_cons_zero, List.set_cons_succ, tk_here, tk_app, gr_here, gr_app, st_here, st_app, t1, t2, t3, t6, t9, t10, hlt', h1, h2, go_sem, ↓reduceIte, Nat.reduceLT, Nat.reduceEqDiff, Nat.reduceAdd, Nat.reduceMul, Nat.reduceSub, Int.reduceAdd, Int.reduceSub, Nat.reduceLeDiff, Int.reduceLT, Int.reduceLE, Int.reduceEq, Int.reduceNeg, Int.reduceToNat, hy])
      exact ⟨_, by omega, k + 1, G, rfl, hlt, by simp [hkn, Nat.add_mul], by rw [hkn], rfl⟩
    all_goals
      rw [if_neg (by simp [rgB, h1, h2])] at hkn
      simp (disch := first | rfl | omega | exact lt_new _ | assumption | decide | (simp [tk_here, tk_app, tk_0, tk_S, gr_here, gr_app, gr_0, gr_S] <;> omega) | fail) only [r29_0, r29_1, r29_2, r29_3, r29_4, r29_5, r29_6, r29_7, r29_8, r29_9, l29_10, r29_11, c29, rs29, gc29, loadV_ptr, storeV_ptr, List.append_assoc, List.length_append, List.length_cons, List.length_nil, List.set_cons_zero, List.set_cons_succ, tk_here, tk_app, gr_here, gr_app, st_here, st_app, t1, t2, t3, t6, t9, t10, hlt', h1, h2, go_sem, ↓reduceIte, Nat.reduceLT, Nat.reduceEqDiff, Nat.reduceAdd, Nat.reduceMul, Nat.reduceSub, Int.reduceAdd, Int.reduceSub, Nat.reduceLeDiff, Int.reduceLT, Int.reduceLE, Int.reduceEq, Int.reduceNeg, Int.reduceToNat]
      repeat' ((first | refine guardB_dec (fun hy => ?_) (fun hy => ?_) | refine guardB_bool (fun hy => ?_) (fun hy => ?_) | refine guardQ_ite (fun hy => ?_) (fun hy => ?_) | refine brQ_dec (fun hy => ?_) (fun hy => ?_) | refine brQ_bool (fun hy => ?_) (fun hy => ?_)) <;> (try simp only [Bool.not_eq_true', Bool.not_eq_false', Bool.and_eq_true, Bool.or_eq_false_iff, decide_eq_true_eq, decide_eq_false_iff_not] at hy) <;> simp (disch := first | rfl | omega | exact lt_new _ | assumption | decide | (simp [tk_here, tk_app, tk_0, tk_S, gr_here, gr_app, gr_0, gr_S] <;> omega) | fail) only [r29_0, r29_1, r29_2, r29_3, r29_4, r29_5, r29_6, r29_7, r29_8, r29_9, l29_10, r29_11, c29, rs29, gc29, loadV_ptr, storeV_ptr, List.append_assoc, List.length_append, List.length_cons, List.length_nil, List.set_cons_zero, List.set_cons_succ, tk_here, tk_app, gr_here, gr_app, st_here, st_app, t1, t2, t3, t6, t9, t10, hlt', h1, h2, go_sem, ↓reduceIte, Nat.reduceLT, Nat.reduceEqDiff, Nat.reduceAdd, Nat.reduceMul, Nat.reduceSub, Int.reduceAdd, Int.reduceSub, Nat.reduceLeDiff, Int.reduceLT, Int.reduceLE, Int.reduceEq, Int.reduceNeg, Int.reduceToNat, hy])
      exact ⟨_, by omega, k + 1, G, rfl, hlt, by rw [hkn, List.append_nil], by rw [hkn, List.append_nil], rfl⟩
  · obtain rfl : k = c.packets.length := by omega
    have h76 := fun H => fn76 c (b := true) (l := keepP (rgB a b) c.packets c.packets.length) H
    simp (disch := first | rfl | omega | exact lt_new _ | assumption | decide | (simp [tk_here, tk_app, tk_0, tk_S, gr_here, gr_app, gr_0, gr_S] <;> omega) | fail) only [r29_0, r29_1, r29_2, r29_3, r29_4, r29_5, r29_6, r29_7, r29_8, r29_9, l29_10, r29_11, c29, rs29, gc29, loadV_ptr, storeV_ptr, List.append_assoc, List.length_append, List.length_cons, List.length_nil, List.set_cons_zero, List.set_cons_succ, tk_here, tk_app, gr_here, gr_app, st_here, st_app, t1, t2, t3, t6, t9, t10, Int.lt_irrefl, h76, go_sem, ↓reduceIte, Nat.reduceLT, Nat.reduceEqDiff, Nat.reduceAdd, Nat.reduceMul, Nat.reduceSub, Int.reduceAdd, Int.reduceSub, Nat.reduceLeDiff, Int.reduceLT, Int.reduceLE, Int.reduceEq, Int.reduceNeg, Int.reduceToNat]
    repeat' ((first | refine guardB_dec (fun hy => ?_) (fun hy => ?_) | refine guardB_bool (fun hy => ?_) (fun hy => ?_) | refine guardQ_ite (fun hy => ?_) (fun hy => ?_) | refine brQ_dec (fun hy => ?_) (fun hy => ?_) | refine brQ_bool (fun hy => ?_) (fun hy => ?_)) <;> (try simp only [Bool.not_eq_true', Bool.not_eq_false', Bool.and_eq_true, Bool.or_eq_false_iff, decide_eq_true_eq, decide_eq_false_iff_not] at hy) <;> simp (disch := first | rfl | omega | exact lt_new _ | assumption | decide | (simp [tk_here, tk_app, tk_0, tk_S, gr_here, gr_app, gr_0, gr_S] <;> omega) | fail) only [r29_0, r29_1, r29_2, r29_3, r29_4, r29_5, r29_6, r29_7, r29_8, r29_9, l29_10, r29_11, c29, rs29, gc29, loadV_ptr, storeV_ptr, List.append_assoc, List.length_append, List.length_cons, List.length_nil, List.set_cons_zero, List.set_cons_succ, tk_here, tk_app, gr_here, gr_app, st_here, st_app, t1, t2, t3, t6, t9, t10, Int.lt_irrefl, h76, go_sem, ↓reduceIte, Nat.reduceLT, Nat.reduceEqDiff, Nat.reduceAdd, Nat.reduceMul, Nat.reduceSub, Int.reduceAdd, Int.reduceSub, Nat.reduceLeDiff, Int.reduceLT, Int.reduceLE, Int.reduceEq, Int.reduceNeg, Int.reduceToNat, hy])
    exact finQ_app (by simp (disch := first | rfl | omega | exact lt_new _ | assumption | decide | (simp [tk_here, tk_app, tk_0, tk_S, gr_here, gr_app, gr_0, gr_S] <;> omega) | fail) only [go_sem, ↓reduceIte, Nat.reduceLT, Nat.reduceEqDiff, Nat.reduceAdd, Nat.reduceMul, Nat.reduceSub, Int.reduceAdd, Int.reduceSub, Nat.reduceLeDiff, Int.reduceLT, Int.reduceLE, Int.reduceEq, Int.reduceNeg, Int.reduceToNat])
end Go.Proofs.Ytejkgnmjdaohdaa
/-
  Picks, walked. No statement of the seat stands here.
-/
namespace Go.Proofs.Ytejkgnmjdaohdaa
open Go Go.An
set_option maxRecDepth 4000
set_option linter.unusedSimpArgs false
set_option linter.unusedVariables false

theorem fn121 {b : Bool} {l : List Int} {H : Hp} (hlen : l.length < 2 ^ 62) (x : Int) : callL Try.prog pr 121 [slV b inE l, .int .i64 x] H = some (.int .i64 (findI (fun y => decide (x = y)) l 0), H) := by
  refine run121 (Nat.le_of_ble_eq_true rfl) ?_
  simp (disch := first | rfl | omega | exact lt_new _ | assumption | decide | (simp [tk_here, tk_app, tk_0, tk_S, gr_here, gr_app, gr_0, gr_S] <;> omega) | fail) only [r121_0, r121_1, r121_2, r121_3, r121_4, r121_5, r121_6, r121_8, c121, rs121, gc121, go_sem, ↓reduceIte, Nat.reduceLT, Nat.reduceEqDiff, Nat.reduceAdd, Nat.reduceMul, Nat.reduceSub, Int.reduceAdd, Int.reduceSub, Nat.reduceLeDiff, Int.reduceLT, Int.reduceLE, Int.reduceEq, Int.reduceNeg, Int.reduceToNat]
  refine Wp_loop (fun m T D H' => ∃ i, m = l.length - i ∧ i ≤ l.length ∧ D = [] ∧ H' = H ∧ get T 0 = slV b inE l ∧ get T 1 = .int .i64 x ∧ get T 7 = .int .i64 l.length ∧ get T 8 = .int .i64 i ∧ findI (fun y => decide (x = y)) l 0 = findI (fun y => decide (x = y)) (l.drop i) i) ?_ l.length _ _ _ ?_
  · rintro m T D H' ⟨i, rfl, hi, rfl, rfl, h0, h1, h7, h8, hp⟩
    by_cases hlt : i < l.length
    · have hlt' : (i : Int) < l.length := by omega
      have hpi := findI_drop (fun y => decide (x = y)) (inE.at_some hlt) i
      by_cases hy : x = inE.at l i
      · rw [if_pos (by simp [hy])] at hpi
        simp (disch := first | rfl | omega | exact lt_new _ | assumption | decide | (simp [tk_here, tk_app, tk_0, tk_S, gr_here, gr_app, gr_0, gr_S] <;> omega) | fail) only [r121_0, r121_1, r121_2, r121_3, r121_4, r121_5, r121_6, l121_7, r121_8, c121, rs121, gc121, go_sem, ↓reduceIte, Nat.reduceLT, Nat.reduceEqDiff, Nat.reduceAdd, Nat.reduceMul, Nat.reduceSub, Int.reduceAdd, Int.reduceSub, Nat.reduceLeDiff, Int.reduceLT, Int.reduceLE, Int.reduceEq, Int.reduceNeg, Int.reduceToNat, h0, h1, h7, h8, hlt', hy]
        refine finQ_same ?_
        simp (disch := first | rfl | omega | exact lt_new _ | assumption | decide | (simp [tk_here, tk_app, tk_0, tk_S, gr_here, gr_app, gr_0, gr_S] <;> omega) | fail) only [go_sem, ↓reduceIte, Nat.reduceLT, Nat.reduceEqDiff, Nat.reduceAdd, Nat.reduceMul, Nat.reduceSub, Int.reduceAdd, Int.reduceSub, Nat.reduceLeDiff, Int.reduceLT, Int.reduceLE, Int.reduceEq, Int.reduceNeg, Int.reduceToNat, ← hy, hp, hpi]
      · rw [if_neg (by simp [hy])] at hpi
        simp (disch := first | rfl | omega | exact lt_new _ | assumption | decide | (simp [tk_here, tk_app, tk_0, tk_S, gr_here, gr_app, gr_0, gr_S] <;> omega) | fail) only [r121_0, r121_1, r121_2, r121_3, r121_4, r121_5, r121_6, l121_7, r121_8, c121, rs121, gc121, go_sem, ↓reduceIte, Nat.reduceLT, Nat.reduceEqDiff, Nat.reduceAdd, Nat.reduceMul, Nat.reduceSub, Int.reduceAdd, Int.reduceSub, Nat.reduceLeDiff, Int.reduceLT, Int.reduceLE, Int.reduceEq, Int.reduceNeg, Int.reduceToNat, h0, h1, h7, h8, hlt', hy]
        exact ⟨_, by omega, i + 1, rfl, hlt, rfl, by rw [hp, hpi]; rfl⟩
    · obtain rfl : i = l.length := by omega
      simp (disch := first | rfl | omega | exact lt_new _ | assumption | decide | (simp [tk_here, tk_app, tk_0, tk_S, gr_here, gr_app, gr_0, gr_S] <;> omega) | fail) only [r121_0, r121_1, r121_2, r121_3, r121_4, r121_5, r121_6, l121_7, r121_8, c121, rs121, gc121, go_sem, ↓reduceIte, Nat.reduceLT, Nat.reduceEqDiff, Nat.reduceAdd, Nat.reduceMul, Nat.reduceSub, Int.reduceAdd, Int.reduceSub, Nat.reduceLeDiff, Int.reduceLT, Int.reduceLE, Int.reduceEq, Int.reduceNeg, Int.reduceToNat, h0, h1, h7, h8, Int.lt_irrefl, decide_false]
      refine finQ_same ?_
      rw [hp, List.drop_length]
      simp (disch := first | rfl | omega | exact lt_new _ | assumption | decide | (simp [tk_here, tk_app, tk_0, tk_S, gr_here, gr_app, gr_0, gr_S] <;> omega) | fail) only [go_sem, ↓reduceIte, Nat.reduceLT, Nat.reduceEqDiff, Nat.reduceAdd, Nat.reduceMul, Nat.reduceSub, Int.reduceAdd, Int.reduceSub, Nat.reduceLeDiff, Int.reduceLT, Int.reduceLE, Int.reduceEq, Int.reduceNeg, Int.reduceToNat, findI]
  · exact ⟨0, by simp [go_sem]⟩
def hasI (l : List Int) (x : Int) : Bool := l.any fun y => decide (x = y)
theorem fn80 {b : Bool} {l : List Int} {H : Hp} (hlen : l.length < 2 ^ 62) (x : Int) : callL Try.prog pr 80 [slV b inE l, .int .i64 x] H = some (.bool (hasI l x), H) := by
  refine run80 (Nat.le_of_ble_eq_true rfl) ?_
  simp (disch := first | rfl | omega | exact lt_new _ | assumption | decide | (simp [tk_here, tk_app, tk_0, tk_S, gr_here, gr_app, gr_0, gr_S] <;> omega) | fail) only [r80_0, r80_1, c80, rs80, gc80, go_sem, ↓reduceIte, Nat.reduceLT, Nat.reduceEqDiff, Nat.reduceAdd, Nat.reduceMul, Nat.reduceSub, Int.reduceAdd, Int.reduceSub, Nat.reduceLeDiff, Int.reduceLT, Int.reduceLE, Int.reduceEq, Int.reduceNeg, Int.reduceToNat, fn121 hlen x]
  refine finQ_same ?_
  simp (disch := first | rfl | omega | exact lt_new _ | assumption | decide | (simp [tk_here, tk_app, tk_0, tk_S, gr_here, gr_app, gr_0, gr_S] <;> omega) | fail) only [go_sem, ↓reduceIte, Nat.reduceLT, Nat.reduceEqDiff, Nat.reduceAdd, Nat.reduceMul, Nat.reduceSub, Int.reduceAdd, Int.reduceSub, Nat.reduceLeDiff, Int.reduceLT, Int.reduceLE, Int.reduceEq, Int.reduceNeg, Int.reduceToNat, hasI, findI_any _ l 0 (by omega)]
theorem fn79 {b : Bool} {l : List Int} (hlen : l.length < 2 ^ 62) (k : Int) (p : Pk) (H : Hp) : callL Try.prog pr 79 [.int .i64 k, .agg (pkE.f p), .ipt [slV b inE l] 0] H = some (.bool (hasI l k), H) := by
  have h80 := fun H => fn80 (b := b) (H := H) hlen k
  refine run79 (Nat.le_of_ble_eq_true rfl) ?_
  simp (disch := first | rfl | omega | exact lt_new _ | assumption | decide | (simp [tk_here, tk_app, tk_0, tk_S, gr_here, gr_app, gr_0, gr_S] <;> omega) | fail) only [r79_0, r79_1, c79, rs79, gc79, loadV_ptr, storeV_ptr, List.append_assoc, List.length_append, List.length_cons, List.length_nil, List.set_cons_zero, List.set_cons_succ, tk_here, tk_app, gr_here, gr_app, st_here, st_app, h80, go_sem, ↓reduceIte, Nat.reduceLT, Nat.reduceEqDiff, Nat.reduceAdd, Nat.reduceMul, Nat.reduceSub, Int.reduceAdd, Int.reduceSub, Nat.reduceLeDiff, Int.reduceLT, Int.reduceLE, Int.reduceEq, Int.reduceNeg, Int.reduceToNat]
  repeat' ((first | refine guardB_dec (fun hy => ?_) (fun hy => ?_) | refine guardB_bool (fun hy => ?_) (fun hy => ?_) | refine guardQ_ite (fun hy => ?_) (fun hy => ?_) | refine brQ_dec (fun hy => ?_) (fun hy => ?_) | refine brQ_bool (fun hy => ?_) (fun hy => ?_)) <;> (try simp only [Bool.not_eq_true', Bool.not_eq_false', Bool.and_eq_true, Bool.or_eq_false_iff, decide_eq_true_eq, decide_eq_false_iff_not] at hy) <;> simp (disch := first | rfl | omega | exact lt_new _ | assumption | decide | (simp [tk_here, tk_app, tk_0, tk_S, gr_here, gr_app, gr_0, gr_S] <;> omega) | fail) only [r79_0, r79_1, c79, rs79, gc79, loadV_ptr, storeV_ptr, List.append_assoc, List.length_append, List.length_cons, List.length_nil, List.set_cons_zero, List.set_cons_succ, tk_here, tk_app, gr_here, gr_app, st_here, st_app, h80, go_sem, ↓reduceIte, Nat.reduceLT, Nat.reduceEqDiff, Nat.reduceAdd, Nat.reduceMul, Nat.reduceSub, Int.reduceAdd, Int.reduceSub, Nat.reduceLeDiff, Int.reduceLT, Int.reduceLE, Int.reduceEq, Int.reduceNeg, Int.reduceToNat, hy])
  all_goals (try ((first | refine finQ_same ?_ | refine finQ_app ?_ | (rw [List.append_assoc]; refine finQ_app ?_)) <;> simp (disch := first | rfl | omega | exact lt_new _ | assumption | decide | (simp [tk_here, tk_app, tk_0, tk_S, gr_here, gr_app, gr_0, gr_S] <;> omega) | fail) only [go_sem, ↓reduceIte, Nat.reduceLT, Nat.reduceEqDiff, Nat.reduceAdd, Nat.reduceMul, Nat.reduceSub, Int.reduceAdd, Int.reduceSub, Nat.reduceLeDiff, Int.reduceLT, Int.reduceLE, Int.reduceEq, Int.reduceNeg, Int.reduceToNat, List.append_assoc, List.cons_append, List.nil_append, *]))
  all_goals (try first | rfl | (simp [*]; done) | grind)
/-! The numbers rise. -/
def goodL : Int → List Int → Bool
  | _, [] => true
  | p, x :: xs => decide (p < x) && goodL x xs
def pv (l : List Int) (i : Nat) : Int := if i = 0 then -1 else inE.at l (i - 1)
theorem goodL_drop {l : List Int} {i : Nat} (h : i < l.length) : goodL (pv l i) (l.drop i) = (decide (pv l i < inE.at l i) && goodL (pv l (i + 1)) (l.drop (i + 1))) := by
  rw [List.drop_eq_getElem_cons h, goodL]
  have h1 := inE.at_some h
  have h2 : l[i] = inE.at l i := by
    have := List.getElem?_eq_getElem h
    rw [h1] at this
    exact (Option.some.inj this).symm
  rw [h2]
  simp [pv]
theorem goodL_gt : ∀ {l : List Int} {p : Int}, goodL p l = true → ∀ x ∈ l, p < x
  | [], _, _, _, h => by cases h
  | y :: ys, p, h, x, hx => by
    unfold goodL at h
    simp only [Bool.and_eq_true, decide_eq_true_eq] at h
    rcases List.mem_cons.1 hx with rfl | hx
    · exact h.1
    · have := goodL_gt h.2 x hx
      omega
theorem good_filter : ∀ {l : List Int} {p : Int}, goodL p l = true → ∀ k : Int, l.filter (fun x => decide (x < k + 1)) = l.filter (fun x => decide (x < k)) ++ if hasI l k = true then [k] else []
  | [], _, _, _ => rfl
  | y :: ys, p, h, k => by
    unfold goodL at h
    simp only [Bool.and_eq_true, decide_eq_true_eq] at h
    have ih := good_filter h.2 k
    have hg := goodL_gt h.2
    have hh : hasI (y :: ys) k = (decide (k = y) || hasI ys k) := rfl
    rw [hh]
    rcases Int.lt_trichotomy y k with h1 | h1 | h1
    · rw [List.filter_cons_of_pos (by simp; omega), List.filter_cons_of_pos (by simpa using h1), ih, decide_eq_false (by omega)]
      simp
    · subst h1
      have e : ∀ n : Int, n ≤ y + 1 → ys.filter (fun x => decide (x < n)) = [] := fun n hn => List.filter_eq_nil_iff.2 fun x hx => by
        have := hg x hx
        simp; omega
      rw [List.filter_cons_of_pos (by simp; omega), List.filter_cons_of_neg (by simp), e _ (Int.le_refl _), e _ (by omega)]
      simp
    · have e : ∀ n : Int, n ≤ k + 1 → (y :: ys).filter (fun x => decide (x < n)) = [] := fun n hn => List.filter_eq_nil_iff.2 fun x hx => by
        rcases List.mem_cons.1 hx with rfl | hx
        · simp; omega
        · have := hg x hx
          simp; omega
      have hn : hasI ys k = false := by
        unfold hasI
        rw [List.any_eq_false]
        intro x hx
        have := hg x hx
        simp; omega
      rw [e _ (Int.le_refl _), e _ (by omega), decide_eq_false (by omega), hn]
      simp
theorem keep_pick {l : List Int} (h : goodL (-1) l = true) (ps : List Pk) : ∀ k : Nat, keepP (fun k _ => hasI l k) ps k = (l.filter fun x : Int => decide (x < (k : Int))).map fun x : Int => pkE.at ps x.toNat
  | 0 => by
    have : l.filter (fun x : Int => decide (x < ((0 : Nat) : Int))) = [] := List.filter_eq_nil_iff.2 fun x hx => by
      have := goodL_gt h x hx
      simp; omega
    rw [this]; rfl
  | k + 1 => by
    rw [Int.natCast_add, show ((1 : Nat) : Int) = 1 from rfl, good_filter h k, List.map_append, ← keep_pick h ps k, keepP]
    split <;> simp
theorem keep_all {l : List Int} (h : goodL (-1) l = true) (ps : List Pk) (ha : (l.any fun x => decide ((ps.length : Int) ≤ x)) = false) : keepP (fun k _ => hasI l k) ps ps.length = l.map fun x => pkE.at ps x.toNat := by
  rw [keep_pick h, List.filter_eq_self.2]
  intro x hx
  have := List.any_eq_false.1 ha x hx
  simp at this
  simp; omega
theorem good_last : ∀ {l : List Int} {p : Int}, goodL p l = true → ∀ {m : Nat}, l.length = m + 1 → ∀ n : Int, (l.any fun x => decide (n ≤ x)) = decide (n ≤ inE.at l m)
  | [], _, _, _, h, _ => by cases h
  | [y], _, _, m, hm, n => by
    obtain rfl : m = 0 := by simpa using hm.symm
    simp [Enc.at]
  | y :: z :: zs, p, h, m, hm, n => by
    unfold goodL at h
    simp only [Bool.and_eq_true, decide_eq_true_eq] at h
    obtain ⟨m', rfl⟩ : ∃ m', m = m' + 1 := ⟨m - 1, by simp at hm; omega⟩
    have ih := good_last h.2 (m := m') (by simpa using hm) n
    have e : inE.at (y :: z :: zs) (m' + 1) = inE.at (z :: zs) m' := by simp [Enc.at]
    rw [List.any_cons, ih, e]
    have hl : y < inE.at (z :: zs) m' := goodL_gt h.2 _ (inE.at_mem (by simp at hm ⊢; omega))
    by_cases hq : n ≤ inE.at (z :: zs) m'
    · simp [hq]
    · rw [decide_eq_false hq, decide_eq_false (by omega)]; rfl
def pikF (c : Cp) (l : List Int) : Cp × Int := if valE c = 0 then if goodL (-1) l = true then if (l.any fun x => decide ((c.packets.length : Int) ≤ x)) = true then (noCp, 4) else ({c with packets := keepP (fun k _ => hasI l k) c.packets c.packets.length}, 0) else (noCp, 1) else (noCp, valE c)
set_option maxHeartbeats 4000000 in
theorem fn30 (c : Cp) (hc : CpOk c) {b : Bool} {l : List Int} (hlen : l.length < 2 ^ 62) (H : Hp) : ∃ d, callL Try.prog pr 30 [.agg (cpE.f c), slV b inE l] H = some (.tup [.agg (cpE.f d), .int .i64 (pikF c l).2], H) ∧ CpEq d (pikF c l).1 := by
  suffices h : ∃ r, callL Try.prog pr 30 [.agg (cpE.f c), slV b inE l] H = some r ∧ ∃ d, r = (.tup [.agg (cpE.f d), .int .i64 (pikF c l).2], H) ∧ CpEq d (pikF c l).1 by
    obtain ⟨_, h1, d, rfl, h2⟩ := h; exact ⟨d, h1, h2⟩
  refine ex30 (Nat.le_of_ble_eq_true rfl) ?_
  have h54 := ask1 c hc
  unfold pikF
  by_cases hv : valE c = 0
  case neg =>
    rw [if_neg hv]
    simp (disch := first | rfl | omega | exact lt_new _ | assumption | decide | (simp [tk_here, tk_app, tk_0, tk_S, gr_here, gr_app, gr_0, gr_S] <;> omega) | fail) only [r30_0, r30_1, r30_2, r30_3, r30_4, r30_5, r30_6, r30_7, r30_8, r30_9, r30_11, r30_12, r30_13, r30_14, c30, rs30, gc30, loadV_ptr, storeV_ptr, List.append_assoc, List.length_append, List.length_cons, List.length_nil, List.set_cons_zero, List.set_cons_succ, tk_here, tk_app, gr_here, gr_app, st_here, st_app, h54, hv, go_sem, ↓reduceIte, Nat.reduceLT, Nat.reduceEqDiff, Nat.reduceAdd, Nat.reduceMul, Nat.reduceSub, Int.reduceAdd, Int.reduceSub, Nat.reduceLeDiff, Int.reduceLT, Int.reduceLE, Int.reduceEq, Int.reduceNeg, Int.reduceToNat]
    repeat' ((first | refine guardB_dec (fun hy => ?_) (fun hy => ?_) | refine guardB_bool (fun hy => ?_) (fun hy => ?_) | refine guardQ_ite (fun hy => ?_) (fun hy => ?_) | refine brQ_dec (fun hy => ?_) (fun hy => ?_) | refine brQ_bool (fun hy => ?_) (fun hy => ?_)) <;> (try simp only [Bool.not_eq_true', Bool.not_eq_false', Bool.and_eq_true, Bool.or_eq_false_iff, decide_eq_true_eq, decide_eq_false_iff_not] at hy) <;> simp (disch := first | rfl | omega | exact lt_new _ | assumption | decide | (simp [tk_here, tk_app, tk_0, tk_S, gr_here, gr_app, gr_0, gr_S] <;> omega) | fail) only [r30_0, r30_1, r30_2, r30_3, r30_4, r30_5, r30_6, r30_7, r30_8, r30_9, r30_11, r30_12, r30_13, r30_14, c30, rs30, gc30, loadV_ptr, storeV_ptr, List.append_assoc, List.length_append, List.length_cons, List.length_nil, List.set_cons_zero, List.set_cons_succ, tk_here, tk_app, gr_here, gr_app, st_here, st_app, h54, hv, go_sem, ↓reduceIte, Nat.reduceLT, Nat.reduceEqDiff, Nat.reduceAdd, Nat.reduceMul, Nat.reduceSub, Int.reduceAdd, Int.reduceSub, Nat.reduceLeDiff, Int.reduceLT, Int.reduceLE, Int.reduceEq, Int.reduceNeg, Int.reduceToNat, hy])
    exact ⟨noCp, finQ_app (by rw [noCp_f]; simp (disch := first | rfl | omega | exact lt_new _ | assumption | decide | (simp [tk_here, tk_app, tk_0, tk_S, gr_here, gr_app, gr_0, gr_S] <;> omega) | fail) only [go_sem, ↓reduceIte, Nat.reduceLT, Nat.reduceEqDiff, Nat.reduceAdd, Nat.reduceMul, Nat.reduceSub, Int.reduceAdd, Int.reduceSub, Nat.reduceLeDiff, Int.reduceLT, Int.reduceLE, Int.reduceEq, Int.reduceNeg, Int.reduceToNat]), CpEq.rfl' _⟩
  rw [if_pos hv]
  obtain ⟨d, hd⟩ : ∃ d : Hp → Cp, ∀ H, callL Try.prog pr 77 [.agg (cpE.f c), .fn 79 [] [.ipt [slV b inE l] 0]] H = some (.agg (cpE.f (d H)), H) ∧ CpEq (d H) {c with packets := keepP (fun k _ => hasI l k) c.packets c.packets.length} := ⟨fun H => (fn77 c (val_S hv) (fun k _ => hasI l k) 79 [] [.ipt [slV b inE l] 0] kp79 (fun k hk H => fn79 hlen k _ H) H).choose, fun H => (fn77 c (val_S hv) (fun k _ => hasI l k) 79 [] [.ipt [slV b inE l] 0] kp79 (fun k hk H => fn79 hlen k _ H) H).choose_spec⟩
  have h77 := fun H => (hd H).1
  simp (disch := first | rfl | omega | exact lt_new _ | assumption | decide | (simp [tk_here, tk_app, tk_0, tk_S, gr_here, gr_app, gr_0, gr_S] <;> omega) | fail) only [r30_0, r30_1, r30_2, r30_3, r30_4, r30_5, r30_6, r30_7, r30_8, r30_9, r30_11, r30_12, r30_13, r30_14, c30, rs30, gc30, loadV_ptr, storeV_ptr, List.append_assoc, List.length_append, List.length_cons, List.length_nil, List.set_cons_zero, List.set_cons_succ, tk_here, tk_app, gr_here, gr_app, st_here, st_app, h54, hv, go_sem, ↓reduceIte, Nat.reduceLT, Nat.reduceEqDiff, Nat.reduceAdd, Nat.reduceMul, Nat.reduceSub, Int.reduceAdd, Int.reduceSub, Nat.reduceLeDiff, Int.reduceLT, Int.reduceLE, Int.reduceEq, Int.reduceNeg, Int.reduceToNat]
  repeat' ((first | refine guardB_dec (fun hy => ?_) (fun hy => ?_) | refine guardB_bool (fun hy => ?_) (fun hy => ?_) | refine guardQ_ite (fun hy => ?_) (fun hy => ?_) | refine brQ_dec (fun hy => ?_) (fun hy => ?_) | refine brQ_bool (fun hy => ?_) (fun hy => ?_)) <;> (try simp only [Bool.not_eq_true', Bool.not_eq_false', Bool.and_eq_true, Bool.or_eq_false_iff, decide_eq_true_eq, decide_eq_false_iff_not] at hy) <;> simp (disch := first | rfl | omega | exact lt_new _ | assumption | decide | (simp [tk_here, tk_app, tk_0, tk_S, gr_here, gr_app, gr_0, gr_S] <;> omega) | fail) only [r30_0, r30_1, r30_2, r30_3, r30_4, r30_5, r30_6, r30_7, r30_8, r30_9, r30_11, r30_12, r30_13, r30_14, c30, rs30, gc30, loadV_ptr, storeV_ptr, List.append_assoc, List.length_append, List.length_cons, List.length_nil, List.set_cons_zero, List.set_cons_succ, tk_here, tk_app, gr_here, gr_app, st_here, st_app, h54, hv, go_sem, ↓reduceIte, Nat.reduceLT, Nat.reduceEqDiff, Nat.reduceAdd, Nat.reduceMul, Nat.reduceSub, Int.reduceAdd, Int.reduceSub, Nat.reduceLeDiff, Int.reduceLT, Int.reduceLE, Int.reduceEq, Int.reduceNeg, Int.reduceToNat, hy])
  refine Wp_loop (fun m T D H' => ∃ i, m = l.length - i ∧ i ≤ l.length ∧ D = [] ∧ H' = H ++ [AB.row 0 (cpE.f c) true, AB.row 0 [.str [], .nilslice, .nilslice, .nilslice, .nilslice] true] ∧ get T 2 = .ptr H.length 0 0 ∧ get T 3 = .ipt [slV b inE l] 0 ∧ get T 4 = .ptr (H.length + 1) 0 0 ∧ get T 17 = slV b inE l ∧ get T 18 = .int .i64 l.length ∧ get T 19 = .int .i64 i ∧ goodL (-1) l = goodL (pv l i) (l.drop i) ∧ -1 ≤ pv l i) ?_ l.length _ _ _ ?_
  case refine_2 => exact ⟨0, by simp (disch := first | rfl | omega | exact lt_new _ | assumption | decide | (simp [tk_here, tk_app, tk_0, tk_S, gr_here, gr_app, gr_0, gr_S] <;> omega) | fail) only [go_sem, ↓reduceIte, Nat.reduceLT, Nat.reduceEqDiff, Nat.reduceAdd, Nat.reduceMul, Nat.reduceSub, Int.reduceAdd, Int.reduceSub, Nat.reduceLeDiff, Int.reduceLT, Int.reduceLE, Int.reduceEq, Int.reduceNeg, Int.reduceToNat]; simp [pv]⟩
  rintro m T D H' ⟨i, rfl, hi, rfl, rfl, t2, t3, t4, t17, t18, t19, hg, hpv⟩
  have hs4 := (val_S hv).1.2.2.2
  by_cases hlt : i < l.length
  · have hlt' : (i : Int) < l.length := by omega
    rw [goodL_drop hlt] at hg
    by_cases h1 : inE.at l i < 0
    · rw [decide_eq_false (by omega), Bool.false_and] at hg
      rw [if_neg (by simp [hg])]
      simp (disch := first | rfl | omega | exact lt_new _ | assumption | decide | (simp [tk_here, tk_app, tk_0, tk_S, gr_here, gr_app, gr_0, gr_S] <;> omega) | fail) only [r30_0, r30_1, r30_2, r30_3, r30_4, r30_5, r30_6, r30_7, r30_8, r30_9, l30_10, r30_11, r30_12, r30_13, r30_14, c30, rs30, gc30, loadV_ptr, storeV_ptr, List.append_assoc, List.length_append, List.length_cons, List.length_nil, List.set_cons_zero, List.set_cons_succ, tk_here, tk_app, gr_here, gr_app, st_here, st_app, t2, t3, t4, t17, t18, t19, hlt', h1, go_sem, ↓reduceIte, Nat.reduceLT, Nat.reduceEqDiff, Nat.reduceAdd, Nat.reduceMul, Nat.reduceSub, Int.reduceAdd, Int.reduceSub, Nat.reduceLeDiff, Int.reduceLT, Int.reduceLE, Int.reduceEq, Int.reduceNeg, Int.reduceToNat]
      repeat' ((first | refine guardB_dec (fun hy => ?_) (fun hy => ?_) | refine guardB_bool (fun hy => ?_) (fun hy => ?_) | refine guardQ_ite (fun hy => ?_) (fun hy => ?_) | refine brQ_dec (fun hy => ?_) (fun hy => ?_) | refine brQ_bool (fun hy => ?_) (fun hy => ?_)) <;> (try simp only [Bool.not_eq_true', Bool.not_eq_false', Bool.and_eq_true, Bool.or_eq_false_iff, decide_eq_true_eq, decide_eq_false_iff_not] at hy) <;> simp (disch := first | rfl | omega | exact lt_new _ | assumption | decide | (simp [tk_here, tk_app, tk_0, tk_S, gr_here, gr_app, gr_0, gr_S] <;> omega) | fail) only [r30_0, r30_1, r30_2, r30_3, r30_4, r30_5, r30_6, r30_7, r30_8, r30_9, l30_10, r30_11, r30_12, r30_13, r30_14, c30, rs30, gc30, loadV_ptr, storeV_ptr, List.append_assoc, List.length_append, List.length_cons, List.length_nil, List.set_cons_zero, List.set_cons_succ, tk_here, tk_app, gr_here, gr_app, st_here, st_app, t2, t3, t4, t17, t18, t19, hlt', h1, go_sem, ↓reduceIte, Nat.reduceLT, Nat.reduceEqDiff, Nat.reduceAdd, Nat.reduceMul, Nat.reduceSub, Int.reduceAdd, Int.reduceSub, Nat.reduceLeDiff, Int.reduceLT, Int.reduceLE, Int.reduceEq, Int.reduceNeg, Int.reduceToNat, hy])
      exact ⟨noCp, finQ_app (by rw [noCp_f]; simp (disch := first | rfl | omega | exact lt_new _ | assumption | decide | (simp [tk_here, tk_app, tk_0, tk_S, gr_here, gr_app, gr_0, gr_S] <;> omega) | fail) only [go_sem, ↓reduceIte, Nat.reduceLT, Nat.reduceEqDiff, Nat.reduceAdd, Nat.reduceMul, Nat.reduceSub, Int.reduceAdd, Int.reduceSub, Nat.reduceLeDiff, Int.reduceLT, Int.reduceLE, Int.reduceEq, Int.reduceNeg, Int.reduceToNat]), CpEq.rfl' _⟩
    · by_cases hi0 : i = 0
      · have hpz : pv l i = -1 := by simp [pv, hi0]
        have hi1 : ¬ (0 : Int) < (i : Int) := by omega
        have hpn : pv l (i + 1) = inE.at l i := by simp [pv]
        rw [decide_eq_true (by omega), Bool.true_and] at hg
        simp (disch := first | rfl | omega | exact lt_new _ | assumption | decide | (simp [tk_here, tk_app, tk_0, tk_S, gr_here, gr_app, gr_0, gr_S] <;> omega) | fail) only [r30_0, r30_1, r30_2, r30_3, r30_4, r30_5, r30_6, r30_7, r30_8, r30_9, l30_10, r30_11, r30_12, r30_13, r30_14, c30, rs30, gc30, loadV_ptr, storeV_ptr, List.append_assoc, List.length_append, List.length_cons, List.length_nil, List.set_cons_zero, List.set_cons_succ, tk_here, tk_app, gr_here, gr_app, st_here, st_app, t2, t3, t4, t17, t18, t19, hlt', h1, hi1, go_sem, ↓reduceIte, Nat.reduceLT, Nat.reduceEqDiff, Nat.reduceAdd, Nat.reduceMul, Nat.reduceSub, Int.reduceAdd, Int.reduceSub, Nat.reduceLeDiff, Int.reduceLT, Int.reduceLE, Int.reduceEq, Int.reduceNeg, Int.reduceToNat]
        repeat' ((first | refine guardB_dec (fun hy => ?_) (fun hy => ?_) | refine guardB_bool (fun hy => ?_) (fun hy => ?_) | refine guardQ_ite (fun hy => ?_) (fun hy => ?_) | refine brQ_dec (fun hy => ?_) (fun hy => ?_) | refine brQ_bool (fun hy => ?_) (fun hy => ?_)) <;> (try simp only [Bool.not_eq_true', Bool.not_eq_false', Bool.and_eq_true, Bool.or_eq_false_iff, decide_eq_true_eq, decide_eq_false_iff_not] at hy) <;> simp (disch := first | rfl | omega | exact lt_new _ | assumption | decide | (simp [tk_here, tk_app, tk_0, tk_S, gr_here, gr_app, gr_0, gr_S] <;> omega) | fail) only [r30_0, r30_1, r30_2, r30_3, r30_4, r30_5, r30_6, r30_7, r30_8, r30_9, l30_10, r30_11, r30_12, r30_13, r30_14, c30, rs30, gc30, loadV_ptr, storeV_ptr, List.append_assoc, List.length_append, List.length_cons, List.length_nil, List.set_cons_zero, List.set_cons_succ, tk_here, tk_app, gr_here, gr_app, st_here, st_app, t2, t3, t4, t17, t18, t19, hlt', h1, hi1, go_sem, ↓reduceIte, Nat.reduceLT, Nat.reduceEqDiff, Nat.reduceAdd, Nat.reduceMul, Nat.reduceSub, Int.reduceAdd, Int.reduceSub, Nat.reduceLeDiff, Int.reduceLT, Int.reduceLE, Int.reduceEq, Int.reduceNeg, Int.reduceToNat, hy])
        exact ⟨_, by omega, i + 1, rfl, hlt, rfl, hg, by omega⟩
      · obtain ⟨j, hj⟩ : ∃ j, i = j + 1 := ⟨i - 1, by omega⟩
        have hj1 : (i : Int) - 1 = (j : Int) := by omega
        have hj0 : (0 : Int) < (i : Int) := by omega
        have hjl : j < l.length := by omega
        have hpj : pv l i = inE.at l j := by simp [pv, hj]
        have hpn : pv l (i + 1) = inE.at l i := by simp [pv]
        rw [hpj] at hg
        by_cases h2 : inE.at l i ≤ inE.at l j
        · rw [decide_eq_false (by omega), Bool.false_and] at hg
          rw [if_neg (by simp [hg])]
          simp (disch := first | rfl | omega | exact lt_new _ | assumption | decide | (simp [tk_here, tk_app, tk_0, tk_S, gr_here, gr_app, gr_0, gr_S] <;> omega) | fail) only [r30_0, r30_1, r30_2, r30_3, r30_4, r30_5, r30_6, r30_7, r30_8, r30_9, l30_10, r30_11, r30_12, r30_13, r30_14, c30, rs30, gc30, loadV_ptr, storeV_ptr, List.append_assoc, List.length_append, List.length_cons, List.length_nil, List.set_cons_zero, List.set_cons_succ, tk_here, tk_app, gr_here, gr_app, st_here, st_app, t2, t3, t4, t17, t18, t19, hlt', h1, hj1, hj0, h2, go_sem, ↓reduceIte, Nat.reduceLT, Nat.reduceEqDiff, Nat.reduceAdd, Nat.reduceMul, Nat.reduceSub, Int.reduceAdd, Int.reduceSub, Nat.reduceLeDiff, Int.reduceLT, Int.reduceLE, Int.reduceEq, Int.reduceNeg, Int.reduceToNat]
          repeat' ((first | refine guardB_dec (fun hy => ?_) (fun hy => ?_) | refine guardB_bool (fun hy => ?_) (fun hy => ?_) | refine guardQ_ite (fun hy => ?_) (fun hy => ?_) | refine brQ_dec (fun hy => ?_) (fun hy => ?_) | refine brQ_bool (fun hy => ?_) (fun hy => ?_)) <;> (try simp only [Bool.not_eq_true', Bool.not_eq_false', Bool.and_eq_true, Bool.or_eq_false_iff, decide_eq_true_eq, decide_eq_false_iff_not] at hy) <;> simp (disch := first | rfl | omega | exact lt_new _ | assumption | decide | (simp [tk_here, tk_app, tk_0, tk_S, gr_here, gr_app, gr_0, gr_S] <;> omega) | fail) only [r30_0, r30_1, r30_2, r30_3, r30_4, r30_5, r30_6, r30_7, r30_8, r30_9, l30_10, r30_11, r30_12, r30_13, r30_14, c30, rs30, gc30, loadV_ptr, storeV_ptr, List.append_assoc, List.length_append, List.length_cons, List.length_nil, List.set_cons_zero, List.set_cons_succ, tk_here, tk_app, gr_here, gr_app, st_here, st_app, t2, t3, t4, t17, t18, t19, hlt', h1, hj1, hj0, h2, go_sem, ↓reduceIte, Nat.reduceLT, Nat.reduceEqDiff, Nat.reduceAdd, Nat.reduceMul, Nat.reduceSub, Int.reduceAdd, Int.reduceSub, Nat.reduceLeDiff, Int.reduceLT, Int.reduceLE, Int.reduceEq, Int.reduceNeg, Int.reduceToNat, hy])
          exact ⟨noCp, finQ_app (by rw [noCp_f]; simp (disch := first | rfl | omega | exact lt_new _ | assumption | decide | (simp [tk_here, tk_app, tk_0, tk_S, gr_here, gr_app, gr_0, gr_S] <;> omega) | fail) only [go_sem, ↓reduceIte, Nat.reduceLT, Nat.reduceEqDiff, Nat.reduceAdd, Nat.reduceMul, Nat.reduceSub, Int.reduceAdd, Int.reduceSub, Nat.reduceLeDiff, Int.reduceLT, Int.reduceLE, Int.reduceEq, Int.reduceNeg, Int.reduceToNat]), CpEq.rfl' _⟩
        · rw [decide_eq_true (by omega), Bool.true_and] at hg
          simp (disch := first | rfl | omega | exact lt_new _ | assumption | decide | (simp [tk_here, tk_app, tk_0, tk_S, gr_here, gr_app, gr_0, gr_S] <;> omega) | fail) only [r30_0, r30_1, r30_2, r30_3, r30_4, r30_5, r30_6, r30_7, r30_8, r30_9, l30_10, r30_11, r30_12, r30_13, r30_14, c30, rs30, gc30, loadV_ptr, storeV_ptr, List.append_assoc, List.length_append, List.length_cons, List.length_nil, List.set_cons_zero, List.set_cons_succ, tk_here, tk_app, gr_here, gr_app, st_here, st_app, t2, t3, t4, t17, t18, t19, hlt', h1, hj1, hj0, h2, go_sem, ↓reduceIte, Nat.reduceLT, Nat.reduceEqDiff, Nat.reduceAdd, Nat.reduceMul, Nat.reduceSub, Int.reduceAdd, Int.reduceSub, Nat.reduceLeDiff, Int.reduceLT, Int.reduceLE, Int.reduceEq, Int.reduceNeg, Int.reduceToNat]
          repeat' ((first | refine guardB_dec (fun hy => ?_) (fun hy => ?_) | refine guardB_bool (fun hy => ?_) (fun hy => ?_) | refine guardQ_ite (fun hy => ?_) (fun hy => ?_) | refine brQ_dec (fun hy => ?_) (fun hy => ?_) | refine brQ_bool (fun hy => ?_) (fun hy => ?_)) <;> (try simp only [Bool.not_eq_true', Bool.not_eq_false', Bool.and_eq_true, Bool.or_eq_false_iff, decide_eq_true_eq, decide_eq_false_iff_not] at hy) <;> simp (disch := first | rfl | omega | exact lt_new _ | assumption | decide | (simp [tk_here, tk_app, tk_0, tk_S, gr_here, gr_app, gr_0, gr_S] <;> omega) | fail) only [r30_0, r30_1, r30_2, r30_3, r30_4, r30_5, r30_6, r30_7, r30_8, r30_9, l30_10, r30_11, r30_12, r30_13, r30_14, c30, rs30, gc30, loadV_ptr, storeV_ptr, List.append_assoc, List.length_append, List.length_cons, List.length_nil, List.set_cons_zero, List.set_cons_succ, tk_here, tk_app, gr_here, gr_app, st_here, st_app, t2, t3, t4, t17, t18, t19, hlt', h1, hj1, hj0, h2, go_sem, ↓reduceIte, Nat.reduceLT, Nat.reduceEqDiff, Nat.reduceAdd, Nat.reduceMul, Nat.reduceSub, Int.reduceAdd, Int.reduceSub, Nat.reduceLeDiff, Int.reduceLT, Int.reduceLE, Int.reduceEq, Int.reduceNeg, Int.reduceToNat, hy])
          exact ⟨_, by omega, i + 1, rfl, hlt, rfl, hg, by omega⟩
  · obtain rfl : i = l.length := by omega
    rw [List.drop_length] at hg
    have hg2 : goodL (-1) l = true := hg
    rw [if_pos hg2]
    by_cases hl0 : l.length = 0
    · have hl0' : (l.length : Int) = 0 := by omega
      have hany : (l.any fun x => decide ((c.packets.length : Int) ≤ x)) = false := by rw [List.eq_nil_of_length_eq_zero hl0]; rfl
      rw [if_neg (by simp [hany])]
      simp (disch := first | rfl | omega | exact lt_new _ | assumption | decide | (simp [tk_here, tk_app, tk_0, tk_S, gr_here, gr_app, gr_0, gr_S] <;> omega) | fail) only [r30_0, r30_1, r30_2, r30_3, r30_4, r30_5, r30_6, r30_7, r30_8, r30_9, l30_10, r30_11, r30_12, r30_13, r30_14, c30, rs30, gc30, loadV_ptr, storeV_ptr, List.append_assoc, List.length_append, List.length_cons, List.length_nil, List.set_cons_zero, List.set_cons_succ, tk_here, tk_app, gr_here, gr_app, st_here, st_app, t2, t3, t4, t17, t18, t19, Int.lt_irrefl, hl0', h77, go_sem, ↓reduceIte, Nat.reduceLT, Nat.reduceEqDiff, Nat.reduceAdd, Nat.reduceMul, Nat.reduceSub, Int.reduceAdd, Int.reduceSub, Nat.reduceLeDiff, Int.reduceLT, Int.reduceLE, Int.reduceEq, Int.reduceNeg, Int.reduceToNat]
      repeat' ((first | refine guardB_dec (fun hy => ?_) (fun hy => ?_) | refine guardB_bool (fun hy => ?_) (fun hy => ?_) | refine guardQ_ite (fun hy => ?_) (fun hy => ?_) | refine brQ_dec (fun hy => ?_) (fun hy => ?_) | refine brQ_bool (fun hy => ?_) (fun hy => ?_)) <;> (try simp only [Bool.not_eq_true', Bool.not_eq_false', Bool.and_eq_true, Bool.or_eq_false_iff, decide_eq_true_eq, decide_eq_false_iff_not] at hy) <;> simp (disch := first | rfl | omega | exact lt_new _ | assumption | decide | (simp [tk_here, tk_app, tk_0, tk_S, gr_here, gr_app, gr_0, gr_S] <;> omega) | fail) only [r30_0, r30_1, r30_2, r30_3, r30_4, r30_5, r30_6, r30_7, r30_8, r30_9, l30_10, r30_11, r30_12, r30_13, r30_14, c30, rs30, gc30, loadV_ptr, storeV_ptr, List.append_assoc, List.length_append, List.length_cons, List.length_nil, List.set_cons_zero, List.set_cons_succ, tk_here, tk_app, gr_here, gr_app, st_here, st_app, t2, t3, t4, t17, t18, t19, Int.lt_irrefl, hl0', h77, go_sem, ↓reduceIte, Nat.reduceLT, Nat.reduceEqDiff, Nat.reduceAdd, Nat.reduceMul, Nat.reduceSub, Int.reduceAdd, Int.reduceSub, Nat.reduceLeDiff, Int.reduceLT, Int.reduceLE, Int.reduceEq, Int.reduceNeg, Int.reduceToNat, hy])
      exact ⟨d (H ++ [AB.row 0 (cpE.f c) true, AB.row 0 [.str [], .nilslice, .nilslice, .nilslice, .nilslice] true]), finQ_app (by simp (disch := first | rfl | omega | exact lt_new _ | assumption | decide | (simp [tk_here, tk_app, tk_0, tk_S, gr_here, gr_app, gr_0, gr_S] <;> omega) | fail) only [go_sem, ↓reduceIte, Nat.reduceLT, Nat.reduceEqDiff, Nat.reduceAdd, Nat.reduceMul, Nat.reduceSub, Int.reduceAdd, Int.reduceSub, Nat.reduceLeDiff, Int.reduceLT, Int.reduceLE, Int.reduceEq, Int.reduceNeg, Int.reduceToNat]), (hd _).2⟩
    · obtain ⟨m, hm⟩ : ∃ m, l.length = m + 1 := ⟨l.length - 1, by omega⟩
      have hml : m < l.length := by omega
      have hm1 : (l.length : Int) - 1 = (m : Int) := by omega
      have hm0 : (0 : Int) < (l.length : Int) := by omega
      rw [good_last hg2 hm]
      by_cases h3 : (c.packets.length : Int) ≤ inE.at l m
      · rw [if_pos (by simp [h3])]
        simp (disch := first | rfl | omega | exact lt_new _ | assumption | decide | (simp [tk_here, tk_app, tk_0, tk_S, gr_here, gr_app, gr_0, gr_S] <;> omega) | fail) only [r30_0, r30_1, r30_2, r30_3, r30_4, r30_5, r30_6, r30_7, r30_8, r30_9, l30_10, r30_11, r30_12, r30_13, r30_14, c30, rs30, gc30, loadV_ptr, storeV_ptr, List.append_assoc, List.length_append, List.length_cons, List.length_nil, List.set_cons_zero, List.set_cons_succ, tk_here, tk_app, gr_here, gr_app, st_here, st_app, t2, t3, t4, t17, t18, t19, Int.lt_irrefl, hm1, hm0, h3, go_sem, ↓reduceIte, Nat.reduceLT, Nat.reduceEqDiff, Nat.reduceAdd, Nat.reduceMul, Nat.reduceSub, Int.reduceAdd, Int.reduceSub, Nat.reduceLeDiff, Int.reduceLT, Int.reduceLE, Int.reduceEq, Int.reduceNeg, Int.reduceToNat]
        repeat' ((first | refine guardB_dec (fun hy => ?_) (fun hy => ?_) | refine guardB_bool (fun hy => ?_) (fun hy => ?_) | refine guardQ_ite (fun hy => ?_) (fun hy => ?_) | refine brQ_dec (fun hy => ?_) (fun hy => ?_) | refine brQ_bool (fun hy => ?_) (fun hy => ?_)) <;> (try simp only [Bool.not_eq_true', Bool.not_eq_false', Bool.and_eq_true, Bool.or_eq_false_iff, decide_eq_true_eq, decide_eq_false_iff_not] at hy) <;> simp (disch := first | rfl | omega | exact lt_new _ | assumption | decide | (simp [tk_here, tk_app, tk_0, tk_S, gr_here, gr_app, gr_0, gr_S] <;> omega) | fail) only [r30_0, r30_1, r30_2, r30_3, r30_4, r30_5, r30_6, r30_7, r30_8, r30_9, l30_10, r30_11, r30_12, r30_13, r30_14, c30, rs30, gc30, loadV_ptr, storeV_ptr, List.append_assoc, List.length_append, List.length_cons, List.length_nil, List.set_cons_zero, List.set_cons_succ, tk_here, tk_app, gr_here, gr_app, st_here, st_app, t2, t3, t4, t17, t18, t19, Int.lt_irrefl, hm1, hm0, h3, go_sem, ↓reduceIte, Nat.reduceLT, Nat.reduceEqDiff, Nat.reduceAdd, Nat.reduceMul, Nat.reduceSub, Int.reduceAdd, Int.reduceSub, Nat.reduceLeDiff, Int.reduceLT, Int.reduceLE, Int.reduceEq, Int.reduceNeg, Int.reduceToNat, hy])
        exact ⟨noCp, finQ_app (by rw [noCp_f]; simp (disch := first | rfl | omega | exact lt_new _ | assumption | decide | (simp [tk_here, tk_app, tk_0, tk_S, gr_here, gr_app, gr_0, gr_S] <;> omega) | fail) only [go_sem, ↓reduceIte, Nat.reduceLT, Nat.reduceEqDiff, Nat.reduceAdd, Nat.reduceMul, Nat.reduceSub, Int.reduceAdd, Int.reduceSub, Nat.reduceLeDiff, Int.reduceLT, Int.reduceLE, Int.reduceEq, Int.reduceNeg, Int.reduceToNat]), CpEq.rfl' _⟩
      · rw [if_neg (by simp [h3])]
        simp (disch := first | rfl | omega | exact lt_new _ | assumption | decide | (simp [tk_here, tk_app, tk_0, tk_S, gr_here, gr_app, gr_0, gr_S] <;> omega) | fail) only [r30_0, r30_1, r30_2, r30_3, r30_4, r30_5, r30_6, r30_7, r30_8, r30_9, l30_10, r30_11, r30_12, r30_13, r30_14, c30, rs30, gc30, loadV_ptr, storeV_ptr, List.append_assoc, List.length_append, List.length_cons, List.length_nil, List.set_cons_zero, List.set_cons_succ, tk_here, tk_app, gr_here, gr_app, st_here, st_app, t2, t3, t4, t17, t18, t19, Int.lt_irrefl, hm1, hm0, h3, h77, go_sem, ↓reduceIte, Nat.reduceLT, Nat.reduceEqDiff, Nat.reduceAdd, Nat.reduceMul, Nat.reduceSub, Int.reduceAdd, Int.reduceSub, Nat.reduceLeDiff, Int.reduceLT, Int.reduceLE, Int.reduceEq, Int.reduceNeg, Int.reduceToNat]
        repeat' ((first | refine guardB_dec (fun hy => ?_) (fun hy => ?_) | refine guardB_bool (fun hy => ?_) (fun hy => ?_) | refine guardQ_ite (fun hy => ?_) (fun hy => ?_) | refine brQ_dec (fun hy => ?_) (fun hy => ?_) | refine brQ_bool (fun hy => ?_) (fun hy => ?_)) <;> (try simp only [Bool.not_eq_true', Bool.not_eq_false', Bool.and_eq_true, Bool.or_eq_false_iff, decide_eq_true_eq, decide_eq_false_iff_not] at hy) <;> simp (disch := first | rfl | omega | exact lt_new _ | assumption | decide | (simp [tk_here, tk_app, tk_0, tk_S, gr_here, gr_app, gr_0, gr_S] <;> omega) | fail) only [r30_0, r30_1, r30_2, r30_3, r30_4, r30_5, r30_6, r30_7, r30_8, r30_9, l30_10, r30_11, r30_12, r30_13, r30_14, c30, rs30, gc30, loadV_ptr, storeV_ptr, List.append_assoc, List.length_append, List.length_cons, List.length_nil, List.set_cons_zero, List.set_cons_succ, tk_here, tk_app, gr_here, gr_app, st_here, st_app, t2, t3, t4, t17, t18, t19, Int.lt_irrefl, hm1, hm0, h3, h77, go_sem, ↓reduceIte, Nat.reduceLT, Nat.reduceEqDiff, Nat.reduceAdd, Nat.reduceMul, Nat.reduceSub, Int.reduceAdd, Int.reduceSub, Nat.reduceLeDiff, Int.reduceLT, Int.reduceLE, Int.reduceEq, Int.reduceNeg, Int.reduceToNat, hy])
        exact ⟨d (H ++ [AB.row 0 (cpE.f c) true, AB.row 0 [.str [], .nilslice, .nilslice, .nilslice, .nilslice] true]), finQ_app (by simp (disch := first | rfl | omega | exact lt_new _ | assumption | decide | (simp [tk_here, tk_app, tk_0, tk_S, gr_here, gr_app, gr_0, gr_S] <;> omega) | fail) only [go_sem, ↓reduceIte, Nat.reduceLT, Nat.reduceEqDiff, Nat.reduceAdd, Nat.reduceMul, Nat.reduceSub, Int.reduceAdd, Int.reduceSub, Nat.reduceLeDiff, Int.reduceLT, Int.reduceLE, Int.reduceEq, Int.reduceNeg, Int.reduceToNat]), (hd _).2⟩
end Go.Proofs.Ytejkgnmjdaohdaa
/-
  The reference's picks, walked. No statement of the seat stands here.
-/
namespace Go.Proofs.Ytejkgnmjdaohdaa
open Go Go.An
set_option maxRecDepth 4000
set_option linter.unusedSimpArgs false
set_option linter.unusedVariables false

theorem any_drop {α : Type} (E : Enc α) {l : List α} {i : Nat} (h : i < l.length) (q : α → Bool) : (l.drop i).any q = (q (E.at l i) || (l.drop (i + 1)).any q) := by
  rw [List.drop_eq_getElem_cons h, List.any_cons]
  have h1 := E.at_some h
  rw [List.getElem?_eq_getElem h] at h1
  rw [Option.some.inj h1]
theorem map_take {α β : Type} (E : Enc α) {l : List α} {i : Nat} (h : i < l.length) (g : α → β) : (l.take (i + 1)).map g = (l.take i).map g ++ [g (E.at l i)] := by
  rw [List.take_add_one, E.at_some h]
  simp
theorem good_ge : ∀ {l : List Int} {p : Int}, goodL p l = true → ∀ {k : Nat}, k < l.length → p + 1 + k ≤ inE.at l k
  | [], _, _, _, hk => by cases hk
  | y :: ys, p, h, k, hk => by
    unfold goodL at h
    simp only [Bool.and_eq_true, decide_eq_true_eq] at h
    rcases k with _ | k
    · have : inE.at (y :: ys) 0 = y := by simp [Enc.at]
      rw [this]; have := h.1; omega
    · have e : inE.at (y :: ys) (k + 1) = inE.at ys k := by simp [Enc.at]
      have := good_ge h.2 (k := k) (by simpa using hk)
      rw [e]; have := h.1; omega
set_option maxHeartbeats 4000000 in
theorem fn31 (c : Cp) (hc : CpOk c) {b : Bool} {l : List Int} (hlen : l.length < 2 ^ 62) (H : Hp) : ∃ d, callL Try.prog pr 31 [.agg (cpE.f c), slV b inE l] H = some (.tup [.agg (cpE.f d), .int .i64 (pikF c l).2], H) ∧ CpEq d (pikF c l).1 := by
  suffices h : ∃ r, callL Try.prog pr 31 [.agg (cpE.f c), slV b inE l] H = some r ∧ ∃ d, r = (.tup [.agg (cpE.f d), .int .i64 (pikF c l).2], H) ∧ CpEq d (pikF c l).1 by
    obtain ⟨_, h1, d, rfl, h2⟩ := h; exact ⟨d, h1, h2⟩
  refine ex31 (Nat.le_of_ble_eq_true rfl) ?_
  have h63 := fn63 c hc
  unfold pikF
  by_cases hv : valE c = 0
  case neg =>
    rw [if_neg hv]
    simp (disch := first | rfl | omega | exact lt_new _ | assumption | decide | (simp [tk_here, tk_app, tk_0, tk_S, gr_here, gr_app, gr_0, gr_S] <;> omega) | fail) only [r31_0, r31_1, r31_2, r31_3, r31_4, r31_5, r31_6, r31_7, r31_8, r31_10, r31_11, r31_12, r31_13, r31_14, r31_15, r31_16, r31_18, c31, rs31, gc31, loadV_ptr, storeV_ptr, List.append_assoc, List.length_append, List.length_cons, List.length_nil, List.set_cons_zero, List.set_cons_succ, tk_here, tk_app, gr_here, gr_app, st_here, st_app, h63, hv, go_sem, ↓reduceIte, Nat.reduceLT, Nat.reduceEqDiff, Nat.reduceAdd, Nat.reduceMul, Nat.reduceSub, Int.reduceAdd, Int.reduceSub, Nat.reduceLeDiff, Int.reduceLT, Int.reduceLE, Int.reduceEq, Int.reduceNeg, Int.reduceToNat]
    repeat' ((first | refine guardB_dec (fun hy => ?_) (fun hy => ?_) | refine guardB_bool (fun hy => ?_) (fun hy => ?_) | refine guardQ_ite (fun hy => ?_) (fun hy => ?_) | refine brQ_dec (fun hy => ?_) (fun hy => ?_) | refine brQ_bool (fun hy => ?_) (fun hy => ?_)) <;> (try simp only [Bool.not_eq_true', Bool.not_eq_false', Bool.and_eq_true, Bool.or_eq_false_iff, decide_eq_true_eq, decide_eq_false_iff_not] at hy) <;> simp (disch := first | rfl | omega | exact lt_new _ | assumption | decide | (simp [tk_here, tk_app, tk_0, tk_S, gr_here, gr_app, gr_0, gr_S] <;> omega) | fail) only [r31_0, r31_1, r31_2, r31_3, r31_4, r31_5, r31_6, r31_7, r31_8, r31_10, r31_11, r31_12, r31_13, r31_14, r31_15, r31_16, r31_18, c31, rs31, gc31, loadV_ptr, storeV_ptr, List.append_assoc, List.length_append, List.length_cons, List.length_nil, List.set_cons_zero, List.set_cons_succ, tk_here, tk_app, gr_here, gr_app, st_here, st_app, h63, hv, go_sem, ↓reduceIte, Nat.reduceLT, Nat.reduceEqDiff, Nat.reduceAdd, Nat.reduceMul, Nat.reduceSub, Int.reduceAdd, Int.reduceSub, Nat.reduceLeDiff, Int.reduceLT, Int.reduceLE, Int.reduceEq, Int.reduceNeg, Int.reduceToNat, hy])
    exact ⟨noCp, finQ_app (by rw [noCp_f]; simp (disch := first | rfl | omega | exact lt_new _ | assumption | decide | (simp [tk_here, tk_app, tk_0, tk_S, gr_here, gr_app, gr_0, gr_S] <;> omega) | fail) only [go_sem, ↓reduceIte, Nat.reduceLT, Nat.reduceEqDiff, Nat.reduceAdd, Nat.reduceMul, Nat.reduceSub, Int.reduceAdd, Int.reduceSub, Nat.reduceLeDiff, Int.reduceLT, Int.reduceLE, Int.reduceEq, Int.reduceNeg, Int.reduceToNat]), CpEq.rfl' _⟩
  rw [if_pos hv]
  simp (disch := first | rfl | omega | exact lt_new _ | assumption | decide | (simp [tk_here, tk_app, tk_0, tk_S, gr_here, gr_app, gr_0, gr_S] <;> omega) | fail) only [r31_0, r31_1, r31_2, r31_3, r31_4, r31_5, r31_6, r31_7, r31_8, r31_10, r31_11, r31_12, r31_13, r31_14, r31_15, r31_16, r31_18, c31, rs31, gc31, loadV_ptr, storeV_ptr, List.append_assoc, List.length_append, List.length_cons, List.length_nil, List.set_cons_zero, List.set_cons_succ, tk_here, tk_app, gr_here, gr_app, st_here, st_app, h63, hv, go_sem, ↓reduceIte, Nat.reduceLT, Nat.reduceEqDiff, Nat.reduceAdd, Nat.reduceMul, Nat.reduceSub, Int.reduceAdd, Int.reduceSub, Nat.reduceLeDiff, Int.reduceLT, Int.reduceLE, Int.reduceEq, Int.reduceNeg, Int.reduceToNat]
  repeat' ((first | refine guardB_dec (fun hy => ?_) (fun hy => ?_) | refine guardB_bool (fun hy => ?_) (fun hy => ?_) | refine guardQ_ite (fun hy => ?_) (fun hy => ?_) | refine brQ_dec (fun hy => ?_) (fun hy => ?_) | refine brQ_bool (fun hy => ?_) (fun hy => ?_)) <;> (try simp only [Bool.not_eq_true', Bool.not_eq_false', Bool.and_eq_true, Bool.or_eq_false_iff, decide_eq_true_eq, decide_eq_false_iff_not] at hy) <;> simp (disch := first | rfl | omega | exact lt_new _ | assumption | decide | (simp [tk_here, tk_app, tk_0, tk_S, gr_here, gr_app, gr_0, gr_S] <;> omega) | fail) only [r31_0, r31_1, r31_2, r31_3, r31_4, r31_5, r31_6, r31_7, r31_8, r31_10, r31_11, r31_12, r31_13, r31_14, r31_15, r31_16, r31_18, c31, rs31, gc31, loadV_ptr, storeV_ptr, List.append_assoc, List.length_append, List.length_cons, List.length_nil, List.set_cons_zero, List.set_cons_succ, tk_here, tk_app, gr_here, gr_app, st_here, st_app, h63, hv, go_sem, ↓reduceIte, Nat.reduceLT, Nat.reduceEqDiff, Nat.reduceAdd, Nat.reduceMul, Nat.reduceSub, Int.reduceAdd, Int.reduceSub, Nat.reduceLeDiff, Int.reduceLT, Int.reduceLE, Int.reduceEq, Int.reduceNeg, Int.reduceToNat, hy])
  refine Wp_loop (fun m T D H' => ∃ i, m = l.length - i ∧ i ≤ l.length ∧ D = [] ∧ H' = H ++ [AB.row 0 (cpE.f c) true, AB.row 0 [.str [], .nilslice, .nilslice, .nilslice, .nilslice] true] ∧ get T 1 = slV b inE l ∧ get T 2 = .ptr H.length 0 0 ∧ get T 4 = .ptr (H.length + 1) 0 0 ∧ get T 7 = .int .i64 i ∧ goodL (-1) l = goodL (pv l i) (l.drop i) ∧ -1 ≤ pv l i) ?_ l.length _ _ _ ?_
  case refine_2 => exact ⟨0, by simp (disch := first | rfl | omega | exact lt_new _ | assumption | decide | (simp [tk_here, tk_app, tk_0, tk_S, gr_here, gr_app, gr_0, gr_S] <;> omega) | fail) only [go_sem, ↓reduceIte, Nat.reduceLT, Nat.reduceEqDiff, Nat.reduceAdd, Nat.reduceMul, Nat.reduceSub, Int.reduceAdd, Int.reduceSub, Nat.reduceLeDiff, Int.reduceLT, Int.reduceLE, Int.reduceEq, Int.reduceNeg, Int.reduceToNat]; simp [pv]⟩
  rintro m T D H' ⟨i, rfl, hi, rfl, rfl, t1, t2, t4, t7, hg, hpv⟩
  have hs4 := (val_S hv).1.2.2.2
  by_cases hlt : i < l.length
  · have hlt' : (i : Int) < l.length := by omega
    rw [goodL_drop hlt] at hg
    by_cases h1 : inE.at l i < 0
    · rw [decide_eq_false (by omega), Bool.false_and] at hg
      rw [if_neg (by simp [hg])]
      simp (disch := first | rfl | omega | exact lt_new _ | assumption | decide | (simp [tk_here, tk_app, tk_0, tk_S, gr_here, gr_app, gr_0, gr_S] <;> omega) | fail) only [r31_0, r31_1, r31_2, r31_3, r31_4, r31_5, r31_6, r31_7, r31_8, l31_9, r31_10, r31_11, r31_12, r31_13, r31_14, r31_15, r31_16, l31_17, r31_18, c31, rs31, gc31, loadV_ptr, storeV_ptr, List.append_assoc, List.length_append, List.length_cons, List.length_nil, List.set_cons_zero, List.set_cons_succ, tk_here, tk_app, gr_here, gr_app, st_here, st_app, t1, t2, t4, t7, hlt', h1, go_sem, ↓reduceIte, Nat.reduceLT, Nat.reduceEqDiff, Nat.reduceAdd, Nat.reduceMul, Nat.reduceSub, Int.reduceAdd, Int.reduceSub, Nat.reduceLeDiff, Int.reduceLT, Int.reduceLE, Int.reduceEq, Int.reduceNeg, Int.reduceToNat]
      repeat' ((first | refine guardB_dec (fun hy => ?_) (fun hy => ?_) | refine guardB_bool (fun hy => ?_) (fun hy => ?_) | refine guardQ_ite (fun hy => ?_) (fun hy => ?_) | refine brQ_dec (fun hy => ?_) (fun hy => ?_) | refine brQ_bool (fun hy => ?_) (fun hy => ?_)) <;> (try simp only [Bool.not_eq_true', Bool.not_eq_false', Bool.and_eq_true, Bool.or_eq_false_iff, decide_eq_true_eq, decide_eq_false_iff_not] at hy) <;> simp (disch := first | rfl | omega | exact lt_new _ | assumption | decide | (simp [tk_here, tk_app, tk_0, tk_S, gr_here, gr_app, gr_0, gr_S] <;> omega) | fail) only [r31_0, r31_1, r31_2, r31_3, r31_4, r31_5, r31_6, r31_7, r31_8, l31_9, r31_10, r31_11, r31_12, r31_13, r31_14, r31_15, r31_16, l31_17, r31_18, c31, rs31, gc31, loadV_ptr, storeV_ptr, List.append_assoc, List.length_append, List.length_cons, List.length_nil, List.set_cons_zero, List.set_cons_succ, tk_here, tk_app, gr_here, gr_app, st_here, st_app, t1, t2, t4, t7, hlt', h1, go_sem, ↓reduceIte, Nat.reduceLT, Nat.reduceEqDiff, Nat.reduceAdd, Nat.reduceMul, Nat.reduceSub, Int.reduceAdd, Int.reduceSub, Nat.reduceLeDiff, Int.reduceLT, Int.reduceLE, Int.reduceEq, Int.reduceNeg, Int.reduceToNat, hy])
      exact ⟨noCp, finQ_app (by rw [noCp_f]; simp (disch := first | rfl | omega | exact lt_new _ | assumption | decide | (simp [tk_here, tk_app, tk_0, tk_S, gr_here, gr_app, gr_0, gr_S] <;> omega) | fail) only [go_sem, ↓reduceIte, Nat.reduceLT, Nat.reduceEqDiff, Nat.reduceAdd, Nat.reduceMul, Nat.reduceSub, Int.reduceAdd, Int.reduceSub, Nat.reduceLeDiff, Int.reduceLT, Int.reduceLE, Int.reduceEq, Int.reduceNeg, Int.reduceToNat]), CpEq.rfl' _⟩
    · by_cases hi0 : i = 0
      · have hpz : pv l i = -1 := by simp [pv, hi0]
        have hi1 : ¬ (0 : Int) < (i : Int) := by omega
        have hpn : pv l (i + 1) = inE.at l i := by simp [pv]
        rw [decide_eq_true (by omega), Bool.true_and] at hg
        simp (disch := first | rfl | omega | exact lt_new _ | assumption | decide | (simp [tk_here, tk_app, tk_0, tk_S, gr_here, gr_app, gr_0, gr_S] <;> omega) | fail) only [r31_0, r31_1, r31_2, r31_3, r31_4, r31_5, r31_6, r31_7, r31_8, l31_9, r31_10, r31_11, r31_12, r31_13, r31_14, r31_15, r31_16, l31_17, r31_18, c31, rs31, gc31, loadV_ptr, storeV_ptr, List.append_assoc, List.length_append, List.length_cons, List.length_nil, List.set_cons_zero, List.set_cons_succ, tk_here, tk_app, gr_here, gr_app, st_here, st_app, t1, t2, t4, t7, hlt', h1, hi1, go_sem, ↓reduceIte, Nat.reduceLT, Nat.reduceEqDiff, Nat.reduceAdd, Nat.reduceMul, Nat.reduceSub, Int.reduceAdd, Int.reduceSub, Nat.reduceLeDiff, Int.reduceLT, Int.reduceLE, Int.reduceEq, Int.reduceNeg, Int.reduceToNat]
        repeat' ((first | refine guardB_dec (fun hy => ?_) (fun hy => ?_) | refine guardB_bool (fun hy => ?_) (fun hy => ?_) | refine guardQ_ite (fun hy => ?_) (fun hy => ?_) | refine brQ_dec (fun hy => ?_) (fun hy => ?_) | refine brQ_bool (fun hy => ?_) (fun hy => ?_)) <;> (try simp only [Bool.not_eq_true', Bool.not_eq_false', Bool.and_eq_true, Bool.or_eq_false_iff, decide_eq_true_eq, decide_eq_false_iff_not] at hy) <;> simp (disch := first | rfl | omega | exact lt_new _ | assumption | decide | (simp [tk_here, tk_app, tk_0, tk_S, gr_here, gr_app, gr_0, gr_S] <;> omega) | fail) only [r31_0, r31_1, r31_2, r31_3, r31_4, r31_5, r31_6, r31_7, r31_8, l31_9, r31_10, r31_11, r31_12, r31_13, r31_14, r31_15, r31_16, l31_17, r31_18, c31, rs31, gc31, loadV_ptr, storeV_ptr, List.append_assoc, List.length_append, List.length_cons, List.length_nil, List.set_cons_zero, List.set_cons_succ, tk_here, tk_app, gr_here, gr_app, st_here, st_app, t1, t2, t4, t7, hlt', h1, hi1, go_sem, ↓reduceIte, Nat.reduceLT, Nat.reduceEqDiff, Nat.reduceAdd, Nat.reduceMul, Nat.reduceSub, Int.reduceAdd, Int.reduceSub, Nat.reduceLeDiff, Int.reduceLT, Int.reduceLE, Int.reduceEq, Int.reduceNeg, Int.reduceToNat, hy])
        exact ⟨_, by omega, i + 1, rfl, hlt, rfl, hg, by omega⟩
      · obtain ⟨j, hj⟩ : ∃ j, i = j + 1 := ⟨i - 1, by omega⟩
        have hj1 : (i : Int) - 1 = (j : Int) := by omega
        have hj0 : (0 : Int) < (i : Int) := by omega
        have hjl : j < l.length := by omega
        have hpj : pv l i = inE.at l j := by simp [pv, hj]
        have hpn : pv l (i + 1) = inE.at l i := by simp [pv]
        rw [hpj] at hg
        by_cases h2 : inE.at l i ≤ inE.at l j
        · rw [decide_eq_false (by omega), Bool.false_and] at hg
          rw [if_neg (by simp [hg])]
          simp (disch := first | rfl | omega | exact lt_new _ | assumption | decide | (simp [tk_here, tk_app, tk_0, tk_S, gr_here, gr_app, gr_0, gr_S] <;> omega) | fail) only [r31_0, r31_1, r31_2, r31_3, r31_4, r31_5, r31_6, r31_7, r31_8, l31_9, r31_10, r31_11, r31_12, r31_13, r31_14, r31_15, r31_16, l31_17, r31_18, c31, rs31, gc31, loadV_ptr, storeV_ptr, List.append_assoc, List.length_append, List.length_cons, List.length_nil, List.set_cons_zero, List.set_cons_succ, tk_here, tk_app, gr_here, gr_app, st_here, st_app, t1, t2, t4, t7, hlt', h1, hj1, hj0, h2, go_sem, ↓reduceIte, Nat.reduceLT, Nat.reduceEqDiff, Nat.reduceAdd, Nat.reduceMul, Nat.reduceSub, Int.reduceAdd, Int.reduceSub, Nat.reduceLeDiff, Int.reduceLT, Int.reduceLE, Int.reduceEq, Int.reduceNeg, Int.reduceToNat]
          repeat' ((first | refine guardB_dec (fun hy => ?_) (fun hy => ?_) | refine guardB_bool (fun hy => ?_) (fun hy => ?_) | refine guardQ_ite (fun hy => ?_) (fun hy => ?_) | refine brQ_dec (fun hy => ?_) (fun hy => ?_) | refine brQ_bool (fun hy => ?_) (fun hy => ?_)) <;> (try simp only [Bool.not_eq_true', Bool.not_eq_false', Bool.and_eq_true, Bool.or_eq_false_iff, decide_eq_true_eq, decide_eq_false_iff_not] at hy) <;> simp (disch := first | rfl | omega | exact lt_new _ | assumption | decide | (simp [tk_here, tk_app, tk_0, tk_S, gr_here, gr_app, gr_0, gr_S] <;> omega) | fail) only [r31_0, r31_1, r31_2, r31_3, r31_4, r31_5, r31_6, r31_7, r31_8, l31_9, r31_10, r31_11, r31_12, r31_13, r31_14, r31_15, r31_16, l31_17, r31_18, c31, rs31, gc31, loadV_ptr, storeV_ptr, List.append_assoc, List.length_append, List.length_cons, List.length_nil, List.set_cons_zero, List.set_cons_succ, tk_here, tk_app, gr_here, gr_app, st_here, st_app, t1, t2, t4, t7, hlt', h1, hj1, hj0, h2, go_sem, ↓reduceIte, Nat.reduceLT, Nat.reduceEqDiff, Nat.reduceAdd, Nat.reduceMul, Nat.reduceSub, Int.reduceAdd, Int.reduceSub, Nat.reduceLeDiff, Int.reduceLT, Int.reduceLE, Int.reduceEq, Int.reduceNeg, Int.reduceToNat, hy])
          exact ⟨noCp, finQ_app (by rw [noCp_f]; simp (disch := first | rfl | omega | exact lt_new _ | assumption | decide | (simp [tk_here, tk_app, tk_0, tk_S, gr_here, gr_app, gr_0, gr_S] <;> omega) | fail) only [go_sem, ↓reduceIte, Nat.reduceLT, Nat.reduceEqDiff, Nat.reduceAdd, Nat.reduceMul, Nat.reduceSub, Int.reduceAdd, Int.reduceSub, Nat.reduceLeDiff, Int.reduceLT, Int.reduceLE, Int.reduceEq, Int.reduceNeg, Int.reduceToNat]), CpEq.rfl' _⟩
        · rw [decide_eq_true (by omega), Bool.true_and] at hg
          simp (disch := first | rfl | omega | exact lt_new _ | assumption | decide | (simp [tk_here, tk_app, tk_0, tk_S, gr_here, gr_app, gr_0, gr_S] <;> omega) | fail) only [r31_0, r31_1, r31_2, r31_3, r31_4, r31_5, r31_6, r31_7, r31_8, l31_9, r31_10, r31_11, r31_12, r31_13, r31_14, r31_15, r31_16, l31_17, r31_18, c31, rs31, gc31, loadV_ptr, storeV_ptr, List.append_assoc, List.length_append, List.length_cons, List.length_nil, List.set_cons_zero, List.set_cons_succ, tk_here, tk_app, gr_here, gr_app, st_here, st_app, t1, t2, t4, t7, hlt', h1, hj1, hj0, h2, go_sem, ↓reduceIte, Nat.reduceLT, Nat.reduceEqDiff, Nat.reduceAdd, Nat.reduceMul, Nat.reduceSub, Int.reduceAdd, Int.reduceSub, Nat.reduceLeDiff, Int.reduceLT, Int.reduceLE, Int.reduceEq, Int.reduceNeg, Int.reduceToNat]
          repeat' ((first | refine guardB_dec (fun hy => ?_) (fun hy => ?_) | refine guardB_bool (fun hy => ?_) (fun hy => ?_) | refine guardQ_ite (fun hy => ?_) (fun hy => ?_) | refine brQ_dec (fun hy => ?_) (fun hy => ?_) | refine brQ_bool (fun hy => ?_) (fun hy => ?_)) <;> (try simp only [Bool.not_eq_true', Bool.not_eq_false', Bool.and_eq_true, Bool.or_eq_false_iff, decide_eq_true_eq, decide_eq_false_iff_not] at hy) <;> simp (disch := first | rfl | omega | exact lt_new _ | assumption | decide | (simp [tk_here, tk_app, tk_0, tk_S, gr_here, gr_app, gr_0, gr_S] <;> omega) | fail) only [r31_0, r31_1, r31_2, r31_3, r31_4, r31_5, r31_6, r31_7, r31_8, l31_9, r31_10, r31_11, r31_12, r31_13, r31_14, r31_15, r31_16, l31_17, r31_18, c31, rs31, gc31, loadV_ptr, storeV_ptr, List.append_assoc, List.length_append, List.length_cons, List.length_nil, List.set_cons_zero, List.set_cons_succ, tk_here, tk_app, gr_here, gr_app, st_here, st_app, t1, t2, t4, t7, hlt', h1, hj1, hj0, h2, go_sem, ↓reduceIte, Nat.reduceLT, Nat.reduceEqDiff, Nat.reduceAdd, Nat.reduceMul, Nat.reduceSub, Int.reduceAdd, Int.reduceSub, Nat.reduceLeDiff, Int.reduceLT, Int.reduceLE, Int.reduceEq, Int.reduceNeg, Int.reduceToNat, hy])
          exact ⟨_, by omega, i + 1, rfl, hlt, rfl, hg, by omega⟩
  · obtain rfl : i = l.length := by omega
    rw [List.drop_length] at hg
    have hg2 : goodL (-1) l = true := hg
    rw [if_pos hg2]
    simp (disch := first | rfl | omega | exact lt_new _ | assumption | decide | (simp [tk_here, tk_app, tk_0, tk_S, gr_here, gr_app, gr_0, gr_S] <;> omega) | fail) only [r31_0, r31_1, r31_2, r31_3, r31_4, r31_5, r31_6, r31_7, r31_8, r31_10, r31_11, r31_12, r31_13, r31_14, r31_15, r31_16, r31_18, c31, rs31, gc31, l31_9, r31_5, loadV_ptr, storeV_ptr, List.append_assoc, List.length_append, List.length_cons, List.length_nil, List.set_cons_zero, List.set_cons_succ, tk_here, tk_app, gr_here, gr_app, st_here, st_app, t1, t2, t4, t7, Int.lt_irrefl, go_sem, ↓reduceIte, Nat.reduceLT, Nat.reduceEqDiff, Nat.reduceAdd, Nat.reduceMul, Nat.reduceSub, Int.reduceAdd, Int.reduceSub, Nat.reduceLeDiff, Int.reduceLT, Int.reduceLE, Int.reduceEq, Int.reduceNeg, Int.reduceToNat]
    repeat' ((first | refine guardB_dec (fun hy => ?_) (fun hy => ?_) | refine guardB_bool (fun hy => ?_) (fun hy => ?_) | refine guardQ_ite (fun hy => ?_) (fun hy => ?_) | refine brQ_dec (fun hy => ?_) (fun hy => ?_) | refine brQ_bool (fun hy => ?_) (fun hy => ?_)) <;> (try simp only [Bool.not_eq_true', Bool.not_eq_false', Bool.and_eq_true, Bool.or_eq_false_iff, decide_eq_true_eq, decide_eq_false_iff_not] at hy) <;> simp (disch := first | rfl | omega | exact lt_new _ | assumption | decide | (simp [tk_here, tk_app, tk_0, tk_S, gr_here, gr_app, gr_0, gr_S] <;> omega) | fail) only [r31_0, r31_1, r31_2, r31_3, r31_4, r31_5, r31_6, r31_7, r31_8, r31_10, r31_11, r31_12, r31_13, r31_14, r31_15, r31_16, r31_18, c31, rs31, gc31, l31_9, r31_5, loadV_ptr, storeV_ptr, List.append_assoc, List.length_append, List.length_cons, List.length_nil, List.set_cons_zero, List.set_cons_succ, tk_here, tk_app, gr_here, gr_app, st_here, st_app, t1, t2, t4, t7, Int.lt_irrefl, go_sem, ↓reduceIte, Nat.reduceLT, Nat.reduceEqDiff, Nat.reduceAdd, Nat.reduceMul, Nat.reduceSub, Int.reduceAdd, Int.reduceSub, Nat.reduceLeDiff, Int.reduceLT, Int.reduceLE, Int.reduceEq, Int.reduceNeg, Int.reduceToNat, hy])
    refine Wp_loop (fun m T D H' => ∃ k, m = l.length - k ∧ k ≤ l.length ∧ D = [] ∧ H' = H ++ [AB.row 0 (cpE.f c) true, AB.row 0 [.str [], .nilslice, .nilslice, .nilslice, .nilslice] true, .tok (k * 5)] ∧ get T 1 = slV b inE l ∧ get T 2 = .ptr H.length 0 0 ∧ get T 4 = .ptr (H.length + 1) 0 0 ∧ get T 8 = osV (H.length + 2) pkE ((l.take k).map fun x => pkE.at c.packets x.toNat) ∧ get T 9 = .int .i64 k ∧ (l.any fun x => decide ((c.packets.length : Int) ≤ x)) = ((l.drop k).any fun x => decide ((c.packets.length : Int) ≤ x))) ?_ l.length _ _ _ ?_
    case refine_2 => exact ⟨0, by simp (disch := first | rfl | omega | exact lt_new _ | assumption | decide | (simp [tk_here, tk_app, tk_0, tk_S, gr_here, gr_app, gr_0, gr_S] <;> omega) | fail) only [go_sem, ↓reduceIte, Nat.reduceLT, Nat.reduceEqDiff, Nat.reduceAdd, Nat.reduceMul, Nat.reduceSub, Int.reduceAdd, Int.reduceSub, Nat.reduceLeDiff, Int.reduceLT, Int.reduceLE, Int.reduceEq, Int.reduceNeg, Int.reduceToNat]; simp [t1, t2, t4, osV_nil, go_sem]⟩
    rintro m T D H' ⟨k, rfl, hk, rfl, rfl, t1, t2, t4, t8, t9, hany⟩
    by_cases hlt : k < l.length
    · have hlt' : (k : Int) < l.length := by omega
      rw [any_drop inE hlt] at hany
      have hge := good_ge hg2 hlt
      have hx0 : -1 < inE.at l k := goodL_gt hg2 _ (inE.at_mem hlt)
      by_cases h3 : (c.packets.length : Int) ≤ inE.at l k
      · rw [if_pos (by rw [hany, decide_eq_true h3]; rfl)]
        simp (disch := first | rfl | omega | exact lt_new _ | assumption | decide | (simp [tk_here, tk_app, tk_0, tk_S, gr_here, gr_app, gr_0, gr_S] <;> omega) | fail) only [r31_0, r31_1, r31_2, r31_3, r31_4, r31_5, r31_6, r31_7, r31_8, l31_9, r31_10, r31_11, r31_12, r31_13, r31_14, r31_15, r31_16, l31_17, r31_18, c31, rs31, gc31, loadV_ptr, storeV_ptr, List.append_assoc, List.length_append, List.length_cons, List.length_nil, List.set_cons_zero, List.set_cons_succ, tk_here, tk_app, gr_here, gr_app, st_here, st_app, t1, t2, t4, t8, t9, hlt', h3, go_sem, ↓reduceIte, Nat.reduceLT, Nat.reduceEqDiff, Nat.reduceAdd, Nat.reduceMul, Nat.reduceSub, Int.reduceAdd, Int.reduceSub, Nat.reduceLeDiff, Int.reduceLT, Int.reduceLE, Int.reduceEq, Int.reduceNeg, Int.reduceToNat]
        repeat' ((first | refine guardB_dec (fun hy => ?_) (fun hy => ?_) | refine guardB_bool (fun hy => ?_) (fun hy => ?_) | refine guardQ_ite (fun hy => ?_) (fun hy => ?_) | refine brQ_dec (fun hy => ?_) (fun hy => ?_) | refine brQ_bool (fun hy => ?_) (fun hy => ?_)) <;> (try simp only [Bool.not_eq_true', Bool.not_eq_false', Bool.and_eq_true, Bool.or_eq_false_iff, decide_eq_true_eq, decide_eq_false_iff_not] at hy) <;> simp (disch := first | rfl | omega | exact lt_new _ | assumption | decide | (simp [tk_here, tk_app, tk_0, tk_S, gr_here, gr_app, gr_0, gr_S] <;> omega) | fail) only [r31_0, r31_1, r31_2, r31_3, r31_4, r31_5, r31_6, r31_7, r31_8, l31_9, r31_10, r31_11, r31_12, r31_13, r31_14, r31_15, r31_16, l31_17, r31_18, c31, rs31, gc31, loadV_ptr, storeV_ptr, List.append_assoc, List.length_append, List.length_cons, List.length_nil, List.set_cons_zero, List.set_cons_succ, tk_here, tk_app, gr_here, gr_app, st_here, st_app, t1, t2, t4, t8, t9, hlt', h3, go_sem, ↓reduceIte, Nat.reduceLT, Nat.reduceEqDiff, Nat.reduceAdd, Nat.reduceMul, Nat.reduceSub, Int.reduceAdd, Int.reduceSub, Nat.reduceLeDiff, Int.reduceLT, Int.reduceLE, Int.reduceEq, Int.reduceNeg, Int.reduceToNat, hy])
        exact ⟨noCp, finQ_app (by rw [noCp_f]; simp (disch := first | rfl | omega | exact lt_new _ | assumption | decide | (simp [tk_here, tk_app, tk_0, tk_S, gr_here, gr_app, gr_0, gr_S] <;> omega) | fail) only [go_sem, ↓reduceIte, Nat.reduceLT, Nat.reduceEqDiff, Nat.reduceAdd, Nat.reduceMul, Nat.reduceSub, Int.reduceAdd, Int.reduceSub, Nat.reduceLeDiff, Int.reduceLT, Int.reduceLE, Int.reduceEq, Int.reduceNeg, Int.reduceToNat]), CpEq.rfl' _⟩
      · rw [decide_eq_false h3, Bool.false_or] at hany
        obtain ⟨x, hx⟩ : ∃ x : Nat, inE.at l k = (x : Int) := ⟨(inE.at l k).toNat, by omega⟩
        have hmt := map_take inE hlt (fun x : Int => pkE.at c.packets x.toNat)
        rw [hx] at hmt h3 hge
        simp only [Int.toNat_natCast] at hmt
        have hxl : x < c.packets.length := by omega
        have hl1 : ((l.take k).map fun x : Int => pkE.at c.packets x.toNat).length = k := by simp; omega
        generalize hoo : (l.take k).map (fun x : Int => pkE.at c.packets x.toNat) = o at t8 hmt hl1
        simp (disch := first | rfl | omega | exact lt_new _ | assumption | decide | (simp [tk_here, tk_app, tk_0, tk_S, gr_here, gr_app, gr_0, gr_S] <;> omega) | fail) only [r31_0, r31_1, r31_2, r31_3, r31_4, r31_5, r31_6, r31_7, r31_8, l31_9, r31_10, r31_11, r31_12, r31_13, r31_14, r31_15, r31_16, l31_17, r31_18, c31, rs31, gc31, loadV_ptr, storeV_ptr, List.append_assoc, List.length_append, List.length_cons, List.length_nil, List.set_cons_zero, List.set_cons_succ, tk_here, tk_app, gr_here, gr_app, st_here, st_app, t1, t2, t4, t8, t9, hlt', hx, h3, go_sem, ↓reduceIte, Nat.reduceLT, Nat.reduceEqDiff, Nat.reduceAdd, Nat.reduceMul, Nat.reduceSub, Int.reduceAdd, Int.reduceSub, Nat.reduceLeDiff, Int.reduceLT, Int.reduceLE, Int.reduceEq, Int.reduceNeg, Int.reduceToNat]
        repeat' ((first | refine guardB_dec (fun hy => ?_) (fun hy => ?_) | refine guardB_bool (fun hy => ?_) (fun hy => ?_) | refine guardQ_ite (fun hy => ?_) (fun hy => ?_) | refine brQ_dec (fun hy => ?_) (fun hy => ?_) | refine brQ_bool (fun hy => ?_) (fun hy => ?_)) <;> (try simp only [Bool.not_eq_true', Bool.not_eq_false', Bool.and_eq_true, Bool.or_eq_false_iff, decide_eq_true_eq, decide_eq_false_iff_not] at hy) <;> simp (disch := first | rfl | omega | exact lt_new _ | assumption | decide | (simp [tk_here, tk_app, tk_0, tk_S, gr_here, gr_app, gr_0, gr_S] <;> omega) | fail) only [r31_0, r31_1, r31_2, r31_3, r31_4, r31_5, r31_6, r31_7, r31_8, l31_9, r31_10, r31_11, r31_12, r31_13, r31_14, r31_15, r31_16, l31_17, r31_18, c31, rs31, gc31, loadV_ptr, storeV_ptr, List.append_assoc, List.length_append, List.length_cons, List.length_nil, List.set_cons_zero, List.set_cons_succ, tk_here, tk_app, gr_here, gr_app, st_here, st_app, t1, t2, t4, t8, t9, hlt', hx, h3, go_sem, ↓reduceIte, Nat.reduceLT, Nat.reduceEqDiff, Nat.reduceAdd, Nat.reduceMul, Nat.reduceSub, Int.reduceAdd, Int.reduceSub, Nat.reduceLeDiff, Int.reduceLT, Int.reduceLE, Int.reduceEq, Int.reduceNeg, Int.reduceToNat, hy])
        exact ⟨_, by omega, k + 1, rfl, hlt, by simp [Nat.add_mul, hl1], by rw [hmt], rfl, hany⟩
    · obtain rfl : k = l.length := by omega
      rw [List.drop_length] at hany
      have hany2 : (l.any fun x => decide ((c.packets.length : Int) ≤ x)) = false := hany
      rw [if_neg (by simp [hany2]), List.take_length] at *
      have h76 := fun H => fn76 c (b := true) (l := l.map fun x => pkE.at c.packets x.toNat) H
      simp (disch := first | rfl | omega | exact lt_new _ | assumption | decide | (simp [tk_here, tk_app, tk_0, tk_S, gr_here, gr_app, gr_0, gr_S] <;> omega) | fail) only [r31_0, r31_1, r31_2, r31_3, r31_4, r31_5, r31_6, r31_7, r31_8, l31_9, r31_10, r31_11, r31_12, r31_13, r31_14, r31_15, r31_16, l31_17, r31_18, c31, rs31, gc31, loadV_ptr, storeV_ptr, List.append_assoc, List.length_append, List.length_cons, List.length_nil, List.set_cons_zero, List.set_cons_succ, tk_here, tk_app, gr_here, gr_app, st_here, st_app, t1, t2, t4, t8, t9, Int.lt_irrefl, h76, go_sem, ↓reduceIte, Nat.reduceLT, Nat.reduceEqDiff, Nat.reduceAdd, Nat.reduceMul, Nat.reduceSub, Int.reduceAdd, Int.reduceSub, Nat.reduceLeDiff, Int.reduceLT, Int.reduceLE, Int.reduceEq, Int.reduceNeg, Int.reduceToNat]
      repeat' ((first | refine guardB_dec (fun hy => ?_) (fun hy => ?_) | refine guardB_bool (fun hy => ?_) (fun hy => ?_) | refine guardQ_ite (fun hy => ?_) (fun hy => ?_) | refine brQ_dec (fun hy => ?_) (fun hy => ?_) | refine brQ_bool (fun hy => ?_) (fun hy => ?_)) <;> (try simp only [Bool.not_eq_true', Bool.not_eq_false', Bool.and_eq_true, Bool.or_eq_false_iff, decide_eq_true_eq, decide_eq_false_iff_not] at hy) <;> simp (disch := first | rfl | omega | exact lt_new _ | assumption | decide | (simp [tk_here, tk_app, tk_0, tk_S, gr_here, gr_app, gr_0, gr_S] <;> omega) | fail) only [r31_0, r31_1, r31_2, r31_3, r31_4, r31_5, r31_6, r31_7, r31_8, l31_9, r31_10, r31_11, r31_12, r31_13, r31_14, r31_15, r31_16, l31_17, r31_18, c31, rs31, gc31, loadV_ptr, storeV_ptr, List.append_assoc, List.length_append, List.length_cons, List.length_nil, List.set_cons_zero, List.set_cons_succ, tk_here, tk_app, gr_here, gr_app, st_here, st_app, t1, t2, t4, t8, t9, Int.lt_irrefl, h76, go_sem, ↓reduceIte, Nat.reduceLT, Nat.reduceEqDiff, Nat.reduceAdd, Nat.reduceMul, Nat.reduceSub, Int.reduceAdd, Int.reduceSub, Nat.reduceLeDiff, Int.reduceLT, Int.reduceLE, Int.reduceEq, Int.reduceNeg, Int.reduceToNat, hy])
      exact ⟨{c with packetsN := true, packets := l.map fun x => pkE.at c.packets x.toNat}, finQ_app (by simp (disch := first | rfl | omega | exact lt_new _ | assumption | decide | (simp [tk_here, tk_app, tk_0, tk_S, gr_here, gr_app, gr_0, gr_S] <;> omega) | fail) only [go_sem, ↓reduceIte, Nat.reduceLT, Nat.reduceEqDiff, Nat.reduceAdd, Nat.reduceMul, Nat.reduceSub, Int.reduceAdd, Int.reduceSub, Nat.reduceLeDiff, Int.reduceLT, Int.reduceLE, Int.reduceEq, Int.reduceNeg, Int.reduceToNat]), rfl, rfl, rfl, rfl, (keep_all hg2 c.packets hany2).symm⟩
end Go.Proofs.Ytejkgnmjdaohdaa
/-
  The statement's function 'FilePicks', walked. No statement of the seat stands here.
-/
namespace Go.Proofs.Ytejkgnmjdaohdaa
open Go Go.An
set_option maxRecDepth 4000
set_option linter.unusedSimpArgs false
set_option linter.unusedVariables false

theorem sameL_refl {α : Type} {S : α → α → Bool} (h : ∀ x, S x x = true) : ∀ l : List α, sameL S l l = true
  | [] => rfl
  | x :: xs => by unfold sameL; rw [h, sameL_refl h xs]; rfl
theorem sameB_eq {a b d : Cp} (h : CpEq a d) (h' : CpEq b d) : sameB a b = true := by
  obtain ⟨h1, h2, h3, h4, h5⟩ := h
  obtain ⟨g1, g2, g3, g4, g5⟩ := h'
  unfold sameB
  rw [h1, h2, h3, h4, h5, g1, g2, g3, g4, g5, sameL_refl (by simp [fcS]), sameL_refl (by simp [nmS]), sameL_refl (by simp [scS]), sameL_refl (by simp [pkS])]
  simp
theorem CpEq.fits {a d : Cp} (h : CpEq a d) (hd : Fits d) : Fits a := by
  obtain ⟨h1, h2, h3, h4, h5⟩ := h
  unfold Fits
  rw [h2, h3, h4, h5]
  exact hd
theorem noFits : Fits noCp := ⟨by decide, by decide, by decide, by decide⟩
theorem keepFits {c : Cp} (hc : CpOk c) (P : Nat → Pk → Bool) : Fits {c with packets := keepP P c.packets c.packets.length} := by
  obtain ⟨h1, h2, h3, h4⟩ := hc.fits
  have := keepP_len P c.packets c.packets.length
  exact ⟨h1, h2, h3, by simp only; omega⟩
theorem rngFits {c : Cp} (hc : CpOk c) (a b : Int) : Fits (rngF c a b).1 := by
  unfold rngF
  split
  · exact keepFits hc _
  · exact noFits
theorem pikFits {c : Cp} (hc : CpOk c) (l : List Int) : Fits (pikF c l).1 := by
  unfold pikF
  split
  · split
    · split
      · exact noFits
      · exact keepFits hc _
    · exact noFits
  · exact noFits
theorem fn7 (c : Cp) (hc : CpOk c) (x y : Int) {b : Bool} {l : List Int} (hl : l.length < 2 ^ 62) (H : Hp) : callL Try.prog pr 7 [.agg (cpE.f c), .agg [.int .i64 x, .int .i64 y], slV b inE l] H = some (.bool true, H) := by
  obtain ⟨n, h21⟩ : ∃ n : Hp → Int, ∀ H, callL Try.prog pr 21 [.agg (cpE.f c)] H = some (.int .i64 (n H), H) := ⟨fun H => (fn21 c hc H).choose, fun H => (fn21 c hc H).choose_spec⟩
  obtain ⟨d1, h1⟩ : ∃ d : Hp → Cp, ∀ H, callL Try.prog pr 28 [.agg (cpE.f c), .int .i64 x, .int .i64 y] H = some (.tup [.agg (cpE.f (d H)), .int .i64 (rngF c x y).2], H) ∧ CpEq (d H) (rngF c x y).1 := ⟨fun H => (fn28 c hc x y H).choose, fun H => (fn28 c hc x y H).choose_spec⟩
  obtain ⟨d2, h2⟩ : ∃ d : Hp → Cp, ∀ H, callL Try.prog pr 29 [.agg (cpE.f c), .int .i64 x, .int .i64 y] H = some (.tup [.agg (cpE.f (d H)), .int .i64 (rngF c x y).2], H) ∧ CpEq (d H) (rngF c x y).1 := ⟨fun H => (fn29 c hc x y H).choose, fun H => (fn29 c hc x y H).choose_spec⟩
  obtain ⟨d3, h3⟩ : ∃ d : Hp → Cp, ∀ H, callL Try.prog pr 30 [.agg (cpE.f c), slV b inE l] H = some (.tup [.agg (cpE.f (d H)), .int .i64 (pikF c l).2], H) ∧ CpEq (d H) (pikF c l).1 := ⟨fun H => (fn30 c hc hl H).choose, fun H => (fn30 c hc hl H).choose_spec⟩
  obtain ⟨d4, h4⟩ : ∃ d : Hp → Cp, ∀ H, callL Try.prog pr 31 [.agg (cpE.f c), slV b inE l] H = some (.tup [.agg (cpE.f (d H)), .int .i64 (pikF c l).2], H) ∧ CpEq (d H) (pikF c l).1 := ⟨fun H => (fn31 c hc hl H).choose, fun H => (fn31 c hc hl H).choose_spec⟩
  have s12 : ∀ H1 H2 H, callL Try.prog pr 18 [.agg (cpE.f (d1 H1)), .agg (cpE.f (d2 H2))] H = some (.bool true, H) := fun H1 H2 H => by
    rw [fn18 _ _ ((h1 H1).2.fits (rngFits hc x y)), sameB_eq (h1 H1).2 (h2 H2).2]
  have s34 : ∀ H1 H2 H, callL Try.prog pr 18 [.agg (cpE.f (d3 H1)), .agg (cpE.f (d4 H2))] H = some (.bool true, H) := fun H1 H2 H => by
    rw [fn18 _ _ ((h3 H1).2.fits (pikFits hc l)), sameB_eq (h3 H1).2 (h4 H2).2]
  have e1 := fun H => (h1 H).1
  have e2 := fun H => (h2 H).1
  have e3 := fun H => (h3 H).1
  have e4 := fun H => (h4 H).1
  refine run7 (Nat.le_of_ble_eq_true rfl) ?_
  simp (disch := first | rfl | omega | exact lt_new _ | assumption | decide | (simp [tk_here, tk_app, tk_0, tk_S, gr_here, gr_app, gr_0, gr_S] <;> omega) | fail) only [r7_0, r7_1, r7_2, r7_3, r7_4, r7_5, r7_6, r7_7, c7, rs7, gc7, loadV_ptr, storeV_ptr, List.append_assoc, List.length_append, List.length_cons, List.length_nil, List.set_cons_zero, List.set_cons_succ, tk_here, tk_app, gr_here, gr_app, st_here, st_app, known_call, h21, e1, e2, e3, e4, s12, s34, go_sem, ↓reduceIte, Nat.reduceLT, Nat.reduceEqDiff, Nat.reduceAdd, Nat.reduceMul, Nat.reduceSub, Int.reduceAdd, Int.reduceSub, Nat.reduceLeDiff, Int.reduceLT, Int.reduceLE, Int.reduceEq, Int.reduceNeg, Int.reduceToNat]
  repeat' ((first | refine guardB_dec (fun hy => ?_) (fun hy => ?_) | refine guardB_bool (fun hy => ?_) (fun hy => ?_) | refine guardQ_ite (fun hy => ?_) (fun hy => ?_) | refine brQ_dec (fun hy => ?_) (fun hy => ?_) | refine brQ_bool (fun hy => ?_) (fun hy => ?_)) <;> (try simp only [Bool.not_eq_true', Bool.not_eq_false', Bool.and_eq_true, Bool.or_eq_false_iff, decide_eq_true_eq, decide_eq_false_iff_not] at hy) <;> simp (disch := first | rfl | omega | exact lt_new _ | assumption | decide | (simp [tk_here, tk_app, tk_0, tk_S, gr_here, gr_app, gr_0, gr_S] <;> omega) | fail) only [r7_0, r7_1, r7_2, r7_3, r7_4, r7_5, r7_6, r7_7, c7, rs7, gc7, loadV_ptr, storeV_ptr, List.append_assoc, List.length_append, List.length_cons, List.length_nil, List.set_cons_zero, List.set_cons_succ, tk_here, tk_app, gr_here, gr_app, st_here, st_app, known_call, h21, e1, e2, e3, e4, s12, s34, go_sem, ↓reduceIte, Nat.reduceLT, Nat.reduceEqDiff, Nat.reduceAdd, Nat.reduceMul, Nat.reduceSub, Int.reduceAdd, Int.reduceSub, Nat.reduceLeDiff, Int.reduceLT, Int.reduceLE, Int.reduceEq, Int.reduceNeg, Int.reduceToNat, hy])
  all_goals (try ((first | refine finQ_same ?_ | refine finQ_app ?_ | (rw [List.append_assoc]; refine finQ_app ?_)) <;> simp (disch := first | rfl | omega | exact lt_new _ | assumption | decide | (simp [tk_here, tk_app, tk_0, tk_S, gr_here, gr_app, gr_0, gr_S] <;> omega) | fail) only [go_sem, ↓reduceIte, Nat.reduceLT, Nat.reduceEqDiff, Nat.reduceAdd, Nat.reduceMul, Nat.reduceSub, Int.reduceAdd, Int.reduceSub, Nat.reduceLeDiff, Int.reduceLT, Int.reduceLE, Int.reduceEq, Int.reduceNeg, Int.reduceToNat, List.append_assoc, List.cons_append, List.nil_append, *]))
  all_goals (try first | rfl | (simp [*]; done) | grind)
end Go.Proofs.Ytejkgnmjdaohdaa
