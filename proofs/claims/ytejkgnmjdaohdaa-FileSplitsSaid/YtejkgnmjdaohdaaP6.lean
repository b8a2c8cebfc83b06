/-
  Texts of this seat, laid together. No statement of the seat stands here.
-/
import Derived.Test.YtejkgnmjdaohdaaP5
/-
  Which packets are there twice. No statement of the seat stands here.
-/
namespace Go.Proofs.Ytejkgnmjdaohdaa
open Go Go.An
set_option maxRecDepth 4000
set_option linter.unusedSimpArgs false
set_option linter.unusedVariables false

def dbB (w : Int) (p q : Pk) : Bool := decide (q.real = p.real) && decide (p.time - q.time ≤ w) && decide (-(p.time - q.time) ≤ w) && decide (p.data = q.data)
def dbAt (ps : List Pk) (window w : Int) (k : Nat) : Bool := ((ps.drop (k - window.toNat)).take (k - (k - window.toNat))).any (dbB w (pkE.at ps k))
def dbs (ps : List Pk) (window w : Int) : Nat → List Int
  | 0 => []
  | k + 1 => dbs ps window w k ++ if dbAt ps window w k = true then [(k : Int)] else []
theorem dbs_len (ps : List Pk) (window w : Int) : ∀ k, (dbs ps window w k).length ≤ k
  | 0 => Nat.le_refl _
  | k + 1 => by
    have := dbs_len ps window w k
    rw [dbs, List.length_append]
    split <;> simp <;> omega
def dblF (c : Cp) (window w : Int) : List Int × Int := if valE c ≠ 0 then ([], valE c) else if window < 1 ∨ 100 < window ∨ okT w = false then ([], 1) else (dbs c.packets window w c.packets.length, 0)
/-- The times of packets are small. -/
def PkT (p : Pk) : Prop := 0 ≤ p.time ∧ p.time ≤ 1000000000000000
theorem val_pk {c : Cp} (h : valE c = 0) : (∀ p ∈ c.packets, pfB p c.faces = true) ∧ (c.packets.length ≤ 100 ∧ c.secrets.length ≤ 60 ∧ c.names.length ≤ 60 ∧ c.faces.length ≤ 4) ∧ 1 ≤ c.faces.length := by
  unfold valE at h
  split at h
  · cases h
  · rename_i h1
    split at h
    · cases h
    · rename_i h2
      unfold largeB at h1
      unfold wrongB at h2
      simp only [Bool.or_eq_true, decide_eq_true_eq, not_or, List.any_eq_true, not_exists, not_and, Bool.not_eq_true', Bool.not_eq_false] at h1 h2
      refine ⟨fun p hp => h2.2 p hp, by omega, ?_⟩
      have := h2.1.1.1.1.1
      omega
theorem pf_pk {p : Pk} {fs : List Fc} (h : pfB p fs = true) : PkT p ∧ 0 ≤ p.face ∧ p.face < fs.length ∧ p.data.length ≤ 400 ∧ (p.data.length : Int) ≤ p.real ∧ p.real ≤ 1000000 := by
  unfold pfB pkB at h
  simp only [Bool.and_eq_true, decide_eq_true_eq, Bool.or_eq_true] at h
  exact ⟨⟨h.2.1.1.1.1.1.1, h.2.1.1.1.1.1.2⟩, h.1.1, h.1.2, by have := h.2.1.1.1.1.2; omega, h.2.1.2, h.2.2⟩
theorem fn70 {p q : Pk} (hp : PkT p) (hq : PkT q) (hpd : p.data.length ≤ 2 ^ 62) {id : Nat} {w : Int} {H : Hp} (hr : getRow H id 0 = some (pkE.f p, true)) : callL Try.prog pr 70 [.agg (pkE.f q), .ptr id 0 0, .ipt [.int .i64 w] 0] H = some (.bool (dbB w p q), H) := by
  obtain ⟨a1, a2⟩ := hp
  obtain ⟨b1, b2⟩ := hq
  have h71 := fun H => fn71 (b := p.dataN) (b' := q.dataN) (l := p.data) (l' := q.data) hpd H
  have hneg : ∀ x : Int, unV .neg (.int .i64 x) = some (.int .i64 (IntKind.i64.wrap (0 - x))) := fun x => rfl
  refine run70 (Nat.le_of_ble_eq_true rfl) ?_
  unfold dbB
  simp (disch := first | rfl | omega | exact lt_new _ | assumption | decide | (simp [tk_here, tk_app, tk_0, tk_S, gr_here, gr_app, gr_0, gr_S] <;> omega) | fail) only [r70_0, r70_1, r70_2, c70, rs70, gc70, loadV_ptr, storeV_ptr, List.append_assoc, List.length_append, List.length_cons, List.length_nil, List.set_cons_zero, List.set_cons_succ, tk_here, tk_app, gr_here, gr_app, st_here, st_app, hr, h71, hneg, Int.zero_sub, go_sem, ↓reduceIte, Nat.reduceLT, Nat.reduceEqDiff, Nat.reduceAdd, Nat.reduceMul, Nat.reduceSub, Int.reduceAdd, Int.reduceSub, Nat.reduceLeDiff, Int.reduceLT, Int.reduceLE, Int.reduceEq, Int.reduceNeg, Int.reduceToNat]
  repeat' ((first | refine guardB_dec (fun hy => ?_) (fun hy => ?_) | refine guardB_bool (fun hy => ?_) (fun hy => ?_) | refine guardQ_ite (fun hy => ?_) (fun hy => ?_) | refine brQ_dec (fun hy => ?_) (fun hy => ?_) | refine brQ_bool (fun hy => ?_) (fun hy => ?_)) <;> (try simp only [Bool.not_eq_true', Bool.not_eq_false', Bool.and_eq_true, Bool.or_eq_false_iff, decide_eq_true_eq, decide_eq_false_iff_not] at hy) <;> simp (disch := first | rfl | omega | exact lt_new _ | assumption | decide | (simp [tk_here, tk_app, tk_0, tk_S, gr_here, gr_app, gr_0, gr_S] <;> omega) | fail) only [r70_0, r70_1, r70_2, c70, rs70, gc70, loadV_ptr, storeV_ptr, List.append_assoc, List.length_append, List.length_cons, List.length_nil, List.set_cons_zero, List.set_cons_succ, tk_here, tk_app, gr_here, gr_app, st_here, st_app, hr, h71, hneg, Int.zero_sub, go_sem, ↓reduceIte, Nat.reduceLT, Nat.reduceEqDiff, Nat.reduceAdd, Nat.reduceMul, Nat.reduceSub, Int.reduceAdd, Int.reduceSub, Nat.reduceLeDiff, Int.reduceLT, Int.reduceLE, Int.reduceEq, Int.reduceNeg, Int.reduceToNat, hy])
  all_goals (try ((first | refine finQ_same ?_ | refine finQ_app ?_ | (rw [List.append_assoc]; refine finQ_app ?_)) <;> simp (disch := first | rfl | omega | exact lt_new _ | assumption | decide | (simp [tk_here, tk_app, tk_0, tk_S, gr_here, gr_app, gr_0, gr_S] <;> omega) | fail) only [go_sem, ↓reduceIte, Nat.reduceLT, Nat.reduceEqDiff, Nat.reduceAdd, Nat.reduceMul, Nat.reduceSub, Int.reduceAdd, Int.reduceSub, Nat.reduceLeDiff, Int.reduceLT, Int.reduceLE, Int.reduceEq, Int.reduceNeg, Int.reduceToNat, List.append_assoc, List.cons_append, List.nil_append, *]))
  all_goals (try first | rfl | (simp [*]; done) | grind)
theorem lo_max {k : Nat} {window : Int} (h : 1 ≤ window) : (if (k : Int) - window > 0 then (k : Int) - window else 0) = ((k - window.toNat : Nat) : Int) := by
  split <;> omega
set_option maxHeartbeats 4000000 in
theorem fn22 (c : Cp) (hc : CpOk c) (window w : Int) (hw1 : Inx window) (H : Hp) : callL Try.prog pr 22 [.agg (cpE.f c), .int .i64 window, .int .i64 w] H = some (.tup [slV true inE (dblF c window w).1, .int .i64 (dblF c window w).2], H) := by
  have h54 := ask1 c hc
  have h68 := fn68 w
  refine run22 (Nat.le_of_ble_eq_true rfl) ?_
  unfold dblF
  by_cases hv : valE c = 0
  case neg =>
    rw [if_pos hv]
    simp (disch := first | rfl | omega | exact lt_new _ | assumption | decide | (simp [tk_here, tk_app, tk_0, tk_S, gr_here, gr_app, gr_0, gr_S] <;> omega) | fail) only [r22_0, r22_1, r22_2, r22_3, r22_4, r22_5, r22_6, r22_7, r22_8, r22_9, r22_10, r22_11, r22_12, r22_14, c22, rs22, gc22, h54, hv, slV_nil, go_sem, ↓reduceIte, Nat.reduceLT, Nat.reduceEqDiff, Nat.reduceAdd, Nat.reduceMul, Nat.reduceSub, Int.reduceAdd, Int.reduceSub, Nat.reduceLeDiff, Int.reduceLT, Int.reduceLE, Int.reduceEq, Int.reduceNeg, Int.reduceToNat]
    repeat' ((first | refine guardB_dec (fun hy => ?_) (fun hy => ?_) | refine guardB_bool (fun hy => ?_) (fun hy => ?_) | refine guardQ_ite (fun hy => ?_) (fun hy => ?_) | refine brQ_dec (fun hy => ?_) (fun hy => ?_) | refine brQ_bool (fun hy => ?_) (fun hy => ?_)) <;> (try simp only [Bool.not_eq_true', Bool.not_eq_false', Bool.and_eq_true, Bool.or_eq_false_iff, decide_eq_true_eq, decide_eq_false_iff_not] at hy) <;> simp (disch := first | rfl | omega | exact lt_new _ | assumption | decide | (simp [tk_here, tk_app, tk_0, tk_S, gr_here, gr_app, gr_0, gr_S] <;> omega) | fail) only [r22_0, r22_1, r22_2, r22_3, r22_4, r22_5, r22_6, r22_7, r22_8, r22_9, r22_10, r22_11, r22_12, r22_14, c22, rs22, gc22, h54, hv, slV_nil, go_sem, ↓reduceIte, Nat.reduceLT, Nat.reduceEqDiff, Nat.reduceAdd, Nat.reduceMul, Nat.reduceSub, Int.reduceAdd, Int.reduceSub, Nat.reduceLeDiff, Int.reduceLT, Int.reduceLE, Int.reduceEq, Int.reduceNeg, Int.reduceToNat, hy])
    all_goals (try ((first | refine finQ_same ?_ | refine finQ_app ?_ | (rw [List.append_assoc]; refine finQ_app ?_)) <;> simp (disch := first | rfl | omega | exact lt_new _ | assumption | decide | (simp [tk_here, tk_app, tk_0, tk_S, gr_here, gr_app, gr_0, gr_S] <;> omega) | fail) only [go_sem, ↓reduceIte, Nat.reduceLT, Nat.reduceEqDiff, Nat.reduceAdd, Nat.reduceMul, Nat.reduceSub, Int.reduceAdd, Int.reduceSub, Nat.reduceLeDiff, Int.reduceLT, Int.reduceLE, Int.reduceEq, Int.reduceNeg, Int.reduceToNat, List.append_assoc, List.cons_append, List.nil_append, *]))
    all_goals (try first | rfl | (simp [*]; done) | grind)
  rw [if_neg (fun h => h hv)]
  obtain ⟨hpf, ⟨hl, _⟩, _⟩ := val_pk hv
  by_cases ha : window < 1 ∨ 100 < window ∨ okT w = false
  case pos =>
    rw [if_pos ha]
    have ha2 : ¬ window < 1 → ¬ 100 < window → okT w = false := fun a b => (ha.resolve_left a).resolve_left b
    simp (disch := first | rfl | omega | exact lt_new _ | assumption | decide | (simp [tk_here, tk_app, tk_0, tk_S, gr_here, gr_app, gr_0, gr_S] <;> omega) | fail) only [r22_0, r22_1, r22_2, r22_3, r22_4, r22_5, r22_6, r22_7, r22_8, r22_9, r22_10, r22_11, r22_12, r22_14, c22, rs22, gc22, h54, hv, h68, ha2, slV_nil, go_sem, ↓reduceIte, Nat.reduceLT, Nat.reduceEqDiff, Nat.reduceAdd, Nat.reduceMul, Nat.reduceSub, Int.reduceAdd, Int.reduceSub, Nat.reduceLeDiff, Int.reduceLT, Int.reduceLE, Int.reduceEq, Int.reduceNeg, Int.reduceToNat]
    repeat' ((first | refine guardB_dec (fun hy => ?_) (fun hy => ?_) | refine guardB_bool (fun hy => ?_) (fun hy => ?_) | refine guardQ_ite (fun hy => ?_) (fun hy => ?_) | refine brQ_dec (fun hy => ?_) (fun hy => ?_) | refine brQ_bool (fun hy => ?_) (fun hy => ?_)) <;> (try simp only [Bool.not_eq_true', Bool.not_eq_false', Bool.and_eq_true, Bool.or_eq_false_iff, decide_eq_true_eq, decide_eq_false_iff_not] at hy) <;> simp (disch := first | rfl | omega | exact lt_new _ | assumption | decide | (simp [tk_here, tk_app, tk_0, tk_S, gr_here, gr_app, gr_0, gr_S] <;> omega) | fail) only [r22_0, r22_1, r22_2, r22_3, r22_4, r22_5, r22_6, r22_7, r22_8, r22_9, r22_10, r22_11, r22_12, r22_14, c22, rs22, gc22, h54, hv, h68, ha2, slV_nil, go_sem, ↓reduceIte, Nat.reduceLT, Nat.reduceEqDiff, Nat.reduceAdd, Nat.reduceMul, Nat.reduceSub, Int.reduceAdd, Int.reduceSub, Nat.reduceLeDiff, Int.reduceLT, Int.reduceLE, Int.reduceEq, Int.reduceNeg, Int.reduceToNat, hy])
    all_goals (try ((first | refine finQ_same ?_ | refine finQ_app ?_ | (rw [List.append_assoc]; refine finQ_app ?_)) <;> simp (disch := first | rfl | omega | exact lt_new _ | assumption | decide | (simp [tk_here, tk_app, tk_0, tk_S, gr_here, gr_app, gr_0, gr_S] <;> omega) | fail) only [go_sem, ↓reduceIte, Nat.reduceLT, Nat.reduceEqDiff, Nat.reduceAdd, Nat.reduceMul, Nat.reduceSub, Int.reduceAdd, Int.reduceSub, Nat.reduceLeDiff, Int.reduceLT, Int.reduceLE, Int.reduceEq, Int.reduceNeg, Int.reduceToNat, List.append_assoc, List.cons_append, List.nil_append, *]))
    all_goals (try first | rfl | (simp [*]; done) | grind)
  rw [if_neg ha]
  simp only [not_or, Bool.not_eq_false] at ha
  obtain ⟨a1, a2, a3⟩ := ha
  simp (disch := first | rfl | omega | exact lt_new _ | assumption | decide | (simp [tk_here, tk_app, tk_0, tk_S, gr_here, gr_app, gr_0, gr_S] <;> omega) | fail) only [r22_0, r22_1, r22_2, r22_3, r22_4, r22_5, r22_6, r22_7, r22_8, r22_9, r22_10, r22_11, r22_12, r22_14, c22, rs22, gc22, h54, hv, h68, a1, a2, a3, go_sem, ↓reduceIte, Nat.reduceLT, Nat.reduceEqDiff, Nat.reduceAdd, Nat.reduceMul, Nat.reduceSub, Int.reduceAdd, Int.reduceSub, Nat.reduceLeDiff, Int.reduceLT, Int.reduceLE, Int.reduceEq, Int.reduceNeg, Int.reduceToNat]
  repeat' ((first | refine guardB_dec (fun hy => ?_) (fun hy => ?_) | refine guardB_bool (fun hy => ?_) (fun hy => ?_) | refine guardQ_ite (fun hy => ?_) (fun hy => ?_) | refine brQ_dec (fun hy => ?_) (fun hy => ?_) | refine brQ_bool (fun hy => ?_) (fun hy => ?_)) <;> (try simp only [Bool.not_eq_true', Bool.not_eq_false', Bool.and_eq_true, Bool.or_eq_false_iff, decide_eq_true_eq, decide_eq_false_iff_not] at hy) <;> simp (disch := first | rfl | omega | exact lt_new _ | assumption | decide | (simp [tk_here, tk_app, tk_0, tk_S, gr_here, gr_app, gr_0, gr_S] <;> omega) | fail) only [r22_0, r22_1, r22_2, r22_3, r22_4, r22_5, r22_6, r22_7, r22_8, r22_9, r22_10, r22_11, r22_12, r22_14, c22, rs22, gc22, h54, hv, h68, a1, a2, a3, go_sem, ↓reduceIte, Nat.reduceLT, Nat.reduceEqDiff, Nat.reduceAdd, Nat.reduceMul, Nat.reduceSub, Int.reduceAdd, Int.reduceSub, Nat.reduceLeDiff, Int.reduceLT, Int.reduceLE, Int.reduceEq, Int.reduceNeg, Int.reduceToNat, hy])
  refine Wp_loop (fun m T D H' => ∃ k G, m = c.packets.length - k ∧ k ≤ c.packets.length ∧ D = [] ∧ H' = H ++ .tok (dbs c.packets window w k).length :: G ∧ get T 1 = .int .i64 window ∧ get T 3 = .ipt (cpE.f c) 0 ∧ get T 5 = .ipt [.int .i64 w] 0 ∧ get T 9 = osV H.length inE (dbs c.packets window w k) ∧ get T 30 = slV c.packetsN pkE c.packets ∧ get T 31 = .int .i64 c.packets.length ∧ get T 32 = .int .i64 k) ?_ c.packets.length _ _ _ ?_
  case refine_2 => exact ⟨0, [], by simp (disch := first | rfl | omega | exact lt_new _ | assumption | decide | (simp [tk_here, tk_app, tk_0, tk_S, gr_here, gr_app, gr_0, gr_S] <;> omega) | fail) only [go_sem, ↓reduceIte, Nat.reduceLT, Nat.reduceEqDiff, Nat.reduceAdd, Nat.reduceMul, Nat.reduceSub, Int.reduceAdd, Int.reduceSub, Nat.reduceLeDiff, Int.reduceLT, Int.reduceLE, Int.reduceEq, Int.reduceNeg, Int.reduceToNat]; simp [dbs, osV_nil]⟩
  rintro m T D H' ⟨k, G, rfl, hk, rfl, rfl, t1, t3, t5, t9, t30, t31, t32⟩
  have hdl := dbs_len c.packets window w k
  by_cases hlt : k < c.packets.length
  · have hlt' : (k : Int) < c.packets.length := by omega
    have hmx := lo_max (k := k) (window := window) (by omega)
    have hp := (pf_pk (hpf _ (pkE.at_mem hlt)))
    have h69 := fun (lo hi : Nat) (b : Bool) (id : Nat) (H : Hp) (hr : getRow H id 0 = some (pkE.f (pkE.at c.packets k), true)) => fn69L (b := b) (E := pkE) (l := (c.packets.drop lo).take hi) (H := H) rfl (by simp; omega) (dbB w (pkE.at c.packets k)) 70 [] [.ptr id 0 0, .ipt [.int .i64 w] 0] kp70 (fun x hx => fn70 hp.1 (pf_pk (hpf x (List.mem_of_mem_drop (List.mem_of_mem_take hx)))).1 (by omega) hr)
    have hdn : dbs c.packets window w (k + 1) = dbs c.packets window w k ++ if dbAt c.packets window w k = true then [(k : Int)] else [] := rfl
    have hda : ((c.packets.drop (k - window.toNat)).take (k - (k - window.toNat))).any (dbB w (pkE.at c.packets k)) = dbAt c.packets window w k := rfl
    by_cases hq : dbAt c.packets window w k = true
    · rw [if_pos hq] at hdn
      simp (disch := first | rfl | omega | exact lt_new _ | assumption | decide | (simp [tk_here, tk_app, tk_0, tk_S, gr_here, gr_app, gr_0, gr_S] <;> omega) | fail) only [r22_0, r22_1, r22_2, r22_3, r22_4, r22_5, r22_6, r22_7, r22_8, r22_9, r22_10, r22_11, r22_12, l22_13, r22_14, c22, rs22, gc22, loadV_ptr, storeV_ptr, List.append_assoc, List.length_append, List.length_cons, List.length_nil, List.set_cons_zero, List.set_cons_succ, tk_here, tk_app, gr_here, gr_app, st_here, st_app, t1, t3, t5, t9, t30, t31, t32, hlt', hmx, h69, hda, hq, go_sem, ↓reduceIte, Nat.reduceLT, Nat.reduceEqDiff, Nat.reduceAdd, Nat.reduceMul, Nat.reduceSub, Int.reduceAdd, Int.reduceSub, Nat.reduceLeDiff, Int.reduceLT, Int.reduceLE, Int.reduceEq, Int.reduceNeg, Int.reduceToNat]
      repeat' ((first | refine guardB_dec (fun hy => ?_) (fun hy => ?_) | refine guardB_bool (fun hy => ?_) (fun hy => ?_) | refine guardQ_ite (fun hy => ?_) (fun hy => ?_) | refine brQ_dec (fun hy => ?_) (fun hy => ?_) | refine brQ_bool (fun hy => ?_) (fun hy => ?_)) <;> (try simp only [Bool.not_eq_true', Bool.not_eq_false', Bool.and_eq_true, Bool.or_eq_false_iff, decide_eq_true_eq, decide_eq_false_iff_not] at hy) <;> simp (disch := first | rfl | omega | exact lt_new _ | assumption | decide | (simp [tk_here, tk_app, tk_0, tk_S, gr_here, gr_app, gr_0, gr_S] <;> omega) | fail) only [r22_0, r22_1, r22_2, r22_3, r22_4, r22_5, r22_6, r22_7, r22_8, r22_9, r22_10, r22_11, r22_12, l22_13, r22_14, c22, rs22, gc22, loadV_ptr, storeV_ptr, List.append_assoc, List.length_append, List.length_cons, List.length_nil, List.set_cons_zero, List.set_cons_succ, tk_here, tk_app, gr_here, gr_app, st_here, st_app, t1, t3, t5, t9, t30, t31, t32, hlt', hmx, h69, hda, hq, go_sem, ↓reduceIte, Nat.reduceLT, Nat.reduceEqDiff, Nat.reduceAdd, Nat.reduceMul, Nat.reduceSub, Int.reduceAdd, Int.reduceSub, Nat.reduceLeDiff, Int.reduceLT, Int.reduceLE, Int.reduceEq, Int.reduceNeg, Int.reduceToNat, hy])
      exact ⟨_, by omega, k + 1, _, rfl, hlt, by rw [hdn, List.length_append]; rfl, by rw [hdn], rfl⟩
    · rw [if_neg hq] at hdn
      rw [Bool.not_eq_true] at hq
      simp (disch := first | rfl | omega | exact lt_new _ | assumption | decide | (simp [tk_here, tk_app, tk_0, tk_S, gr_here, gr_app, gr_0, gr_S] <;> omega) | fail) only [r22_0, r22_1, r22_2, r22_3, r22_4, r22_5, r22_6, r22_7, r22_8, r22_9, r22_10, r22_11, r22_12, l22_13, r22_14, c22, rs22, gc22, loadV_ptr, storeV_ptr, List.append_assoc, List.length_append, List.length_cons, List.length_nil, List.set_cons_zero, List.set_cons_succ, tk_here, tk_app, gr_here, gr_app, st_here, st_app, t1, t3, t5, t9, t30, t31, t32, hlt', hmx, h69, hda, hq, go_sem, ↓reduceIte, Nat.reduceLT, Nat.reduceEqDiff, Nat.reduceAdd, Nat.reduceMul, Nat.reduceSub, Int.reduceAdd, Int.reduceSub, Nat.reduceLeDiff, Int.reduceLT, Int.reduceLE, Int.reduceEq, Int.reduceNeg, Int.reduceToNat]
      repeat' ((first | refine guardB_dec (fun hy => ?_) (fun hy => ?_) | refine guardB_bool (fun hy => ?_) (fun hy => ?_) | refine guardQ_ite (fun hy => ?_) (fun hy => ?_) | refine brQ_dec (fun hy => ?_) (fun hy => ?_) | refine brQ_bool (fun hy => ?_) (fun hy => ?_)) <;> (try simp only [Bool.not_eq_true', Bool.not_eq_false', Bool.and_eq_true, Bool.or_eq_false_iff, decide_eq_true_eq, decide_eq_false_iff_not] at hy) <;> simp (disch := first | rfl | omega | exact lt_new _ | assumption | decide | (simp [tk_here, tk_app, tk_0, tk_S, gr_here, gr_app, gr_0, gr_S] <;> omega) | fail) only [r22_0, r22_1, r22_2, r22_3, r22_4, r22_5, r22_6, r22_7, r22_8, r22_9, r22_10, r22_11, r22_12, l22_13, r22_14, c22, rs22, gc22, loadV_ptr, storeV_ptr, List.append_assoc, List.length_append, List.length_cons, List.length_nil, List.set_cons_zero, List.set_cons_succ, tk_here, tk_app, gr_here, gr_app, st_here, st_app, t1, t3, t5, t9, t30, t31, t32, hlt', hmx, h69, hda, hq, go_sem, ↓reduceIte, Nat.reduceLT, Nat.reduceEqDiff, Nat.reduceAdd, Nat.reduceMul, Nat.reduceSub, Int.reduceAdd, Int.reduceSub, Nat.reduceLeDiff, Int.reduceLT, Int.reduceLE, Int.reduceEq, Int.reduceNeg, Int.reduceToNat, hy])
      exact ⟨_, by omega, k + 1, _, rfl, hlt, by rw [hdn, List.append_nil], by rw [hdn, List.append_nil], rfl⟩
  · obtain rfl : k = c.packets.length := by omega
    simp (disch := first | rfl | omega | exact lt_new _ | assumption | decide | (simp [tk_here, tk_app, tk_0, tk_S, gr_here, gr_app, gr_0, gr_S] <;> omega) | fail) only [r22_0, r22_1, r22_2, r22_3, r22_4, r22_5, r22_6, r22_7, r22_8, r22_9, r22_10, r22_11, r22_12, l22_13, r22_14, c22, rs22, gc22, loadV_ptr, storeV_ptr, List.append_assoc, List.length_append, List.length_cons, List.length_nil, List.set_cons_zero, List.set_cons_succ, tk_here, tk_app, gr_here, gr_app, st_here, st_app, t1, t3, t5, t9, t30, t31, t32, Int.lt_irrefl, go_sem, ↓reduceIte, Nat.reduceLT, Nat.reduceEqDiff, Nat.reduceAdd, Nat.reduceMul, Nat.reduceSub, Int.reduceAdd, Int.reduceSub, Nat.reduceLeDiff, Int.reduceLT, Int.reduceLE, Int.reduceEq, Int.reduceNeg, Int.reduceToNat]
    repeat' ((first | refine guardB_dec (fun hy => ?_) (fun hy => ?_) | refine guardB_bool (fun hy => ?_) (fun hy => ?_) | refine guardQ_ite (fun hy => ?_) (fun hy => ?_) | refine brQ_dec (fun hy => ?_) (fun hy => ?_) | refine brQ_bool (fun hy => ?_) (fun hy => ?_)) <;> (try simp only [Bool.not_eq_true', Bool.not_eq_false', Bool.and_eq_true, Bool.or_eq_false_iff, decide_eq_true_eq, decide_eq_false_iff_not] at hy) <;> simp (disch := first | rfl | omega | exact lt_new _ | assumption | decide | (simp [tk_here, tk_app, tk_0, tk_S, gr_here, gr_app, gr_0, gr_S] <;> omega) | fail) only [r22_0, r22_1, r22_2, r22_3, r22_4, r22_5, r22_6, r22_7, r22_8, r22_9, r22_10, r22_11, r22_12, l22_13, r22_14, c22, rs22, gc22, loadV_ptr, storeV_ptr, List.append_assoc, List.length_append, List.length_cons, List.length_nil, List.set_cons_zero, List.set_cons_succ, tk_here, tk_app, gr_here, gr_app, st_here, st_app, t1, t3, t5, t9, t30, t31, t32, Int.lt_irrefl, go_sem, ↓reduceIte, Nat.reduceLT, Nat.reduceEqDiff, Nat.reduceAdd, Nat.reduceMul, Nat.reduceSub, Int.reduceAdd, Int.reduceSub, Nat.reduceLeDiff, Int.reduceLT, Int.reduceLE, Int.reduceEq, Int.reduceNeg, Int.reduceToNat, hy])
    refine finQ_app ?_
    simp (disch := first | rfl | omega | exact lt_new _ | assumption | decide | (simp [tk_here, tk_app, tk_0, tk_S, gr_here, gr_app, gr_0, gr_S] <;> omega) | fail) only [go_sem, ↓reduceIte, Nat.reduceLT, Nat.reduceEqDiff, Nat.reduceAdd, Nat.reduceMul, Nat.reduceSub, Int.reduceAdd, Int.reduceSub, Nat.reduceLeDiff, Int.reduceLT, Int.reduceLE, Int.reduceEq, Int.reduceNeg, Int.reduceToNat]
set_option maxHeartbeats 4000000 in
theorem fn23 (c : Cp) (hc : CpOk c) (window w : Int) (hw1 : Inx window) (H : Hp) : callL Try.prog pr 23 [.agg (cpE.f c), .int .i64 window, .int .i64 w] H = some (.tup [slV true inE (dblF c window w).1, .int .i64 (dblF c window w).2], H) := by
  have h63 := fn63 c hc
  have h72 := fn72 w
  refine run23 (Nat.le_of_ble_eq_true rfl) ?_
  unfold dblF
  by_cases hv : valE c = 0
  case neg =>
    rw [if_pos hv]
    simp (disch := first | rfl | omega | exact lt_new _ | assumption | decide | (simp [tk_here, tk_app, tk_0, tk_S, gr_here, gr_app, gr_0, gr_S] <;> omega) | fail) only [r23_0, r23_1, r23_2, r23_3, r23_4, r23_5, r23_6, r23_7, r23_8, r23_9, r23_10, r23_11, r23_12, r23_13, r23_14, r23_15, r23_17, r23_18, r23_19, r23_21, c23, rs23, gc23, h63, hv, slV_nil, go_sem, ↓reduceIte, Nat.reduceLT, Nat.reduceEqDiff, Nat.reduceAdd, Nat.reduceMul, Nat.reduceSub, Int.reduceAdd, Int.reduceSub, Nat.reduceLeDiff, Int.reduceLT, Int.reduceLE, Int.reduceEq, Int.reduceNeg, Int.reduceToNat]
    repeat' ((first | refine guardB_dec (fun hy => ?_) (fun hy => ?_) | refine guardB_bool (fun hy => ?_) (fun hy => ?_) | refine guardQ_ite (fun hy => ?_) (fun hy => ?_) | refine brQ_dec (fun hy => ?_) (fun hy => ?_) | refine brQ_bool (fun hy => ?_) (fun hy => ?_)) <;> (try simp only [Bool.not_eq_true', Bool.not_eq_false', Bool.and_eq_true, Bool.or_eq_false_iff, decide_eq_true_eq, decide_eq_false_iff_not] at hy) <;> simp (disch := first | rfl | omega | exact lt_new _ | assumption | decide | (simp [tk_here, tk_app, tk_0, tk_S, gr_here, gr_app, gr_0, gr_S] <;> omega) | fail) only [r23_0, r23_1, r23_2, r23_3, r23_4, r23_5, r23_6, r23_7, r23_8, r23_9, r23_10, r23_11, r23_12, r23_13, r23_14, r23_15, r23_17, r23_18, r23_19, r23_21, c23, rs23, gc23, h63, hv, slV_nil, go_sem, ↓reduceIte, Nat.reduceLT, Nat.reduceEqDiff, Nat.reduceAdd, Nat.reduceMul, Nat.reduceSub, Int.reduceAdd, Int.reduceSub, Nat.reduceLeDiff, Int.reduceLT, Int.reduceLE, Int.reduceEq, Int.reduceNeg, Int.reduceToNat, hy])
    all_goals (try ((first | refine finQ_same ?_ | refine finQ_app ?_ | (rw [List.append_assoc]; refine finQ_app ?_)) <;> simp (disch := first | rfl | omega | exact lt_new _ | assumption | decide | (simp [tk_here, tk_app, tk_0, tk_S, gr_here, gr_app, gr_0, gr_S] <;> omega) | fail) only [go_sem, ↓reduceIte, Nat.reduceLT, Nat.reduceEqDiff, Nat.reduceAdd, Nat.reduceMul, Nat.reduceSub, Int.reduceAdd, Int.reduceSub, Nat.reduceLeDiff, Int.reduceLT, Int.reduceLE, Int.reduceEq, Int.reduceNeg, Int.reduceToNat, List.append_assoc, List.cons_append, List.nil_append, *]))
    all_goals (try first | rfl | (simp [*]; done) | grind)
  rw [if_neg (fun h => h hv)]
  obtain ⟨hpf, ⟨hl, _⟩, _⟩ := val_pk hv
  by_cases ha : window < 1 ∨ 100 < window ∨ okT w = false
  case pos =>
    rw [if_pos ha]
    have ha2 : ¬ window < 1 → ¬ 100 < window → okT w = false := fun a b => (ha.resolve_left a).resolve_left b
    simp (disch := first | rfl | omega | exact lt_new _ | assumption | decide | (simp [tk_here, tk_app, tk_0, tk_S, gr_here, gr_app, gr_0, gr_S] <;> omega) | fail) only [r23_0, r23_1, r23_2, r23_3, r23_4, r23_5, r23_6, r23_7, r23_8, r23_9, r23_10, r23_11, r23_12, r23_13, r23_14, r23_15, r23_17, r23_18, r23_19, r23_21, c23, rs23, gc23, h63, hv, h72, ha2, slV_nil, go_sem, ↓reduceIte, Nat.reduceLT, Nat.reduceEqDiff, Nat.reduceAdd, Nat.reduceMul, Nat.reduceSub, Int.reduceAdd, Int.reduceSub, Nat.reduceLeDiff, Int.reduceLT, Int.reduceLE, Int.reduceEq, Int.reduceNeg, Int.reduceToNat]
    repeat' ((first | refine guardB_dec (fun hy => ?_) (fun hy => ?_) | refine guardB_bool (fun hy => ?_) (fun hy => ?_) | refine guardQ_ite (fun hy => ?_) (fun hy => ?_) | refine brQ_dec (fun hy => ?_) (fun hy => ?_) | refine brQ_bool (fun hy => ?_) (fun hy => ?_)) <;> (try simp only [Bool.not_eq_true', Bool.not_eq_false', Bool.and_eq_true, Bool.or_eq_false_iff, decide_eq_true_eq, decide_eq_false_iff_not] at hy) <;> simp (disch := first | rfl | omega | exact lt_new _ | assumption | decide | (simp [tk_here, tk_app, tk_0, tk_S, gr_here, gr_app, gr_0, gr_S] <;> omega) | fail) only [r23_0, r23_1, r23_2, r23_3, r23_4, r23_5, r23_6, r23_7, r23_8, r23_9, r23_10, r23_11, r23_12, r23_13, r23_14, r23_15, r23_17, r23_18, r23_19, r23_21, c23, rs23, gc23, h63, hv, h72, ha2, slV_nil, go_sem, ↓reduceIte, Nat.reduceLT, Nat.reduceEqDiff, Nat.reduceAdd, Nat.reduceMul, Nat.reduceSub, Int.reduceAdd, Int.reduceSub, Nat.reduceLeDiff, Int.reduceLT, Int.reduceLE, Int.reduceEq, Int.reduceNeg, Int.reduceToNat, hy])
    all_goals (try ((first | refine finQ_same ?_ | refine finQ_app ?_ | (rw [List.append_assoc]; refine finQ_app ?_)) <;> simp (disch := first | rfl | omega | exact lt_new _ | assumption | decide | (simp [tk_here, tk_app, tk_0, tk_S, gr_here, gr_app, gr_0, gr_S] <;> omega) | fail) only [go_sem, ↓reduceIte, Nat.reduceLT, Nat.reduceEqDiff, Nat.reduceAdd, Nat.reduceMul, Nat.reduceSub, Int.reduceAdd, Int.reduceSub, Nat.reduceLeDiff, Int.reduceLT, Int.reduceLE, Int.reduceEq, Int.reduceNeg, Int.reduceToNat, List.append_assoc, List.cons_append, List.nil_append, *]))
    all_goals (try first | rfl | (simp [*]; done) | grind)
  rw [if_neg ha]
  simp only [not_or, Bool.not_eq_false] at ha
  obtain ⟨a1, a2, a3⟩ := ha
  simp (disch := first | rfl | omega | exact lt_new _ | assumption | decide | (simp [tk_here, tk_app, tk_0, tk_S, gr_here, gr_app, gr_0, gr_S] <;> omega) | fail) only [r23_0, r23_1, r23_2, r23_3, r23_4, r23_5, r23_6, r23_7, r23_8, r23_9, r23_10, r23_11, r23_12, r23_13, r23_14, r23_15, r23_17, r23_18, r23_19, r23_21, c23, rs23, gc23, h63, hv, h72, a1, a2, a3, go_sem, ↓reduceIte, Nat.reduceLT, Nat.reduceEqDiff, Nat.reduceAdd, Nat.reduceMul, Nat.reduceSub, Int.reduceAdd, Int.reduceSub, Nat.reduceLeDiff, Int.reduceLT, Int.reduceLE, Int.reduceEq, Int.reduceNeg, Int.reduceToNat]
  repeat' ((first | refine guardB_dec (fun hy => ?_) (fun hy => ?_) | refine guardB_bool (fun hy => ?_) (fun hy => ?_) | refine guardQ_ite (fun hy => ?_) (fun hy => ?_) | refine brQ_dec (fun hy => ?_) (fun hy => ?_) | refine brQ_bool (fun hy => ?_) (fun hy => ?_)) <;> (try simp only [Bool.not_eq_true', Bool.not_eq_false', Bool.and_eq_true, Bool.or_eq_false_iff, decide_eq_true_eq, decide_eq_false_iff_not] at hy) <;> simp (disch := first | rfl | omega | exact lt_new _ | assumption | decide | (simp [tk_here, tk_app, tk_0, tk_S, gr_here, gr_app, gr_0, gr_S] <;> omega) | fail) only [r23_0, r23_1, r23_2, r23_3, r23_4, r23_5, r23_6, r23_7, r23_8, r23_9, r23_10, r23_11, r23_12, r23_13, r23_14, r23_15, r23_17, r23_18, r23_19, r23_21, c23, rs23, gc23, h63, hv, h72, a1, a2, a3, go_sem, ↓reduceIte, Nat.reduceLT, Nat.reduceEqDiff, Nat.reduceAdd, Nat.reduceMul, Nat.reduceSub, Int.reduceAdd, Int.reduceSub, Nat.reduceLeDiff, Int.reduceLT, Int.reduceLE, Int.reduceEq, Int.reduceNeg, Int.reduceToNat, hy])
  refine Wp_loop (fun m T D H' => ∃ k G, m = c.packets.length - k ∧ k ≤ c.packets.length ∧ D = [] ∧ H' = H ++ .tok (dbs c.packets window w k).length :: G ∧ get T 1 = .int .i64 window ∧ get T 2 = .int .i64 w ∧ get T 3 = .ipt (cpE.f c) 0 ∧ get T 9 = osV H.length inE (dbs c.packets window w k) ∧ get T 10 = .int .i64 k) ?_ c.packets.length _ _ _ ?_
  case refine_2 => exact ⟨0, [], by simp (disch := first | rfl | omega | exact lt_new _ | assumption | decide | (simp [tk_here, tk_app, tk_0, tk_S, gr_here, gr_app, gr_0, gr_S] <;> omega) | fail) only [go_sem, ↓reduceIte, Nat.reduceLT, Nat.reduceEqDiff, Nat.reduceAdd, Nat.reduceMul, Nat.reduceSub, Int.reduceAdd, Int.reduceSub, Nat.reduceLeDiff, Int.reduceLT, Int.reduceLE, Int.reduceEq, Int.reduceNeg, Int.reduceToNat]; simp [dbs, osV_nil]⟩
  rintro m T D H' ⟨k, G, rfl, hk, rfl, rfl, t1, t2, t3, t9, t10⟩
  have hdl := dbs_len c.packets window w k
  by_cases hlt : k < c.packets.length
  · have hlt' : (k : Int) < c.packets.length := by omega
    have hmx := lo_max (k := k) (window := window) (by omega)
    obtain ⟨⟨p1, p2⟩, _⟩ := pf_pk (hpf _ (pkE.at_mem hlt))
    have hdn : dbs c.packets window w (k + 1) = dbs c.packets window w k ++ if dbAt c.packets window w k = true then [(k : Int)] else [] := rfl
    obtain ⟨lo, hlo⟩ : ∃ lo, k - window.toNat = lo := ⟨_, rfl⟩
    rw [hlo] at hmx
    obtain ⟨L, hL⟩ : ∃ L, (c.packets.drop lo).take (k - lo) = L := ⟨_, rfl⟩
    have hLl : L.length = k - lo := by rw [← hL]; simp; omega
    have hda : L.any (dbB w (pkE.at c.packets k)) = dbAt c.packets window w k := by unfold dbAt; rw [hlo, hL]
    simp (disch := first | rfl | omega | exact lt_new _ | assumption | decide | (simp [tk_here, tk_app, tk_0, tk_S, gr_here, gr_app, gr_0, gr_S] <;> omega) | fail) only [l23_20, r23_8, r23_9, r23_10, loadV_ptr, storeV_ptr, List.append_assoc, List.length_append, List.length_cons, List.length_nil, List.set_cons_zero, List.set_cons_succ, tk_here, tk_app, gr_here, gr_app, st_here, st_app, t1, t2, t3, t9, t10, hlt', hmx, go_sem, ↓reduceIte, Nat.reduceLT, Nat.reduceEqDiff, Nat.reduceAdd, Nat.reduceMul, Nat.reduceSub, Int.reduceAdd, Int.reduceSub, Nat.reduceLeDiff, Int.reduceLT, Int.reduceLE, Int.reduceEq, Int.reduceNeg, Int.reduceToNat]
    repeat' ((first | refine guardB_dec (fun hy => ?_) (fun hy => ?_) | refine guardB_bool (fun hy => ?_) (fun hy => ?_) | refine guardQ_ite (fun hy => ?_) (fun hy => ?_) | refine brQ_dec (fun hy => ?_) (fun hy => ?_) | refine brQ_bool (fun hy => ?_) (fun hy => ?_)) <;> (try simp only [Bool.not_eq_true', Bool.not_eq_false', Bool.and_eq_true, Bool.or_eq_false_iff, decide_eq_true_eq, decide_eq_false_iff_not] at hy) <;> simp (disch := first | rfl | omega | exact lt_new _ | assumption | decide | (simp [tk_here, tk_app, tk_0, tk_S, gr_here, gr_app, gr_0, gr_S] <;> omega) | fail) only [l23_20, r23_8, r23_9, r23_10, loadV_ptr, storeV_ptr, List.append_assoc, List.length_append, List.length_cons, List.length_nil, List.set_cons_zero, List.set_cons_succ, tk_here, tk_app, gr_here, gr_app, st_here, st_app, t1, t2, t3, t9, t10, hlt', hmx, go_sem, ↓reduceIte, Nat.reduceLT, Nat.reduceEqDiff, Nat.reduceAdd, Nat.reduceMul, Nat.reduceSub, Int.reduceAdd, Int.reduceSub, Nat.reduceLeDiff, Int.reduceLT, Int.reduceLE, Int.reduceEq, Int.reduceNeg, Int.reduceToNat, hy])
    refine Wp_loop (fun m T D H' => ∃ j G, m = L.length - j ∧ j ≤ L.length ∧ D = [] ∧ H' = H ++ .tok (dbs c.packets window w k).length :: G ∧ get T 1 = .int .i64 window ∧ get T 2 = .int .i64 w ∧ get T 3 = .ipt (cpE.f c) 0 ∧ get T 9 = osV H.length inE (dbs c.packets window w k) ∧ get T 10 = .int .i64 k ∧ get T 12 = .int .i64 ((lo + j : Nat) : Int) ∧ get T 11 = .bool (false || (L.take j).any (dbB w (pkE.at c.packets k)))) ?_ L.length _ _ _ ?_
    case refine_2 =>
      refine ⟨0, G, rfl, by omega, rfl, rfl, ?_, ?_, ?_, ?_, ?_, ?_, ?_⟩
      all_goals simp (disch := first | rfl | omega | exact lt_new _ | assumption | decide | (simp [tk_here, tk_app, tk_0, tk_S, gr_here, gr_app, gr_0, gr_S] <;> omega) | fail) only [go_sem, ↓reduceIte, Nat.reduceLT, Nat.reduceEqDiff, Nat.reduceAdd, Nat.reduceMul, Nat.reduceSub, Int.reduceAdd, Int.reduceSub, Nat.reduceLeDiff, Int.reduceLT, Int.reduceLE, Int.reduceEq, Int.reduceNeg, Int.reduceToNat, t1, t2, t3, t9, t10]
      all_goals first | rfl | (simp; done)
    clear t1 t2 t3 t9 t10
    rintro m T D H' ⟨j, G, rfl, hj, rfl, rfl, t1, t2, t3, t9, t10, t12, t11⟩
    by_cases hjl : j < L.length
    · have hjk : ((lo + j : Nat) : Int) < k := by omega
      have hjn : lo + j < c.packets.length := by omega
      have hw := any_take pkE hjl (dbB w (pkE.at c.packets k)) false
      have hat : pkE.at L j = pkE.at c.packets (lo + j) := by
        rw [← hL]
        simp only [Enc.at, List.getD_eq_getElem?_getD, List.getElem?_take, List.getElem?_drop]
        rw [if_pos (by omega)]
      rw [hat] at hw
      obtain ⟨⟨r1, r2⟩, _⟩ := pf_pk (hpf _ (pkE.at_mem hjn))
      obtain ⟨x, hx⟩ : ∃ x, pkE.at c.packets (lo + j) = x := ⟨_, rfl⟩
      obtain ⟨y, hyy⟩ : ∃ x, pkE.at c.packets k = x := ⟨_, rfl⟩
      rw [hx] at hw r1 r2
      rw [hyy] at hw p1 p2 t11
      have hneg : ∀ x : Int, unV .neg (.int .i64 x) = some (.int .i64 (IntKind.i64.wrap (0 - x))) := fun x => rfl
      have hjl' : ((lo + j : Nat) : Int).toNat = lo + j := rfl
      cases hb : (false || (L.take j).any (dbB w y)) with
      | true =>
        rw [hb] at t11 hw
        simp (disch := first | rfl | omega | exact lt_new _ | assumption | decide | (simp [tk_here, tk_app, tk_0, tk_S, gr_here, gr_app, gr_0, gr_S] <;> omega) | fail) only [l23_16, r23_11, r23_12, r23_13, r23_14, r23_15, loadV_ptr, storeV_ptr, List.append_assoc, List.length_append, List.length_cons, List.length_nil, List.set_cons_zero, List.set_cons_succ, tk_here, tk_app, gr_here, gr_app, st_here, st_app, t1, t2, t3, t9, t10, t11, t12, hjk, hjl', hx, hyy, hneg, go_sem, ↓reduceIte, Nat.reduceLT, Nat.reduceEqDiff, Nat.reduceAdd, Nat.reduceMul, Nat.reduceSub, Int.reduceAdd, Int.reduceSub, Nat.reduceLeDiff, Int.reduceLT, Int.reduceLE, Int.reduceEq, Int.reduceNeg, Int.reduceToNat]
        repeat' ((first | refine guardB_dec (fun hy => ?_) (fun hy => ?_) | refine guardB_bool (fun hy => ?_) (fun hy => ?_) | refine guardQ_ite (fun hy => ?_) (fun hy => ?_) | refine brQ_dec (fun hy => ?_) (fun hy => ?_) | refine brQ_bool (fun hy => ?_) (fun hy => ?_)) <;> (try simp only [Bool.not_eq_true', Bool.not_eq_false', Bool.and_eq_true, Bool.or_eq_false_iff, decide_eq_true_eq, decide_eq_false_iff_not] at hy) <;> simp (disch := first | rfl | omega | exact lt_new _ | assumption | decide | (simp [tk_here, tk_app, tk_0, tk_S, gr_here, gr_app, gr_0, gr_S] <;> omega) | fail) only [l23_16, r23_11, r23_12, r23_13, r23_14, r23_15, loadV_ptr, storeV_ptr, List.append_assoc, List.length_append, List.length_cons, List.length_nil, List.set_cons_zero, List.set_cons_succ, tk_here, tk_app, gr_here, gr_app, st_here, st_app, t1, t2, t3, t9, t10, t11, t12, hjk, hjl', hx, hyy, hneg, go_sem, ↓reduceIte, Nat.reduceLT, Nat.reduceEqDiff, Nat.reduceAdd, Nat.reduceMul, Nat.reduceSub, Int.reduceAdd, Int.reduceSub, Nat.reduceLeDiff, Int.reduceLT, Int.reduceLE, Int.reduceEq, Int.reduceNeg, Int.reduceToNat, hy])
        exact ⟨_, by omega, j + 1, _, rfl, by omega, rfl, by simp; omega, by rw [Bool.false_or, Bool.true_or] at hw; rw [hw]⟩
      | false =>
        rw [hb] at t11 hw
        rw [Bool.false_or] at hw
        simp (disch := first | rfl | omega | exact lt_new _ | assumption | decide | (simp [tk_here, tk_app, tk_0, tk_S, gr_here, gr_app, gr_0, gr_S] <;> omega) | fail) only [l23_16, r23_11, r23_12, r23_13, r23_14, r23_15, loadV_ptr, storeV_ptr, List.append_assoc, List.length_append, List.length_cons, List.length_nil, List.set_cons_zero, List.set_cons_succ, tk_here, tk_app, gr_here, gr_app, st_here, st_app, t1, t2, t3, t9, t10, t11, t12, hjk, hjl', hx, hyy, hneg, Int.zero_sub, go_sem, ↓reduceIte, Nat.reduceLT, Nat.reduceEqDiff, Nat.reduceAdd, Nat.reduceMul, Nat.reduceSub, Int.reduceAdd, Int.reduceSub, Nat.reduceLeDiff, Int.reduceLT, Int.reduceLE, Int.reduceEq, Int.reduceNeg, Int.reduceToNat]
        repeat' ((first | refine guardB_dec (fun hy => ?_) (fun hy => ?_) | refine guardB_bool (fun hy => ?_) (fun hy => ?_) | refine guardQ_ite (fun hy => ?_) (fun hy => ?_) | refine brQ_dec (fun hy => ?_) (fun hy => ?_) | refine brQ_bool (fun hy => ?_) (fun hy => ?_)) <;> (try simp only [Bool.not_eq_true', Bool.not_eq_false', Bool.and_eq_true, Bool.or_eq_false_iff, decide_eq_true_eq, decide_eq_false_iff_not] at hy) <;> simp (disch := first | rfl | omega | exact lt_new _ | assumption | decide | (simp [tk_here, tk_app, tk_0, tk_S, gr_here, gr_app, gr_0, gr_S] <;> omega) | fail) only [l23_16, r23_11, r23_12, r23_13, r23_14, r23_15, loadV_ptr, storeV_ptr, List.append_assoc, List.length_append, List.length_cons, List.length_nil, List.set_cons_zero, List.set_cons_succ, tk_here, tk_app, gr_here, gr_app, st_here, st_app, t1, t2, t3, t9, t10, t11, t12, hjk, hjl', hx, hyy, hneg, Int.zero_sub, go_sem, ↓reduceIte, Nat.reduceLT, Nat.reduceEqDiff, Nat.reduceAdd, Nat.reduceMul, Nat.reduceSub, Int.reduceAdd, Int.reduceSub, Nat.reduceLeDiff, Int.reduceLT, Int.reduceLE, Int.reduceEq, Int.reduceNeg, Int.reduceToNat, hy])
        rw [Bool.false_or] at hw
        all_goals refine ⟨_, by omega, j + 1, _, rfl, by omega, rfl, by simp; omega, ?_⟩
        all_goals (rw [hw]; unfold dbB; simp; grind)
    · obtain rfl : j = L.length := by omega
      rw [List.take_length, hda, Bool.false_or] at t11
      have hle : ¬ ((lo + L.length : Nat) : Int) < k := by omega
      by_cases hq : dbAt c.packets window w k = true
      · rw [if_pos hq] at hdn
        rw [hq] at t11
        simp (disch := first | rfl | omega | exact lt_new _ | assumption | decide | (simp [tk_here, tk_app, tk_0, tk_S, gr_here, gr_app, gr_0, gr_S] <;> omega) | fail) only [l23_16, r23_11, r23_17, r23_18, r23_19, loadV_ptr, storeV_ptr, List.append_assoc, List.length_append, List.length_cons, List.length_nil, List.set_cons_zero, List.set_cons_succ, tk_here, tk_app, gr_here, gr_app, st_here, st_app, t1, t2, t3, t9, t10, t11, t12, hle, go_sem, ↓reduceIte, Nat.reduceLT, Nat.reduceEqDiff, Nat.reduceAdd, Nat.reduceMul, Nat.reduceSub, Int.reduceAdd, Int.reduceSub, Nat.reduceLeDiff, Int.reduceLT, Int.reduceLE, Int.reduceEq, Int.reduceNeg, Int.reduceToNat]
        repeat' ((first | refine guardB_dec (fun hy => ?_) (fun hy => ?_) | refine guardB_bool (fun hy => ?_) (fun hy => ?_) | refine guardQ_ite (fun hy => ?_) (fun hy => ?_) | refine brQ_dec (fun hy => ?_) (fun hy => ?_) | refine brQ_bool (fun hy => ?_) (fun hy => ?_)) <;> (try simp only [Bool.not_eq_true', Bool.not_eq_false', Bool.and_eq_true, Bool.or_eq_false_iff, decide_eq_true_eq, decide_eq_false_iff_not] at hy) <;> simp (disch := first | rfl | omega | exact lt_new _ | assumption | decide | (simp [tk_here, tk_app, tk_0, tk_S, gr_here, gr_app, gr_0, gr_S] <;> omega) | fail) only [l23_16, r23_11, r23_17, r23_18, r23_19, loadV_ptr, storeV_ptr, List.append_assoc, List.length_append, List.length_cons, List.length_nil, List.set_cons_zero, List.set_cons_succ, tk_here, tk_app, gr_here, gr_app, st_here, st_app, t1, t2, t3, t9, t10, t11, t12, hle, go_sem, ↓reduceIte, Nat.reduceLT, Nat.reduceEqDiff, Nat.reduceAdd, Nat.reduceMul, Nat.reduceSub, Int.reduceAdd, Int.reduceSub, Nat.reduceLeDiff, Int.reduceLT, Int.reduceLE, Int.reduceEq, Int.reduceNeg, Int.reduceToNat, hy])
        exact ⟨_, by omega, k + 1, _, rfl, hlt, by rw [hdn, List.length_append]; rfl, by rw [hdn], rfl⟩
      · rw [if_neg hq] at hdn
        rw [Bool.not_eq_true] at hq
        rw [hq] at t11
        simp (disch := first | rfl | omega | exact lt_new _ | assumption | decide | (simp [tk_here, tk_app, tk_0, tk_S, gr_here, gr_app, gr_0, gr_S] <;> omega) | fail) only [l23_16, r23_11, r23_17, r23_19, loadV_ptr, storeV_ptr, List.append_assoc, List.length_append, List.length_cons, List.length_nil, List.set_cons_zero, List.set_cons_succ, tk_here, tk_app, gr_here, gr_app, st_here, st_app, t1, t2, t3, t9, t10, t11, t12, hle, go_sem, ↓reduceIte, Nat.reduceLT, Nat.reduceEqDiff, Nat.reduceAdd, Nat.reduceMul, Nat.reduceSub, Int.reduceAdd, Int.reduceSub, Nat.reduceLeDiff, Int.reduceLT, Int.reduceLE, Int.reduceEq, Int.reduceNeg, Int.reduceToNat]
        repeat' ((first | refine guardB_dec (fun hy => ?_) (fun hy => ?_) | refine guardB_bool (fun hy => ?_) (fun hy => ?_) | refine guardQ_ite (fun hy => ?_) (fun hy => ?_) | refine brQ_dec (fun hy => ?_) (fun hy => ?_) | refine brQ_bool (fun hy => ?_) (fun hy => ?_)) <;> (try simp only [Bool.not_eq_true', Bool.not_eq_false', Bool.and_eq_true, Bool.or_eq_false_iff, decide_eq_true_eq, decide_eq_false_iff_not] at hy) <;> simp (disch := first | rfl | omega | exact lt_new _ | assumption | decide | (simp [tk_here, tk_app, tk_0, tk_S, gr_here, gr_app, gr_0, gr_S] <;> omega) | fail) only [l23_16, r23_11, r23_17, r23_19, loadV_ptr, storeV_ptr, List.append_assoc, List.length_append, List.length_cons, List.length_nil, List.set_cons_zero, List.set_cons_succ, tk_here, tk_app, gr_here, gr_app, st_here, st_app, t1, t2, t3, t9, t10, t11, t12, hle, go_sem, ↓reduceIte, Nat.reduceLT, Nat.reduceEqDiff, Nat.reduceAdd, Nat.reduceMul, Nat.reduceSub, Int.reduceAdd, Int.reduceSub, Nat.reduceLeDiff, Int.reduceLT, Int.reduceLE, Int.reduceEq, Int.reduceNeg, Int.reduceToNat, hy])
        exact ⟨_, by omega, k + 1, _, rfl, hlt, by rw [hdn, List.append_nil], by rw [hdn, List.append_nil], rfl⟩
  · obtain rfl : k = c.packets.length := by omega
    simp (disch := first | rfl | omega | exact lt_new _ | assumption | decide | (simp [tk_here, tk_app, tk_0, tk_S, gr_here, gr_app, gr_0, gr_S] <;> omega) | fail) only [r23_0, r23_1, r23_2, r23_3, r23_4, r23_5, r23_6, r23_7, r23_8, r23_9, r23_10, r23_11, r23_12, r23_13, r23_14, r23_15, l23_16, r23_17, r23_18, r23_19, l23_20, r23_21, c23, rs23, gc23, loadV_ptr, storeV_ptr, List.append_assoc, List.length_append, List.length_cons, List.length_nil, List.set_cons_zero, List.set_cons_succ, tk_here, tk_app, gr_here, gr_app, st_here, st_app, t1, t2, t3, t9, t10, Int.lt_irrefl, go_sem, ↓reduceIte, Nat.reduceLT, Nat.reduceEqDiff, Nat.reduceAdd, Nat.reduceMul, Nat.reduceSub, Int.reduceAdd, Int.reduceSub, Nat.reduceLeDiff, Int.reduceLT, Int.reduceLE, Int.reduceEq, Int.reduceNeg, Int.reduceToNat]
    repeat' ((first | refine guardB_dec (fun hy => ?_) (fun hy => ?_) | refine guardB_bool (fun hy => ?_) (fun hy => ?_) | refine guardQ_ite (fun hy => ?_) (fun hy => ?_) | refine brQ_dec (fun hy => ?_) (fun hy => ?_) | refine brQ_bool (fun hy => ?_) (fun hy => ?_)) <;> (try simp only [Bool.not_eq_true', Bool.not_eq_false', Bool.and_eq_true, Bool.or_eq_false_iff, decide_eq_true_eq, decide_eq_false_iff_not] at hy) <;> simp (disch := first | rfl | omega | exact lt_new _ | assumption | decide | (simp [tk_here, tk_app, tk_0, tk_S, gr_here, gr_app, gr_0, gr_S] <;> omega) | fail) only [r23_0, r23_1, r23_2, r23_3, r23_4, r23_5, r23_6, r23_7, r23_8, r23_9, r23_10, r23_11, r23_12, r23_13, r23_14, r23_15, l23_16, r23_17, r23_18, r23_19, l23_20, r23_21, c23, rs23, gc23, loadV_ptr, storeV_ptr, List.append_assoc, List.length_append, List.length_cons, List.length_nil, List.set_cons_zero, List.set_cons_succ, tk_here, tk_app, gr_here, gr_app, st_here, st_app, t1, t2, t3, t9, t10, Int.lt_irrefl, go_sem, ↓reduceIte, Nat.reduceLT, Nat.reduceEqDiff, Nat.reduceAdd, Nat.reduceMul, Nat.reduceSub, Int.reduceAdd, Int.reduceSub, Nat.reduceLeDiff, Int.reduceLT, Int.reduceLE, Int.reduceEq, Int.reduceNeg, Int.reduceToNat, hy])
    refine finQ_app ?_
    simp (disch := first | rfl | omega | exact lt_new _ | assumption | decide | (simp [tk_here, tk_app, tk_0, tk_S, gr_here, gr_app, gr_0, gr_S] <;> omega) | fail) only [go_sem, ↓reduceIte, Nat.reduceLT, Nat.reduceEqDiff, Nat.reduceAdd, Nat.reduceMul, Nat.reduceSub, Int.reduceAdd, Int.reduceSub, Nat.reduceLeDiff, Int.reduceLT, Int.reduceLE, Int.reduceEq, Int.reduceNeg, Int.reduceToNat]
theorem fn5 (c : Cp) (hc : CpOk c) (window w : Int) (hw1 : Inx window) (H : Hp) : callL Try.prog pr 5 [.agg (cpE.f c), .int .i64 window, .int .i64 w] H = some (.bool true, H) := by
  obtain ⟨n, h21⟩ : ∃ n : Hp → Int, ∀ H, callL Try.prog pr 21 [.agg (cpE.f c)] H = some (.int .i64 (n H), H) := ⟨fun H => (fn21 c hc H).choose, fun H => (fn21 c hc H).choose_spec⟩
  have h22 := fn22 c hc window w hw1
  have h23 := fn23 c hc window w hw1
  obtain ⟨⟨l, e⟩, hr⟩ : ∃ r, dblF c window w = r := ⟨_, rfl⟩
  have hll : l.length ≤ 2 ^ 62 := by
    have : (dblF c window w).1.length ≤ 2 ^ 62 := by
      unfold dblF
      split
      · simp
      · split
        · simp
        · have h1 := dbs_len c.packets window w c.packets.length
          have h2 := hc.fits.2.2.2
          simp only
          omega
    rwa [hr] at this
  rw [hr] at h22 h23
  have h24 := fun H => fn24 (b := true) (b' := true) (l := l) (l' := l) hll H
  refine run5 (Nat.le_of_ble_eq_true rfl) ?_
  simp (disch := first | rfl | omega | exact lt_new _ | assumption | decide | (simp [tk_here, tk_app, tk_0, tk_S, gr_here, gr_app, gr_0, gr_S] <;> omega) | fail) only [r5_0, r5_1, r5_2, r5_3, r5_4, r5_5, c5, rs5, gc5, known_call, h21, h22, h23, h24, go_sem, ↓reduceIte, Nat.reduceLT, Nat.reduceEqDiff, Nat.reduceAdd, Nat.reduceMul, Nat.reduceSub, Int.reduceAdd, Int.reduceSub, Nat.reduceLeDiff, Int.reduceLT, Int.reduceLE, Int.reduceEq, Int.reduceNeg, Int.reduceToNat]
  repeat' ((first | refine guardB_dec (fun hy => ?_) (fun hy => ?_) | refine guardB_bool (fun hy => ?_) (fun hy => ?_) | refine guardQ_ite (fun hy => ?_) (fun hy => ?_) | refine brQ_dec (fun hy => ?_) (fun hy => ?_) | refine brQ_bool (fun hy => ?_) (fun hy => ?_)) <;> (try simp only [Bool.not_eq_true', Bool.not_eq_false', Bool.and_eq_true, Bool.or_eq_false_iff, decide_eq_true_eq, decide_eq_false_iff_not] at hy) <;> simp (disch := first | rfl | omega | exact lt_new _ | assumption | decide | (simp [tk_here, tk_app, tk_0, tk_S, gr_here, gr_app, gr_0, gr_S] <;> omega) | fail) only [r5_0, r5_1, r5_2, r5_3, r5_4, r5_5, c5, rs5, gc5, known_call, h21, h22, h23, h24, go_sem, ↓reduceIte, Nat.reduceLT, Nat.reduceEqDiff, Nat.reduceAdd, Nat.reduceMul, Nat.reduceSub, Int.reduceAdd, Int.reduceSub, Nat.reduceLeDiff, Int.reduceLT, Int.reduceLE, Int.reduceEq, Int.reduceNeg, Int.reduceToNat, hy])
  all_goals (try ((first | refine finQ_same ?_ | refine finQ_app ?_ | (rw [List.append_assoc]; refine finQ_app ?_)) <;> simp (disch := first | rfl | omega | exact lt_new _ | assumption | decide | (simp [tk_here, tk_app, tk_0, tk_S, gr_here, gr_app, gr_0, gr_S] <;> omega) | fail) only [go_sem, ↓reduceIte, Nat.reduceLT, Nat.reduceEqDiff, Nat.reduceAdd, Nat.reduceMul, Nat.reduceSub, Int.reduceAdd, Int.reduceSub, Nat.reduceLeDiff, Int.reduceLT, Int.reduceLE, Int.reduceEq, Int.reduceNeg, Int.reduceToNat, List.append_assoc, List.cons_append, List.nil_append, *]))
  all_goals (try first | rfl | (simp [*]; done) | grind)
end Go.Proofs.Ytejkgnmjdaohdaa
/-
  Copies of captures, walked; what they give is freed of rows. No statement of the seat stands here.
-/
namespace Go.Proofs.Ytejkgnmjdaohdaa
open Go Go.An
set_option maxRecDepth 4000
set_option linter.unusedSimpArgs false
set_option linter.unusedVariables false

theorem fn116 {b : Bool} {l : List Fc} (hl : l.length ≤ 2 ^ 30) (H : Hp) : ∃ v L, callL Try.prog pr 116 [slV b fcE l] H = some (v, H ++ L) ∧ RowM fcE H.length L v l := by
  suffices h : ∃ r, callL Try.prog pr 116 [slV b fcE l] H = some r ∧ ∃ v L, r = (v, H ++ L) ∧ RowM fcE H.length L v l by
    obtain ⟨_, h1, v, L, rfl, h2⟩ := h; exact ⟨v, L, h1, h2⟩
  refine ex116 (Nat.le_of_ble_eq_true rfl) ?_
  by_cases hb : b = true ∧ l = []
  · obtain ⟨rfl, rfl⟩ := hb
    simp (disch := first | rfl | omega | exact lt_new _ | assumption | decide | (simp [tk_here, tk_app, tk_0, tk_S, gr_here, gr_app, gr_0, gr_S] <;> omega) | fail) only [r116_0, r116_1, r116_2, r116_3, c116, rs116, gc116, go_sem, ↓reduceIte, Nat.reduceLT, Nat.reduceEqDiff, Nat.reduceAdd, Nat.reduceMul, Nat.reduceSub, Int.reduceAdd, Int.reduceSub, Nat.reduceLeDiff, Int.reduceLT, Int.reduceLE, Int.reduceEq, Int.reduceNeg, Int.reduceToNat, slV_nil]
    exact ⟨V.nilslice, [], by simp, Or.inl ⟨rfl, rfl⟩⟩
  · have hb2 : (b && decide (l.length = 0)) = false := by
      cases b with
      | false => rfl
      | true => simp only [true_and] at hb; simp [hb]
    obtain ⟨g, ha⟩ : ∃ g, appOf 3 32 (H ++ [.row 0 [] true]) (.slice H.length 0 0 0 3 .full) (slV b fcE l) = some (.slice H.length g 0 l.length 3 .full, H ++ [.row g (flatE fcE l) true]) := by
      have hw : fcE.w = 3 := rfl
      have hfl := flatE_len (E := fcE) (l := l)
      rw [hw] at hfl
      have hfc := flatE_cells fcE l
      unfold appOf
      rw [src_slV]
      simp only [Option.bind_some]
      rw [if_pos ⟨hfl, hfc⟩]
      simp only [getRow_last, Option.bind_some]
      rw [if_pos ⟨trivial, by omega, by omega, by simp⟩]
      by_cases hz : l.length = 0
      · obtain rfl : l = [] := List.eq_nil_of_length_eq_zero hz
        exact ⟨0, by simp [flatE]⟩
      · refine ⟨1, ?_⟩
        rw [if_neg hz, if_pos trivial, if_neg (by simp; omega), if_pos (by simp)]
        simp
    simp (disch := first | rfl | omega | exact lt_new _ | assumption | decide | (simp [tk_here, tk_app, tk_0, tk_S, gr_here, gr_app, gr_0, gr_S] <;> omega) | fail) only [r116_0, r116_1, r116_2, r116_3, c116, rs116, gc116, go_sem, ↓reduceIte, Nat.reduceLT, Nat.reduceEqDiff, Nat.reduceAdd, Nat.reduceMul, Nat.reduceSub, Int.reduceAdd, Int.reduceSub, Nat.reduceLeDiff, Int.reduceLT, Int.reduceLE, Int.reduceEq, Int.reduceNeg, Int.reduceToNat, hb2, ha]
    exact ⟨_, _, rfl, Or.inr ⟨0, g, rfl, by simp, by simp [getRow]⟩⟩

theorem fn117 {b : Bool} {l : List Nm} (hl : l.length ≤ 2 ^ 30) (H : Hp) : ∃ v L, callL Try.prog pr 117 [slV b nmE l] H = some (v, H ++ L) ∧ RowM nmE H.length L v l := by
  suffices h : ∃ r, callL Try.prog pr 117 [slV b nmE l] H = some r ∧ ∃ v L, r = (v, H ++ L) ∧ RowM nmE H.length L v l by
    obtain ⟨_, h1, v, L, rfl, h2⟩ := h; exact ⟨v, L, h1, h2⟩
  refine ex117 (Nat.le_of_ble_eq_true rfl) ?_
  by_cases hb : b = true ∧ l = []
  · obtain ⟨rfl, rfl⟩ := hb
    simp (disch := first | rfl | omega | exact lt_new _ | assumption | decide | (simp [tk_here, tk_app, tk_0, tk_S, gr_here, gr_app, gr_0, gr_S] <;> omega) | fail) only [r117_0, r117_1, r117_2, r117_3, c117, rs117, gc117, go_sem, ↓reduceIte, Nat.reduceLT, Nat.reduceEqDiff, Nat.reduceAdd, Nat.reduceMul, Nat.reduceSub, Int.reduceAdd, Int.reduceSub, Nat.reduceLeDiff, Int.reduceLT, Int.reduceLE, Int.reduceEq, Int.reduceNeg, Int.reduceToNat, slV_nil]
    exact ⟨V.nilslice, [], by simp, Or.inl ⟨rfl, rfl⟩⟩
  · have hb2 : (b && decide (l.length = 0)) = false := by
      cases b with
      | false => rfl
      | true => simp only [true_and] at hb; simp [hb]
    obtain ⟨g, ha⟩ : ∃ g, appOf 2 40 (H ++ [.row 0 [] true]) (.slice H.length 0 0 0 2 .full) (slV b nmE l) = some (.slice H.length g 0 l.length 2 .full, H ++ [.row g (flatE nmE l) true]) := by
      have hw : nmE.w = 2 := rfl
      have hfl := flatE_len (E := nmE) (l := l)
      rw [hw] at hfl
      have hfc := flatE_cells nmE l
      unfold appOf
      rw [src_slV]
      simp only [Option.bind_some]
      rw [if_pos ⟨hfl, hfc⟩]
      simp only [getRow_last, Option.bind_some]
      rw [if_pos ⟨trivial, by omega, by omega, by simp⟩]
      by_cases hz : l.length = 0
      · obtain rfl : l = [] := List.eq_nil_of_length_eq_zero hz
        exact ⟨0, by simp [flatE]⟩
      · refine ⟨1, ?_⟩
        rw [if_neg hz, if_pos trivial, if_neg (by simp; omega), if_pos (by simp)]
        simp
    simp (disch := first | rfl | omega | exact lt_new _ | assumption | decide | (simp [tk_here, tk_app, tk_0, tk_S, gr_here, gr_app, gr_0, gr_S] <;> omega) | fail) only [r117_0, r117_1, r117_2, r117_3, c117, rs117, gc117, go_sem, ↓reduceIte, Nat.reduceLT, Nat.reduceEqDiff, Nat.reduceAdd, Nat.reduceMul, Nat.reduceSub, Int.reduceAdd, Int.reduceSub, Nat.reduceLeDiff, Int.reduceLT, Int.reduceLE, Int.reduceEq, Int.reduceNeg, Int.reduceToNat, hb2, ha]
    exact ⟨_, _, rfl, Or.inr ⟨0, g, rfl, by simp, by simp [getRow]⟩⟩

theorem fn119 {b : Bool} {l : List Sc} (hl : l.length ≤ 2 ^ 30) (H : Hp) : ∃ v L, callL Try.prog pr 119 [slV b scE l] H = some (v, H ++ L) ∧ RowM scE H.length L v l := by
  suffices h : ∃ r, callL Try.prog pr 119 [slV b scE l] H = some r ∧ ∃ v L, r = (v, H ++ L) ∧ RowM scE H.length L v l by
    obtain ⟨_, h1, v, L, rfl, h2⟩ := h; exact ⟨v, L, h1, h2⟩
  refine ex119 (Nat.le_of_ble_eq_true rfl) ?_
  by_cases hb : b = true ∧ l = []
  · obtain ⟨rfl, rfl⟩ := hb
    simp (disch := first | rfl | omega | exact lt_new _ | assumption | decide | (simp [tk_here, tk_app, tk_0, tk_S, gr_here, gr_app, gr_0, gr_S] <;> omega) | fail) only [r119_0, r119_1, r119_2, r119_3, c119, rs119, gc119, go_sem, ↓reduceIte, Nat.reduceLT, Nat.reduceEqDiff, Nat.reduceAdd, Nat.reduceMul, Nat.reduceSub, Int.reduceAdd, Int.reduceSub, Nat.reduceLeDiff, Int.reduceLT, Int.reduceLE, Int.reduceEq, Int.reduceNeg, Int.reduceToNat, slV_nil]
    exact ⟨V.nilslice, [], by simp, Or.inl ⟨rfl, rfl⟩⟩
  · have hb2 : (b && decide (l.length = 0)) = false := by
      cases b with
      | false => rfl
      | true => simp only [true_and] at hb; simp [hb]
    obtain ⟨g, ha⟩ : ∃ g, appOf 2 40 (H ++ [.row 0 [] true]) (.slice H.length 0 0 0 2 .full) (slV b scE l) = some (.slice H.length g 0 l.length 2 .full, H ++ [.row g (flatE scE l) true]) := by
      have hw : scE.w = 2 := rfl
      have hfl := flatE_len (E := scE) (l := l)
      rw [hw] at hfl
      have hfc := flatE_cells scE l
      unfold appOf
      rw [src_slV]
      simp only [Option.bind_some]
      rw [if_pos ⟨hfl, hfc⟩]
      simp only [getRow_last, Option.bind_some]
      rw [if_pos ⟨trivial, by omega, by omega, by simp⟩]
      by_cases hz : l.length = 0
      · obtain rfl : l = [] := List.eq_nil_of_length_eq_zero hz
        exact ⟨0, by simp [flatE]⟩
      · refine ⟨1, ?_⟩
        rw [if_neg hz, if_pos trivial, if_neg (by simp; omega), if_pos (by simp)]
        simp
    simp (disch := first | rfl | omega | exact lt_new _ | assumption | decide | (simp [tk_here, tk_app, tk_0, tk_S, gr_here, gr_app, gr_0, gr_S] <;> omega) | fail) only [r119_0, r119_1, r119_2, r119_3, c119, rs119, gc119, go_sem, ↓reduceIte, Nat.reduceLT, Nat.reduceEqDiff, Nat.reduceAdd, Nat.reduceMul, Nat.reduceSub, Int.reduceAdd, Int.reduceSub, Nat.reduceLeDiff, Int.reduceLT, Int.reduceLE, Int.reduceEq, Int.reduceNeg, Int.reduceToNat, hb2, ha]
    exact ⟨_, _, rfl, Or.inr ⟨0, g, rfl, by simp, by simp [getRow]⟩⟩

theorem fn120 {b : Bool} {l : List Pk} (hl : l.length ≤ 2 ^ 30) (H : Hp) : ∃ v L, callL Try.prog pr 120 [slV b pkE l] H = some (v, H ++ L) ∧ RowM pkE H.length L v l := by
  suffices h : ∃ r, callL Try.prog pr 120 [slV b pkE l] H = some r ∧ ∃ v L, r = (v, H ++ L) ∧ RowM pkE H.length L v l by
    obtain ⟨_, h1, v, L, rfl, h2⟩ := h; exact ⟨v, L, h1, h2⟩
  refine ex120 (Nat.le_of_ble_eq_true rfl) ?_
  by_cases hb : b = true ∧ l = []
  · obtain ⟨rfl, rfl⟩ := hb
    simp (disch := first | rfl | omega | exact lt_new _ | assumption | decide | (simp [tk_here, tk_app, tk_0, tk_S, gr_here, gr_app, gr_0, gr_S] <;> omega) | fail) only [r120_0, r120_1, r120_2, r120_3, c120, rs120, gc120, go_sem, ↓reduceIte, Nat.reduceLT, Nat.reduceEqDiff, Nat.reduceAdd, Nat.reduceMul, Nat.reduceSub, Int.reduceAdd, Int.reduceSub, Nat.reduceLeDiff, Int.reduceLT, Int.reduceLE, Int.reduceEq, Int.reduceNeg, Int.reduceToNat, slV_nil]
    exact ⟨V.nilslice, [], by simp, Or.inl ⟨rfl, rfl⟩⟩
  · have hb2 : (b && decide (l.length = 0)) = false := by
      cases b with
      | false => rfl
      | true => simp only [true_and] at hb; simp [hb]
    obtain ⟨g, ha⟩ : ∃ g, appOf 5 64 (H ++ [.row 0 [] true]) (.slice H.length 0 0 0 5 .full) (slV b pkE l) = some (.slice H.length g 0 l.length 5 .full, H ++ [.row g (flatE pkE l) true]) := by
      have hw : pkE.w = 5 := rfl
      have hfl := flatE_len (E := pkE) (l := l)
      rw [hw] at hfl
      have hfc := flatE_cells pkE l
      unfold appOf
      rw [src_slV]
      simp only [Option.bind_some]
      rw [if_pos ⟨hfl, hfc⟩]
      simp only [getRow_last, Option.bind_some]
      rw [if_pos ⟨trivial, by omega, by omega, by simp⟩]
      by_cases hz : l.length = 0
      · obtain rfl : l = [] := List.eq_nil_of_length_eq_zero hz
        exact ⟨0, by simp [flatE]⟩
      · refine ⟨1, ?_⟩
        rw [if_neg hz, if_pos trivial, if_neg (by simp; omega), if_pos (by simp)]
        simp
    simp (disch := first | rfl | omega | exact lt_new _ | assumption | decide | (simp [tk_here, tk_app, tk_0, tk_S, gr_here, gr_app, gr_0, gr_S] <;> omega) | fail) only [r120_0, r120_1, r120_2, r120_3, c120, rs120, gc120, go_sem, ↓reduceIte, Nat.reduceLT, Nat.reduceEqDiff, Nat.reduceAdd, Nat.reduceMul, Nat.reduceSub, Int.reduceAdd, Int.reduceSub, Nat.reduceLeDiff, Int.reduceLT, Int.reduceLE, Int.reduceEq, Int.reduceNeg, Int.reduceToNat, hb2, ha]
    exact ⟨_, _, rfl, Or.inr ⟨0, g, rfl, by simp, by simp [getRow]⟩⟩


theorem gr_l {G K : Hp} {j g : Nat} (h : j < G.length) : getRow (G ++ K) j g = getRow G j g := by
  unfold getRow; rw [List.getElem?_append_left h]
theorem st_l {G K : Hp} {j : Nat} {b : AB} (h : j < G.length) : (G ++ K).set j b = G.set j b ++ K := List.set_append_left _ _ h
theorem RowM.two {α : Type} {E : Enc α} {n : Nat} {M : Hp} {v : V} {l : List α} (h : RowM E (n + 2) M v l) : (v = .nilslice ∧ l = []) ∨ ∃ j g, v = .slice (n + (j + 1 + 1)) g 0 l.length E.w .full ∧ j < M.length ∧ getRow M j g = some (flatE E l, true) := by
  rcases h with h | ⟨j, g, rfl, h⟩
  · exact Or.inl h
  · exact Or.inr ⟨j, g, by rw [show n + 2 + j = n + (j + 1 + 1) by omega], h⟩
theorem fn118 {b : Bool} {l : List UInt8} (hl : l.length ≤ 2 ^ 30) (H : Hp) : callL Try.prog pr 118 [slV b byE l] H = some (slV b byE l, H) := by
  refine run118 (Nat.le_of_ble_eq_true rfl) ?_
  by_cases hb : b = true ∧ l = []
  · obtain ⟨rfl, rfl⟩ := hb
    simp (disch := first | rfl | omega | exact lt_new _ | assumption | decide | (simp [tk_here, tk_app, tk_0, tk_S, gr_here, gr_app, gr_0, gr_S] <;> omega) | fail) only [r118_0, r118_1, r118_2, r118_3, c118, rs118, gc118, go_sem, ↓reduceIte, Nat.reduceLT, Nat.reduceEqDiff, Nat.reduceAdd, Nat.reduceMul, Nat.reduceSub, Int.reduceAdd, Int.reduceSub, Nat.reduceLeDiff, Int.reduceLT, Int.reduceLE, Int.reduceEq, Int.reduceNeg, Int.reduceToNat, slV_nil]
    exact finQ_same (by simp (disch := first | rfl | omega | exact lt_new _ | assumption | decide | (simp [tk_here, tk_app, tk_0, tk_S, gr_here, gr_app, gr_0, gr_S] <;> omega) | fail) only [go_sem, ↓reduceIte, Nat.reduceLT, Nat.reduceEqDiff, Nat.reduceAdd, Nat.reduceMul, Nat.reduceSub, Int.reduceAdd, Int.reduceSub, Nat.reduceLeDiff, Int.reduceLT, Int.reduceLE, Int.reduceEq, Int.reduceNeg, Int.reduceToNat])
  · have hb2 : (b && decide (l.length = 0)) = false := by
      cases b with
      | false => rfl
      | true => simp only [true_and] at hb; simp [hb]
    obtain ⟨g, ha⟩ : ∃ g, appOf 1 1 (H ++ [.row 0 [] true]) (.slice H.length 0 0 0 1 .full) (slV b byE l) = some (.slice H.length g 0 l.length 1 .full, H ++ [.row g (flatE byE l) true]) := by
      have hw : byE.w = 1 := rfl
      have hfl := flatE_len (E := byE) (l := l)
      rw [hw] at hfl
      have hfc := flatE_cells byE l
      unfold appOf
      rw [src_slV]
      simp only [Option.bind_some]
      rw [if_pos ⟨hfl, hfc⟩]
      simp only [getRow_last, Option.bind_some]
      rw [if_pos ⟨trivial, by omega, by omega, by simp⟩]
      by_cases hz : l.length = 0
      · obtain rfl : l = [] := List.eq_nil_of_length_eq_zero hz
        exact ⟨0, by simp [flatE]⟩
      · refine ⟨1, ?_⟩
        rw [if_neg hz, if_pos trivial, if_neg (by simpa using fun h => hz (by rw [h]; rfl)), if_pos (by simp)]
        simp
    simp (disch := first | rfl | omega | exact lt_new _ | assumption | decide | (simp [tk_here, tk_app, tk_0, tk_S, gr_here, gr_app, gr_0, gr_S] <;> omega) | fail) only [r118_0, r118_1, r118_2, r118_3, c118, rs118, gc118, go_sem, ↓reduceIte, Nat.reduceLT, Nat.reduceEqDiff, Nat.reduceAdd, Nat.reduceMul, Nat.reduceSub, Int.reduceAdd, Int.reduceSub, Nat.reduceLeDiff, Int.reduceLT, Int.reduceLE, Int.reduceEq, Int.reduceNeg, Int.reduceToNat, hb2, ha]
    refine finQ_app (by rw [show ∀ n H' f id g off m sz cp, inlR n H' f (V.slice id g off m sz cp) = inlB n H' f (V.slice id g off m sz cp) from fun _ _ _ _ _ _ _ _ _ => rfl, inlB_row (Nat.le_refl _) (w := 1) (cs := flatE byE l) (g := g) (len := l.length) (by simp) flatE_len flatE_imm]; simp (disch := first | rfl | omega | exact lt_new _ | assumption | decide | (simp [tk_here, tk_app, tk_0, tk_S, gr_here, gr_app, gr_0, gr_S] <;> omega) | fail) only [go_sem, ↓reduceIte, Nat.reduceLT, Nat.reduceEqDiff, Nat.reduceAdd, Nat.reduceMul, Nat.reduceSub, Int.reduceAdd, Int.reduceSub, Nat.reduceLeDiff, Int.reduceLT, Int.reduceLE, Int.reduceEq, Int.reduceNeg, Int.reduceToNat, slV, if_neg hb]; rfl)
def CpS (c : Cp) : Prop := (c.faces.length ≤ 2 ^ 30 ∧ c.names.length ≤ 2 ^ 30 ∧ c.secrets.length ≤ 2 ^ 30 ∧ c.packets.length ≤ 2 ^ 30) ∧ (∀ x ∈ c.names, x.addr.length ≤ 2 ^ 30) ∧ (∀ x ∈ c.secrets, x.key.length ≤ 2 ^ 30) ∧ ∀ x ∈ c.packets, x.data.length ≤ 2 ^ 30
def CpEq (c d : Cp) : Prop := c.note = d.note ∧ c.faces = d.faces ∧ c.names = d.names ∧ c.secrets = d.secrets ∧ c.packets = d.packets
theorem val_S {c : Cp} (hv : valE c = 0) : CpS c := by
  obtain ⟨hpf, ⟨h1, h2, h3, h4⟩, _⟩ := val_pk hv
  have hw : (∀ n ∈ c.names, nmB n = true) ∧ ∀ s ∈ c.secrets, scB s = true := by
    unfold valE at hv
    split at hv
    · cases hv
    · split at hv
      · cases hv
      · rename_i h2
        unfold wrongB at h2
        simp only [Bool.or_eq_true, decide_eq_true_eq, not_or, List.any_eq_true, not_exists, not_and, Bool.not_eq_true', Bool.not_eq_false] at h2
        exact ⟨fun n hn => h2.1.1.2 n hn, fun n hn => h2.1.2 n hn⟩
  refine ⟨by omega, fun x hx => ?_, fun x hx => ?_, fun x hx => ?_⟩
  · have := hw.1 x hx
    unfold nmB at this
    simp only [Bool.and_eq_true, decide_eq_true_eq] at this
    omega
  · have := hw.2 x hx
    unfold scB at this
    simp only [Bool.and_eq_true, decide_eq_true_eq] at this
    omega
  · have := pf_pk (hpf x hx)
    omega
def noCp : Cp := ⟨[], true, [], true, [], true, [], true, []⟩
theorem noCp_f : cpE.f noCp = [.str [], .nilslice, .nilslice, .nilslice, .nilslice] := by
  rw [cpE_f]
  simp only [noCp, slV_nil]
theorem CpEq.rfl' (c : Cp) : CpEq c c := ⟨rfl, rfl, rfl, rfl, rfl⟩
-- COPY BEGIN
set_option maxHeartbeats 4000000 in
theorem fn74 (c : Cp) (hs : CpS c) (H : Hp) : ∃ d, callL Try.prog pr 74 [.agg (cpE.f c)] H = some (.agg (cpE.f d), H) ∧ CpEq d c := by
  suffices h : ∃ r, callL Try.prog pr 74 [.agg (cpE.f c)] H = some r ∧ ∃ d, r = (.agg (cpE.f d), H) ∧ CpEq d c by
    obtain ⟨_, h1, d, rfl, h2⟩ := h; exact ⟨d, h1, h2⟩
  refine ex74 (Nat.le_of_ble_eq_true rfl) ?_
  obtain ⟨hlen, ha1, ha2, ha3⟩ := hs
  have e118 := fun {b l} h H => fn118 (b := b) (l := l) h H
  have hc0 : cpE.f c = [.str c.note, slV c.facesN fcE c.faces, slV c.namesN nmE c.names, slV c.secretsN scE c.secrets, slV c.packetsN pkE c.packets] := rfl
  obtain ⟨v1, L1, e1, r1⟩ := fn116 (b := c.facesN) hlen.1 (H ++ AB.row 0 [.str c.note, slV c.facesN fcE c.faces, slV c.namesN nmE c.names, slV c.secretsN scE c.secrets, slV c.packetsN pkE c.packets] true :: AB.row 0 [.str [], .nilslice, .nilslice, .nilslice, .nilslice] true :: [])
  rw [show (H ++ AB.row 0 [.str c.note, slV c.facesN fcE c.faces, slV c.namesN nmE c.names, slV c.secretsN scE c.secrets, slV c.packetsN pkE c.packets] true :: AB.row 0 [.str [], .nilslice, .nilslice, .nilslice, .nilslice] true :: []).length = H.length + 2 by simp] at r1
  obtain ⟨c11, c12, c13, c14, c15, c16, c17⟩ := r1.cell
  have n1 := fun H' => r1.len (P := Try.prog) (t := 26) (z := 3) (by kernel_rfl) H'
  have q1 := r1
  obtain ⟨v2, L2, e2, r2⟩ := fn117 (b := c.namesN) hlen.2.1 (H ++ AB.row 0 [.str c.note, v1, slV c.namesN nmE c.names, slV c.secretsN scE c.secrets, slV c.packetsN pkE c.packets] true :: AB.row 0 [.str [], .nilslice, .nilslice, .nilslice, .nilslice] true :: L1)
  rw [show (H ++ AB.row 0 [.str c.note, v1, slV c.namesN nmE c.names, slV c.secretsN scE c.secrets, slV c.packetsN pkE c.packets] true :: AB.row 0 [.str [], .nilslice, .nilslice, .nilslice, .nilslice] true :: L1).length = H.length + 2 + L1.length by simp; omega] at r2
  replace r2 := RowM.pre L1 r2
  replace q1 := RowM.app q1 L2
  obtain ⟨c21, c22, c23, c24, c25, c26, c27⟩ := r2.cell
  have n2 := fun H' => r2.len (P := Try.prog) (t := 27) (z := 2) (by kernel_rfl) H'
  simp (disch := first | rfl | omega | exact lt_new _ | assumption | decide | (simp [tk_here, tk_app, tk_0, tk_S, gr_here, gr_app, gr_0, gr_S] <;> omega) | fail) only [r74_0, r74_1, r74_2, r74_3, r74_4, r74_5, r74_6, r74_7, r74_9, r74_10, r74_11, r74_12, r74_13, r74_14, r74_16, r74_17, r74_18, r74_19, r74_20, r74_21, r74_23, c74, rs74, gc74, go_sem, ↓reduceIte, Nat.reduceLT, Nat.reduceEqDiff, Nat.reduceAdd, Nat.reduceMul, Nat.reduceSub, Int.reduceAdd, Int.reduceSub, Nat.reduceLeDiff, Int.reduceLT, Int.reduceLE, Int.reduceEq, Int.reduceNeg, Int.reduceToNat, loadV_ptr, storeV_ptr, List.append_assoc, List.length_append, List.length_cons, List.length_nil, List.set_cons_zero, List.set_cons_succ, tk_here, tk_app, gr_here, gr_app, st_here, st_app, hc0, e1, e2, n2, c11, c12, c13, c14, c15, c16, c17, c21, c22, c23, c24, c25, c26, c27]
  refine Wp_loop (fun m T D H' => ∃ i M, m = c.names.length - i ∧ i ≤ c.names.length ∧ D = [] ∧ H' = H ++ AB.row 0 [.str c.note, v1, v2, slV c.secretsN scE c.secrets, slV c.packetsN pkE c.packets] true :: AB.row 0 [.str [], .nilslice, .nilslice, .nilslice, .nilslice] true :: M ∧ get T 1 = .ptr H.length 0 0 ∧ get T 2 = .ptr (H.length + 1) 0 0 ∧ get T 18 = v2 ∧ get T 19 = .int .i64 c.names.length ∧ get T 20 = .int .i64 i ∧ RowM fcE (H.length + 2) M v1 c.faces ∧ RowM nmE (H.length + 2) M v2 c.names) ?_ c.names.length _ _ _ ?_
  case refine_2 => exact ⟨0, _, by simp (disch := first | rfl | omega | exact lt_new _ | assumption | decide | (simp [tk_here, tk_app, tk_0, tk_S, gr_here, gr_app, gr_0, gr_S] <;> omega) | fail) only [go_sem, ↓reduceIte, Nat.reduceLT, Nat.reduceEqDiff, Nat.reduceAdd, Nat.reduceMul, Nat.reduceSub, Int.reduceAdd, Int.reduceSub, Nat.reduceLeDiff, Int.reduceLT, Int.reduceLE, Int.reduceEq, Int.reduceNeg, Int.reduceToNat], by omega, rfl, rfl, by simp [go_sem], by simp [go_sem], by simp [go_sem], by simp [go_sem], by simp [go_sem], q1, r2⟩
  rintro m T D H' ⟨i, M, rfl, hi, rfl, rfl, t1, t2, t18, t19, t20, q1, q2⟩
  by_cases hlt : i < c.names.length
  · have hlt' : (i : Int) < c.names.length := by omega
    rcases RowM.two q2 with ⟨_, hnil⟩ | ⟨j, g, hv, hj, hr⟩
    · rw [hnil] at hlt; cases hlt
    have hv' : v2 = .slice (H.length + (j + 1 + 1)) g 0 c.names.length 2 .full := hv
    have p1 : partV Try.prog 97 (flatE nmE c.names) (i * 2) = some (.agg (nmE.f (nmE.at c.names i))) := ld_nmE (H := H) hlt
    have ec := e118 (b := (nmE.at c.names i).addrN) (ha1 _ (nmE.at_mem hlt))
    have hfs : setAt (flatE nmE c.names) (i * 2 + 0) [slV (nmE.at c.names i).addrN byE (nmE.at c.names i).addr] = flatE nmE c.names := flatE_same (E := nmE) hlt (by decide) rfl
    have hfl : (flatE nmE c.names).length = c.names.length * 2 := flatE_len
    have hle : i * 2 + 0 + 1 ≤ c.names.length * 2 := by omega
    have hse := (RowM.get hr).2
    subst hv'
    rw [Nat.add_zero] at hfs hle
    simp (disch := first | rfl | omega | exact lt_new _ | assumption | decide | (simp [tk_here, tk_app, tk_0, tk_S, gr_here, gr_app, gr_0, gr_S] <;> omega) | fail) only [r74_0, r74_1, r74_2, r74_3, r74_4, r74_5, r74_6, r74_7, l74_8, r74_9, r74_10, r74_11, r74_12, r74_13, r74_14, l74_15, r74_16, r74_17, r74_18, r74_19, r74_20, r74_21, l74_22, r74_23, c74, rs74, gc74, go_sem, ↓reduceIte, Nat.reduceLT, Nat.reduceEqDiff, Nat.reduceAdd, Nat.reduceMul, Nat.reduceSub, Int.reduceAdd, Int.reduceSub, Nat.reduceLeDiff, Int.reduceLT, Int.reduceLE, Int.reduceEq, Int.reduceNeg, Int.reduceToNat, loadV_ptr, storeV_ptr, List.append_assoc, List.length_append, List.length_cons, List.length_nil, List.set_cons_zero, List.set_cons_succ, tk_here, tk_app, gr_here, gr_app, st_here, st_app, gr_l hj, st_l hj, hr, hse, t1, t2, t18, t19, t20, hlt', p1, ec, hfs, hfl, hle]
    exact ⟨_, by omega, i + 1, M ++ [_], rfl, hlt, rfl, rfl, RowM.app q1 _, RowM.app q2 _⟩
  · obtain rfl : i = c.names.length := by omega
    have t0 := Int.lt_irrefl
    obtain ⟨v3, L3, e3, r3⟩ := fn119 (b := c.secretsN) hlen.2.2.1 (H ++ AB.row 0 [.str c.note, v1, v2, slV c.secretsN scE c.secrets, slV c.packetsN pkE c.packets] true :: AB.row 0 [.str [], .nilslice, .nilslice, .nilslice, .nilslice] true :: M)
    rw [show (H ++ AB.row 0 [.str c.note, v1, v2, slV c.secretsN scE c.secrets, slV c.packetsN pkE c.packets] true :: AB.row 0 [.str [], .nilslice, .nilslice, .nilslice, .nilslice] true :: M).length = H.length + 2 + M.length by simp; omega] at r3
    replace r3 := RowM.pre M r3
    replace q1 := RowM.app q1 L3
    replace q2 := RowM.app q2 L3
    obtain ⟨c31, c32, c33, c34, c35, c36, c37⟩ := r3.cell
    have n3 := fun H' => r3.len (P := Try.prog) (t := 28) (z := 2) (by kernel_rfl) H'
    simp (disch := first | rfl | omega | exact lt_new _ | assumption | decide | (simp [tk_here, tk_app, tk_0, tk_S, gr_here, gr_app, gr_0, gr_S] <;> omega) | fail) only [r74_0, r74_1, r74_2, r74_3, r74_4, r74_5, r74_6, r74_7, l74_8, r74_9, r74_10, r74_11, r74_12, r74_13, r74_14, l74_15, r74_16, r74_17, r74_18, r74_19, r74_20, r74_21, l74_22, r74_23, c74, rs74, gc74, go_sem, ↓reduceIte, Nat.reduceLT, Nat.reduceEqDiff, Nat.reduceAdd, Nat.reduceMul, Nat.reduceSub, Int.reduceAdd, Int.reduceSub, Nat.reduceLeDiff, Int.reduceLT, Int.reduceLE, Int.reduceEq, Int.reduceNeg, Int.reduceToNat, loadV_ptr, storeV_ptr, List.append_assoc, List.length_append, List.length_cons, List.length_nil, List.set_cons_zero, List.set_cons_succ, tk_here, tk_app, gr_here, gr_app, st_here, st_app, t1, t2, t18, t19, t20, t0, e3, n3, c11, c12, c13, c14, c15, c16, c17, c21, c22, c23, c24, c25, c26, c27, c31, c32, c33, c34, c35, c36, c37]
    refine Wp_loop (fun m T D H' => ∃ i M, m = c.secrets.length - i ∧ i ≤ c.secrets.length ∧ D = [] ∧ H' = H ++ AB.row 0 [.str c.note, v1, v2, v3, slV c.packetsN pkE c.packets] true :: AB.row 0 [.str [], .nilslice, .nilslice, .nilslice, .nilslice] true :: M ∧ get T 1 = .ptr H.length 0 0 ∧ get T 2 = .ptr (H.length + 1) 0 0 ∧ get T 39 = v3 ∧ get T 40 = .int .i64 c.secrets.length ∧ get T 41 = .int .i64 i ∧ RowM fcE (H.length + 2) M v1 c.faces ∧ RowM nmE (H.length + 2) M v2 c.names ∧ RowM scE (H.length + 2) M v3 c.secrets) ?_ c.secrets.length _ _ _ ?_
    case refine_2 => exact ⟨0, _, by simp (disch := first | rfl | omega | exact lt_new _ | assumption | decide | (simp [tk_here, tk_app, tk_0, tk_S, gr_here, gr_app, gr_0, gr_S] <;> omega) | fail) only [go_sem, ↓reduceIte, Nat.reduceLT, Nat.reduceEqDiff, Nat.reduceAdd, Nat.reduceMul, Nat.reduceSub, Int.reduceAdd, Int.reduceSub, Nat.reduceLeDiff, Int.reduceLT, Int.reduceLE, Int.reduceEq, Int.reduceNeg, Int.reduceToNat], by omega, rfl, rfl, by simp [go_sem, t1, t2], by simp [go_sem, t1, t2], by simp [go_sem], by simp [go_sem], by simp [go_sem], q1, q2, r3⟩
    rintro m T D H' ⟨i, M, rfl, hi, rfl, rfl, t1, t2, t39, t40, t41, q1, q2, q3⟩
    by_cases hlt : i < c.secrets.length
    · have hlt' : (i : Int) < c.secrets.length := by omega
      rcases RowM.two q3 with ⟨_, hnil⟩ | ⟨j, g, hv, hj, hr⟩
      · rw [hnil] at hlt; cases hlt
      have hv' : v3 = .slice (H.length + (j + 1 + 1)) g 0 c.secrets.length 2 .full := hv
      have p1 : partV Try.prog 100 (flatE scE c.secrets) (i * 2) = some (.agg (scE.f (scE.at c.secrets i))) := ld_scE (H := H) hlt
      have ec := e118 (b := (scE.at c.secrets i).keyN) (ha2 _ (scE.at_mem hlt))
      have hfs : setAt (flatE scE c.secrets) (i * 2 + 1) [slV (scE.at c.secrets i).keyN byE (scE.at c.secrets i).key] = flatE scE c.secrets := flatE_same (E := scE) hlt (by decide) rfl
      have hfl : (flatE scE c.secrets).length = c.secrets.length * 2 := flatE_len
      have hle : i * 2 + 1 + 1 ≤ c.secrets.length * 2 := by omega
      have hse := (RowM.get hr).2
      subst hv'
      simp (disch := first | rfl | omega | exact lt_new _ | assumption | decide | (simp [tk_here, tk_app, tk_0, tk_S, gr_here, gr_app, gr_0, gr_S] <;> omega) | fail) only [r74_0, r74_1, r74_2, r74_3, r74_4, r74_5, r74_6, r74_7, l74_8, r74_9, r74_10, r74_11, r74_12, r74_13, r74_14, l74_15, r74_16, r74_17, r74_18, r74_19, r74_20, r74_21, l74_22, r74_23, c74, rs74, gc74, go_sem, ↓reduceIte, Nat.reduceLT, Nat.reduceEqDiff, Nat.reduceAdd, Nat.reduceMul, Nat.reduceSub, Int.reduceAdd, Int.reduceSub, Nat.reduceLeDiff, Int.reduceLT, Int.reduceLE, Int.reduceEq, Int.reduceNeg, Int.reduceToNat, loadV_ptr, storeV_ptr, List.append_assoc, List.length_append, List.length_cons, List.length_nil, List.set_cons_zero, List.set_cons_succ, tk_here, tk_app, gr_here, gr_app, st_here, st_app, gr_l hj, st_l hj, hr, hse, t1, t2, t39, t40, t41, hlt', p1, ec, hfs, hfl, hle]
      exact ⟨_, by omega, i + 1, M ++ [_], rfl, hlt, rfl, rfl, RowM.app q1 _, RowM.app q2 _, RowM.app q3 _⟩
    · obtain rfl : i = c.secrets.length := by omega
      have t0 := Int.lt_irrefl
      obtain ⟨v4, L4, e4, r4⟩ := fn120 (b := c.packetsN) hlen.2.2.2 (H ++ AB.row 0 [.str c.note, v1, v2, v3, slV c.packetsN pkE c.packets] true :: AB.row 0 [.str [], .nilslice, .nilslice, .nilslice, .nilslice] true :: M)
      rw [show (H ++ AB.row 0 [.str c.note, v1, v2, v3, slV c.packetsN pkE c.packets] true :: AB.row 0 [.str [], .nilslice, .nilslice, .nilslice, .nilslice] true :: M).length = H.length + 2 + M.length by simp; omega] at r4
      replace r4 := RowM.pre M r4
      replace q1 := RowM.app q1 L4
      replace q2 := RowM.app q2 L4
      replace q3 := RowM.app q3 L4
      obtain ⟨c41, c42, c43, c44, c45, c46, c47⟩ := r4.cell
      have n4 := fun H' => r4.len (P := Try.prog) (t := 29) (z := 5) (by kernel_rfl) H'
      simp (disch := first | rfl | omega | exact lt_new _ | assumption | decide | (simp [tk_here, tk_app, tk_0, tk_S, gr_here, gr_app, gr_0, gr_S] <;> omega) | fail) only [r74_0, r74_1, r74_2, r74_3, r74_4, r74_5, r74_6, r74_7, l74_8, r74_9, r74_10, r74_11, r74_12, r74_13, r74_14, l74_15, r74_16, r74_17, r74_18, r74_19, r74_20, r74_21, l74_22, r74_23, c74, rs74, gc74, go_sem, ↓reduceIte, Nat.reduceLT, Nat.reduceEqDiff, Nat.reduceAdd, Nat.reduceMul, Nat.reduceSub, Int.reduceAdd, Int.reduceSub, Nat.reduceLeDiff, Int.reduceLT, Int.reduceLE, Int.reduceEq, Int.reduceNeg, Int.reduceToNat, loadV_ptr, storeV_ptr, List.append_assoc, List.length_append, List.length_cons, List.length_nil, List.set_cons_zero, List.set_cons_succ, tk_here, tk_app, gr_here, gr_app, st_here, st_app, t1, t2, t39, t40, t41, t0, e4, n4, c11, c12, c13, c14, c15, c16, c17, c21, c22, c23, c24, c25, c26, c27, c31, c32, c33, c34, c35, c36, c37, c41, c42, c43, c44, c45, c46, c47]
      refine Wp_loop (fun m T D H' => ∃ i M, m = c.packets.length - i ∧ i ≤ c.packets.length ∧ D = [] ∧ H' = H ++ AB.row 0 [.str c.note, v1, v2, v3, v4] true :: AB.row 0 [.str [], .nilslice, .nilslice, .nilslice, .nilslice] true :: M ∧ get T 1 = .ptr H.length 0 0 ∧ get T 2 = .ptr (H.length + 1) 0 0 ∧ get T 60 = v4 ∧ get T 61 = .int .i64 c.packets.length ∧ get T 62 = .int .i64 i ∧ RowM fcE (H.length + 2) M v1 c.faces ∧ RowM nmE (H.length + 2) M v2 c.names ∧ RowM scE (H.length + 2) M v3 c.secrets ∧ RowM pkE (H.length + 2) M v4 c.packets) ?_ c.packets.length _ _ _ ?_
      case refine_2 => exact ⟨0, _, by simp (disch := first | rfl | omega | exact lt_new _ | assumption | decide | (simp [tk_here, tk_app, tk_0, tk_S, gr_here, gr_app, gr_0, gr_S] <;> omega) | fail) only [go_sem, ↓reduceIte, Nat.reduceLT, Nat.reduceEqDiff, Nat.reduceAdd, Nat.reduceMul, Nat.reduceSub, Int.reduceAdd, Int.reduceSub, Nat.reduceLeDiff, Int.reduceLT, Int.reduceLE, Int.reduceEq, Int.reduceNeg, Int.reduceToNat], by omega, rfl, rfl, by simp [go_sem, t1, t2], by simp [go_sem, t1, t2], by simp [go_sem], by simp [go_sem], by simp [go_sem], q1, q2, q3, r4⟩
      rintro m T D H' ⟨i, M, rfl, hi, rfl, rfl, t1, t2, t60, t61, t62, q1, q2, q3, q4⟩
      by_cases hlt : i < c.packets.length
      · have hlt' : (i : Int) < c.packets.length := by omega
        rcases RowM.two q4 with ⟨_, hnil⟩ | ⟨j, g, hv, hj, hr⟩
        · rw [hnil] at hlt; cases hlt
        have hv' : v4 = .slice (H.length + (j + 1 + 1)) g 0 c.packets.length 5 .full := hv
        have p1 : partV Try.prog 56 (flatE pkE c.packets) (i * 5) = some (.agg (pkE.f (pkE.at c.packets i))) := ld_pkE (H := H) hlt
        have ec := e118 (b := (pkE.at c.packets i).dataN) (ha3 _ (pkE.at_mem hlt))
        have hfs : setAt (flatE pkE c.packets) (i * 5 + 3) [slV (pkE.at c.packets i).dataN byE (pkE.at c.packets i).data] = flatE pkE c.packets := flatE_same (E := pkE) hlt (by decide) rfl
        have hfl : (flatE pkE c.packets).length = c.packets.length * 5 := flatE_len
        have hle : i * 5 + 3 + 1 ≤ c.packets.length * 5 := by omega
        have hse := (RowM.get hr).2
        subst hv'
        simp (disch := first | rfl | omega | exact lt_new _ | assumption | decide | (simp [tk_here, tk_app, tk_0, tk_S, gr_here, gr_app, gr_0, gr_S] <;> omega) | fail) only [r74_0, r74_1, r74_2, r74_3, r74_4, r74_5, r74_6, r74_7, l74_8, r74_9, r74_10, r74_11, r74_12, r74_13, r74_14, l74_15, r74_16, r74_17, r74_18, r74_19, r74_20, r74_21, l74_22, r74_23, c74, rs74, gc74, go_sem, ↓reduceIte, Nat.reduceLT, Nat.reduceEqDiff, Nat.reduceAdd, Nat.reduceMul, Nat.reduceSub, Int.reduceAdd, Int.reduceSub, Nat.reduceLeDiff, Int.reduceLT, Int.reduceLE, Int.reduceEq, Int.reduceNeg, Int.reduceToNat, loadV_ptr, storeV_ptr, List.append_assoc, List.length_append, List.length_cons, List.length_nil, List.set_cons_zero, List.set_cons_succ, tk_here, tk_app, gr_here, gr_app, st_here, st_app, gr_l hj, st_l hj, hr, hse, t1, t2, t60, t61, t62, hlt', p1, ec, hfs, hfl, hle]
        exact ⟨_, by omega, i + 1, M ++ [_], rfl, hlt, rfl, rfl, RowM.app q1 _, RowM.app q2 _, RowM.app q3 _, RowM.app q4 _⟩
      · obtain rfl : i = c.packets.length := by omega
        have t0 := Int.lt_irrefl
        simp (disch := first | rfl | omega | exact lt_new _ | assumption | decide | (simp [tk_here, tk_app, tk_0, tk_S, gr_here, gr_app, gr_0, gr_S] <;> omega) | fail) only [r74_0, r74_1, r74_2, r74_3, r74_4, r74_5, r74_6, r74_7, l74_8, r74_9, r74_10, r74_11, r74_12, r74_13, r74_14, l74_15, r74_16, r74_17, r74_18, r74_19, r74_20, r74_21, l74_22, r74_23, c74, rs74, gc74, go_sem, ↓reduceIte, Nat.reduceLT, Nat.reduceEqDiff, Nat.reduceAdd, Nat.reduceMul, Nat.reduceSub, Int.reduceAdd, Int.reduceSub, Nat.reduceLeDiff, Int.reduceLT, Int.reduceLE, Int.reduceEq, Int.reduceNeg, Int.reduceToNat, loadV_ptr, storeV_ptr, List.append_assoc, List.length_append, List.length_cons, List.length_nil, List.set_cons_zero, List.set_cons_succ, tk_here, tk_app, gr_here, gr_app, st_here, st_app, t1, t2, t60, t61, t62, t0, c11, c12, c13, c14, c15, c16, c17, c21, c22, c23, c24, c25, c26, c27, c31, c32, c33, c34, c35, c36, c37, c41, c42, c43, c44, c45, c46, c47]
        obtain ⟨b1, i1⟩ := RowM.inl (f := 6) (A := H) (m := H.length) (RowM.pre [AB.row 0 [.str c.note, v1, v2, v3, v4] true, AB.row 0 [.str c.note, v1, v2, v3, v4] true] q1) rfl (Nat.le_refl _)
        simp only [List.cons_append, List.nil_append] at i1
        obtain ⟨b2, i2⟩ := RowM.inl (f := 6) (A := H) (m := H.length) (RowM.pre [AB.row 0 [.str c.note, v1, v2, v3, v4] true, AB.row 0 [.str c.note, v1, v2, v3, v4] true] q2) rfl (Nat.le_refl _)
        simp only [List.cons_append, List.nil_append] at i2
        obtain ⟨b3, i3⟩ := RowM.inl (f := 6) (A := H) (m := H.length) (RowM.pre [AB.row 0 [.str c.note, v1, v2, v3, v4] true, AB.row 0 [.str c.note, v1, v2, v3, v4] true] q3) rfl (Nat.le_refl _)
        simp only [List.cons_append, List.nil_append] at i3
        obtain ⟨b4, i4⟩ := RowM.inl (f := 6) (A := H) (m := H.length) (RowM.pre [AB.row 0 [.str c.note, v1, v2, v3, v4] true, AB.row 0 [.str c.note, v1, v2, v3, v4] true] q4) rfl (Nat.le_refl _)
        simp only [List.cons_append, List.nil_append] at i4
        exact ⟨⟨c.note, b1, c.faces, b2, c.names, b3, c.secrets, b4, c.packets⟩, finQ_app (by simp (disch := first | rfl | omega | exact lt_new _ | assumption | decide | (simp [tk_here, tk_app, tk_0, tk_S, gr_here, gr_app, gr_0, gr_S] <;> omega) | fail) only [go_sem, ↓reduceIte, Nat.reduceLT, Nat.reduceEqDiff, Nat.reduceAdd, Nat.reduceMul, Nat.reduceSub, Int.reduceAdd, Int.reduceSub, Nat.reduceLeDiff, Int.reduceLT, Int.reduceLE, Int.reduceEq, Int.reduceNeg, Int.reduceToNat, i1, i2, i3, i4, cpE_f]), rfl, rfl, rfl, rfl, rfl⟩
end Go.Proofs.Ytejkgnmjdaohdaa
/-
  Where a new capture begins, walked. No statement of the seat stands here.
-/
namespace Go.Proofs.Ytejkgnmjdaohdaa
open Go Go.An
set_option maxRecDepth 4000
set_option linter.unusedSimpArgs false
set_option linter.unusedVariables false

def sumL : List Pk → Int
  | [] => 0
  | x :: xs => x.data.length + sumL xs
theorem sumL_drop {l : List Pk} {i : Nat} (h : i < l.length) : sumL (l.drop i) = (pkE.at l i).data.length + sumL (l.drop (i + 1)) := by
  rw [List.drop_eq_getElem_cons h, sumL]
  have h1 := pkE.at_some h
  rw [List.getElem?_eq_getElem h] at h1
  rw [Option.some.inj h1]
theorem sumL_le : ∀ {l : List Pk}, (∀ x ∈ l, x.data.length ≤ 400) → 0 ≤ sumL l ∧ sumL l ≤ 400 * l.length
  | [], _ => by simp [sumL]
  | x :: xs, h => by
    have h1 := h x (by simp)
    have h2 := sumL_le (l := xs) fun y hy => h y (by simp [hy])
    unfold sumL
    simp only [List.length_cons]
    omega
theorem quo_le {a n : Int} (h0 : 0 ≤ a) (h1 : a ≤ 1000000000000000) (hn : 1 ≤ n) : 0 ≤ a.tdiv n ∧ a.tdiv n ≤ 1000000000000000 := by
  rw [Int.tdiv_eq_ediv_of_nonneg h0]
  exact ⟨Int.ediv_nonneg h0 (by omega), Int.le_trans (Int.ediv_le_self n h0) h1⟩
/-- The packets of a part, and what comes next. -/
def PsT (l : List Pk) : Prop := l.length ≤ 100 ∧ ∀ x ∈ l, x.data.length ≤ 400 ∧ PkT x
def bgB (kind n : Int) (now : List Pk) (p : Pk) : Bool := if kind = 0 then decide ((now.length : Int) = n) else if kind = 1 then decide (n < p.data.length + sumL now) else !decide ((pkE.at now (now.length - 1)).time.tdiv n = p.time.tdiv n)
set_option maxHeartbeats 4000000 in
theorem fn115 {kind n : Int} (hn : 1 ≤ n) {now : List Pk} {p : Pk} (hp : p.data.length ≤ 400 ∧ PkT p) (hnow : PsT now) (hne : now.length ≠ 0) {H : Hp} {id g : Nat} (hid : id < H.length) (hr : getRow H id g = some (flatE pkE now, true)) : callL Try.prog pr 115 [.slice id g 0 now.length 5 .full, .agg (pkE.f p), .ipt [.int .i64 kind] 0, .ipt [.int .i64 n] 0] H = some (.bool (bgB kind n now p), H) := by
  refine run115 (Nat.le_of_ble_eq_true rfl) ?_
  obtain ⟨hl, hx⟩ := hnow
  have hll : ∀ H', lenV Try.prog 29 H' (.slice id g 0 now.length 5 .full) = some (.int .i64 now.length) := fun H' => RowM.len (E := pkE) (n := id) (L := [.row g (flatE pkE now) true]) (l := now) (Or.inr ⟨0, g, rfl, by simp, by simp [getRow]⟩) (t := 29) (z := 5) (by kernel_rfl) H'
  unfold bgB
  by_cases k0 : kind = 0
  · subst k0
    rw [if_pos rfl]
    simp (disch := first | rfl | omega | exact lt_new _ | assumption | decide | (simp [tk_here, tk_app, tk_0, tk_S, gr_here, gr_app, gr_0, gr_S] <;> omega) | fail) only [r115_0, r115_1, r115_2, r115_3, r115_4, r115_5, r115_6, r115_7, r115_8, r115_9, r115_10, r115_12, r115_13, c115, rs115, gc115, loadV_ptr, storeV_ptr, List.append_assoc, List.length_append, List.length_cons, List.length_nil, List.set_cons_zero, List.set_cons_succ, tk_here, tk_app, gr_here, gr_app, st_here, st_app, hll, go_sem, ↓reduceIte, Nat.reduceLT, Nat.reduceEqDiff, Nat.reduceAdd, Nat.reduceMul, Nat.reduceSub, Int.reduceAdd, Int.reduceSub, Nat.reduceLeDiff, Int.reduceLT, Int.reduceLE, Int.reduceEq, Int.reduceNeg, Int.reduceToNat]
    repeat' ((first | refine guardB_dec (fun hy => ?_) (fun hy => ?_) | refine guardB_bool (fun hy => ?_) (fun hy => ?_) | refine guardQ_ite (fun hy => ?_) (fun hy => ?_) | refine brQ_dec (fun hy => ?_) (fun hy => ?_) | refine brQ_bool (fun hy => ?_) (fun hy => ?_)) <;> (try simp only [Bool.not_eq_true', Bool.not_eq_false', Bool.and_eq_true, Bool.or_eq_false_iff, decide_eq_true_eq, decide_eq_false_iff_not] at hy) <;> simp (disch := first | rfl | omega | exact lt_new _ | assumption | decide | (simp [tk_here, tk_app, tk_0, tk_S, gr_here, gr_app, gr_0, gr_S] <;> omega) | fail) only [r115_0, r115_1, r115_2, r115_3, r115_4, r115_5, r115_6, r115_7, r115_8, r115_9, r115_10, r115_12, r115_13, c115, rs115, gc115, loadV_ptr, storeV_ptr, List.append_assoc, List.length_append, List.length_cons, List.length_nil, List.set_cons_zero, List.set_cons_succ, tk_here, tk_app, gr_here, gr_app, st_here, st_app, hll, go_sem, ↓reduceIte, Nat.reduceLT, Nat.reduceEqDiff, Nat.reduceAdd, Nat.reduceMul, Nat.reduceSub, Int.reduceAdd, Int.reduceSub, Nat.reduceLeDiff, Int.reduceLT, Int.reduceLE, Int.reduceEq, Int.reduceNeg, Int.reduceToNat, hy])
    all_goals (try ((first | refine finQ_same ?_ | refine finQ_app ?_ | (rw [List.append_assoc]; refine finQ_app ?_)) <;> simp (disch := first | rfl | omega | exact lt_new _ | assumption | decide | (simp [tk_here, tk_app, tk_0, tk_S, gr_here, gr_app, gr_0, gr_S] <;> omega) | fail) only [go_sem, ↓reduceIte, Nat.reduceLT, Nat.reduceEqDiff, Nat.reduceAdd, Nat.reduceMul, Nat.reduceSub, Int.reduceAdd, Int.reduceSub, Nat.reduceLeDiff, Int.reduceLT, Int.reduceLE, Int.reduceEq, Int.reduceNeg, Int.reduceToNat, List.append_assoc, List.cons_append, List.nil_append, *]))
    all_goals (try first | rfl | (simp [*]; done) | grind)
  rw [if_neg k0]
  by_cases k1 : kind = 1
  · subst k1
    rw [if_pos rfl]
    have hs := sumL_le fun x h => (hx x h).1
    simp (disch := first | rfl | omega | exact lt_new _ | assumption | decide | (simp [tk_here, tk_app, tk_0, tk_S, gr_here, gr_app, gr_0, gr_S] <;> omega) | fail) only [r115_0, r115_1, r115_2, r115_3, r115_4, r115_5, r115_6, r115_7, r115_8, r115_9, r115_10, r115_12, r115_13, c115, rs115, gc115, loadV_ptr, storeV_ptr, List.append_assoc, List.length_append, List.length_cons, List.length_nil, List.set_cons_zero, List.set_cons_succ, tk_here, tk_app, gr_here, gr_app, st_here, st_app, hll, k0, go_sem, ↓reduceIte, Nat.reduceLT, Nat.reduceEqDiff, Nat.reduceAdd, Nat.reduceMul, Nat.reduceSub, Int.reduceAdd, Int.reduceSub, Nat.reduceLeDiff, Int.reduceLT, Int.reduceLE, Int.reduceEq, Int.reduceNeg, Int.reduceToNat]
    repeat' ((first | refine guardB_dec (fun hy => ?_) (fun hy => ?_) | refine guardB_bool (fun hy => ?_) (fun hy => ?_) | refine guardQ_ite (fun hy => ?_) (fun hy => ?_) | refine brQ_dec (fun hy => ?_) (fun hy => ?_) | refine brQ_bool (fun hy => ?_) (fun hy => ?_)) <;> (try simp only [Bool.not_eq_true', Bool.not_eq_false', Bool.and_eq_true, Bool.or_eq_false_iff, decide_eq_true_eq, decide_eq_false_iff_not] at hy) <;> simp (disch := first | rfl | omega | exact lt_new _ | assumption | decide | (simp [tk_here, tk_app, tk_0, tk_S, gr_here, gr_app, gr_0, gr_S] <;> omega) | fail) only [r115_0, r115_1, r115_2, r115_3, r115_4, r115_5, r115_6, r115_7, r115_8, r115_9, r115_10, r115_12, r115_13, c115, rs115, gc115, loadV_ptr, storeV_ptr, List.append_assoc, List.length_append, List.length_cons, List.length_nil, List.set_cons_zero, List.set_cons_succ, tk_here, tk_app, gr_here, gr_app, st_here, st_app, hll, k0, go_sem, ↓reduceIte, Nat.reduceLT, Nat.reduceEqDiff, Nat.reduceAdd, Nat.reduceMul, Nat.reduceSub, Int.reduceAdd, Int.reduceSub, Nat.reduceLeDiff, Int.reduceLT, Int.reduceLE, Int.reduceEq, Int.reduceNeg, Int.reduceToNat, hy])
    refine Wp_loop (fun m T D H' => ∃ i a G, m = now.length - i ∧ i ≤ now.length ∧ D = [] ∧ H' = H ++ G ∧ get T 3 = .ipt [.int .i64 n] 0 ∧ get T 7 = .int .i64 a ∧ get T 22 = .slice id g 0 now.length 5 .full ∧ get T 23 = .int .i64 now.length ∧ get T 24 = .int .i64 i ∧ 0 ≤ a ∧ a + sumL (now.drop i) = p.data.length + sumL now) ?_ now.length _ _ _ ?_
    case refine_2 => exact ⟨0, p.data.length, [], by simp (disch := first | rfl | omega | exact lt_new _ | assumption | decide | (simp [tk_here, tk_app, tk_0, tk_S, gr_here, gr_app, gr_0, gr_S] <;> omega) | fail) only [go_sem, ↓reduceIte, Nat.reduceLT, Nat.reduceEqDiff, Nat.reduceAdd, Nat.reduceMul, Nat.reduceSub, Int.reduceAdd, Int.reduceSub, Nat.reduceLeDiff, Int.reduceLT, Int.reduceLE, Int.reduceEq, Int.reduceNeg, Int.reduceToNat]; simp⟩
    rintro m T D H' ⟨i, a, G, rfl, hi, rfl, rfl, t3, t7, t22, t23, t24, ha, hsum⟩
    by_cases hlt : i < now.length
    · have hlt' : (i : Int) < now.length := by omega
      have p1 : partV Try.prog 56 (flatE pkE now) (i * 5) = some (.agg (pkE.f (pkE.at now i))) := ld_pkE (H := H) hlt
      rw [sumL_drop hlt] at hsum
      have hd := sumL_le (l := now.drop (i + 1)) fun x h => (hx x (List.mem_of_mem_drop h)).1
      have hxl := (hx _ (pkE.at_mem hlt)).1
      simp (disch := first | rfl | omega | exact lt_new _ | assumption | decide | (simp [tk_here, tk_app, tk_0, tk_S, gr_here, gr_app, gr_0, gr_S] <;> omega) | fail) only [r115_0, r115_1, r115_2, r115_3, r115_4, r115_5, r115_6, r115_7, r115_8, r115_9, r115_10, l115_11, r115_12, r115_13, c115, rs115, gc115, gr_l hid, hr, loadV_ptr, storeV_ptr, List.append_assoc, List.length_append, List.length_cons, List.length_nil, List.set_cons_zero, List.set_cons_succ, tk_here, tk_app, gr_here, gr_app, st_here, st_app, t3, t7, t22, t23, t24, hlt', p1, go_sem, ↓reduceIte, Nat.reduceLT, Nat.reduceEqDiff, Nat.reduceAdd, Nat.reduceMul, Nat.reduceSub, Int.reduceAdd, Int.reduceSub, Nat.reduceLeDiff, Int.reduceLT, Int.reduceLE, Int.reduceEq, Int.reduceNeg, Int.reduceToNat]
      repeat' ((first | refine guardB_dec (fun hy => ?_) (fun hy => ?_) | refine guardB_bool (fun hy => ?_) (fun hy => ?_) | refine guardQ_ite (fun hy => ?_) (fun hy => ?_) | refine brQ_dec (fun hy => ?_) (fun hy => ?_) | refine brQ_bool (fun hy => ?_) (fun hy => ?_)) <;> (try simp only [Bool.not_eq_true', Bool.not_eq_false', Bool.and_eq_true, Bool.or_eq_false_iff, decide_eq_true_eq, decide_eq_false_iff_not] at hy) <;> simp (disch := first | rfl | omega | exact lt_new _ | assumption | decide | (simp [tk_here, tk_app, tk_0, tk_S, gr_here, gr_app, gr_0, gr_S] <;> omega) | fail) only [r115_0, r115_1, r115_2, r115_3, r115_4, r115_5, r115_6, r115_7, r115_8, r115_9, r115_10, l115_11, r115_12, r115_13, c115, rs115, gc115, gr_l hid, hr, loadV_ptr, storeV_ptr, List.append_assoc, List.length_append, List.length_cons, List.length_nil, List.set_cons_zero, List.set_cons_succ, tk_here, tk_app, gr_here, gr_app, st_here, st_app, t3, t7, t22, t23, t24, hlt', p1, go_sem, ↓reduceIte, Nat.reduceLT, Nat.reduceEqDiff, Nat.reduceAdd, Nat.reduceMul, Nat.reduceSub, Int.reduceAdd, Int.reduceSub, Nat.reduceLeDiff, Int.reduceLT, Int.reduceLE, Int.reduceEq, Int.reduceNeg, Int.reduceToNat, hy])
      exact ⟨_, by omega, i + 1, _, _, rfl, hlt, rfl, rfl, rfl, by omega, by omega⟩
    · obtain rfl : i = now.length := by omega
      rw [List.drop_length] at hsum
      have ha2 : a = p.data.length + sumL now := by simpa [sumL] using hsum
      subst ha2
      simp (disch := first | rfl | omega | exact lt_new _ | assumption | decide | (simp [tk_here, tk_app, tk_0, tk_S, gr_here, gr_app, gr_0, gr_S] <;> omega) | fail) only [r115_0, r115_1, r115_2, r115_3, r115_4, r115_5, r115_6, r115_7, r115_8, r115_9, r115_10, l115_11, r115_12, r115_13, c115, rs115, gc115, loadV_ptr, storeV_ptr, List.append_assoc, List.length_append, List.length_cons, List.length_nil, List.set_cons_zero, List.set_cons_succ, tk_here, tk_app, gr_here, gr_app, st_here, st_app, t3, t7, t22, t23, t24, Int.lt_irrefl, go_sem, ↓reduceIte, Nat.reduceLT, Nat.reduceEqDiff, Nat.reduceAdd, Nat.reduceMul, Nat.reduceSub, Int.reduceAdd, Int.reduceSub, Nat.reduceLeDiff, Int.reduceLT, Int.reduceLE, Int.reduceEq, Int.reduceNeg, Int.reduceToNat]
      repeat' ((first | refine guardB_dec (fun hy => ?_) (fun hy => ?_) | refine guardB_bool (fun hy => ?_) (fun hy => ?_) | refine guardQ_ite (fun hy => ?_) (fun hy => ?_) | refine brQ_dec (fun hy => ?_) (fun hy => ?_) | refine brQ_bool (fun hy => ?_) (fun hy => ?_)) <;> (try simp only [Bool.not_eq_true', Bool.not_eq_false', Bool.and_eq_true, Bool.or_eq_false_iff, decide_eq_true_eq, decide_eq_false_iff_not] at hy) <;> simp (disch := first | rfl | omega | exact lt_new _ | assumption | decide | (simp [tk_here, tk_app, tk_0, tk_S, gr_here, gr_app, gr_0, gr_S] <;> omega) | fail) only [r115_0, r115_1, r115_2, r115_3, r115_4, r115_5, r115_6, r115_7, r115_8, r115_9, r115_10, l115_11, r115_12, r115_13, c115, rs115, gc115, loadV_ptr, storeV_ptr, List.append_assoc, List.length_append, List.length_cons, List.length_nil, List.set_cons_zero, List.set_cons_succ, tk_here, tk_app, gr_here, gr_app, st_here, st_app, t3, t7, t22, t23, t24, Int.lt_irrefl, go_sem, ↓reduceIte, Nat.reduceLT, Nat.reduceEqDiff, Nat.reduceAdd, Nat.reduceMul, Nat.reduceSub, Int.reduceAdd, Int.reduceSub, Nat.reduceLeDiff, Int.reduceLT, Int.reduceLE, Int.reduceEq, Int.reduceNeg, Int.reduceToNat, hy])
      exact finQ_app (by simp (disch := first | rfl | omega | exact lt_new _ | assumption | decide | (simp [tk_here, tk_app, tk_0, tk_S, gr_here, gr_app, gr_0, gr_S] <;> omega) | fail) only [go_sem, ↓reduceIte, Nat.reduceLT, Nat.reduceEqDiff, Nat.reduceAdd, Nat.reduceMul, Nat.reduceSub, Int.reduceAdd, Int.reduceSub, Nat.reduceLeDiff, Int.reduceLT, Int.reduceLE, Int.reduceEq, Int.reduceNeg, Int.reduceToNat])
  · rw [if_neg k1]
    obtain ⟨j, hj⟩ : ∃ j, now.length = j + 1 := ⟨now.length - 1, by omega⟩
    have hj1 : (now.length : Int) - 1 = (j : Int) := by omega
    have hjl : j < now.length := by omega
    have hj2 : now.length - 1 = j := by omega
    have p1 : partV Try.prog 56 (flatE pkE now) (j * 5) = some (.agg (pkE.f (pkE.at now j))) := ld_pkE (H := H) hjl
    have p2 : partV Try.prog 3 (flatE pkE now) (j * 5) = some (.int .i64 (pkE.at now j).time) := ld_pkE_0 (H := H) hjl
    have q1 := quo_le (hx _ (pkE.at_mem hjl)).2.1 (hx _ (pkE.at_mem hjl)).2.2 hn
    have q2 := quo_le hp.2.1 hp.2.2 hn
    have hn0 : ¬ n = 0 := by omega
    rw [hj2]
    simp (disch := first | rfl | omega | exact lt_new _ | assumption | decide | (simp [tk_here, tk_app, tk_0, tk_S, gr_here, gr_app, gr_0, gr_S] <;> omega) | fail) only [r115_0, r115_1, r115_2, r115_3, r115_4, r115_5, r115_6, r115_7, r115_8, r115_9, r115_10, r115_12, r115_13, c115, rs115, gc115, loadV_ptr, storeV_ptr, List.append_assoc, List.length_append, List.length_cons, List.length_nil, List.set_cons_zero, List.set_cons_succ, tk_here, tk_app, gr_here, gr_app, st_here, st_app, hll, k0, k1, hj1, hr, p1, p2, hn0, go_sem, ↓reduceIte, Nat.reduceLT, Nat.reduceEqDiff, Nat.reduceAdd, Nat.reduceMul, Nat.reduceSub, Int.reduceAdd, Int.reduceSub, Nat.reduceLeDiff, Int.reduceLT, Int.reduceLE, Int.reduceEq, Int.reduceNeg, Int.reduceToNat]
    repeat' ((first | refine guardB_dec (fun hy => ?_) (fun hy => ?_) | refine guardB_bool (fun hy => ?_) (fun hy => ?_) | refine guardQ_ite (fun hy => ?_) (fun hy => ?_) | refine brQ_dec (fun hy => ?_) (fun hy => ?_) | refine brQ_bool (fun hy => ?_) (fun hy => ?_)) <;> (try simp only [Bool.not_eq_true', Bool.not_eq_false', Bool.and_eq_true, Bool.or_eq_false_iff, decide_eq_true_eq, decide_eq_false_iff_not] at hy) <;> simp (disch := first | rfl | omega | exact lt_new _ | assumption | decide | (simp [tk_here, tk_app, tk_0, tk_S, gr_here, gr_app, gr_0, gr_S] <;> omega) | fail) only [r115_0, r115_1, r115_2, r115_3, r115_4, r115_5, r115_6, r115_7, r115_8, r115_9, r115_10, r115_12, r115_13, c115, rs115, gc115, loadV_ptr, storeV_ptr, List.append_assoc, List.length_append, List.length_cons, List.length_nil, List.set_cons_zero, List.set_cons_succ, tk_here, tk_app, gr_here, gr_app, st_here, st_app, hll, k0, k1, hj1, hr, p1, p2, hn0, go_sem, ↓reduceIte, Nat.reduceLT, Nat.reduceEqDiff, Nat.reduceAdd, Nat.reduceMul, Nat.reduceSub, Int.reduceAdd, Int.reduceSub, Nat.reduceLeDiff, Int.reduceLT, Int.reduceLE, Int.reduceEq, Int.reduceNeg, Int.reduceToNat, hy])
    all_goals (try ((first | refine finQ_same ?_ | refine finQ_app ?_ | (rw [List.append_assoc]; refine finQ_app ?_)) <;> simp (disch := first | rfl | omega | exact lt_new _ | assumption | decide | (simp [tk_here, tk_app, tk_0, tk_S, gr_here, gr_app, gr_0, gr_S] <;> omega) | fail) only [go_sem, ↓reduceIte, Nat.reduceLT, Nat.reduceEqDiff, Nat.reduceAdd, Nat.reduceMul, Nat.reduceSub, Int.reduceAdd, Int.reduceSub, Nat.reduceLeDiff, Int.reduceLT, Int.reduceLE, Int.reduceEq, Int.reduceNeg, Int.reduceToNat, List.append_assoc, List.cons_append, List.nil_append, *]))
    all_goals (try first | rfl | (simp [*]; done) | grind)
end Go.Proofs.Ytejkgnmjdaohdaa
/-
  The reference's splits, walked. No statement of the seat stands here.
-/
namespace Go.Proofs.Ytejkgnmjdaohdaa
open Go Go.An
set_option maxRecDepth 4000
set_option linter.unusedSimpArgs false
set_option linter.unusedVariables false

theorem fn76 (c : Cp) {b : Bool} {l : List Pk} (H : Hp) : callL Try.prog pr 76 [.agg (cpE.f c), slV b pkE l] H = some (.agg (cpE.f {c with packetsN := b, packets := l}), H) := by
  refine run76 (Nat.le_of_ble_eq_true rfl) ?_
  simp only [cpE_f]
  simp (disch := first | rfl | omega | exact lt_new _ | assumption | decide | (simp [tk_here, tk_app, tk_0, tk_S, gr_here, gr_app, gr_0, gr_S] <;> omega) | fail) only [r76_0, r76_1, r76_2, c76, rs76, gc76, go_sem, ↓reduceIte, Nat.reduceLT, Nat.reduceEqDiff, Nat.reduceAdd, Nat.reduceMul, Nat.reduceSub, Int.reduceAdd, Int.reduceSub, Nat.reduceLeDiff, Int.reduceLT, Int.reduceLE, Int.reduceEq, Int.reduceNeg, Int.reduceToNat, loadV_ptr, storeV_ptr, List.append_assoc, List.length_append, List.length_cons, List.length_nil, List.set_cons_zero, List.set_cons_succ, tk_here, tk_app, gr_here, gr_app, st_here, st_app]
  exact finQ_app (by simp (disch := first | rfl | omega | exact lt_new _ | assumption | decide | (simp [tk_here, tk_app, tk_0, tk_S, gr_here, gr_app, gr_0, gr_S] <;> omega) | fail) only [go_sem, ↓reduceIte, Nat.reduceLT, Nat.reduceEqDiff, Nat.reduceAdd, Nat.reduceMul, Nat.reduceSub, Int.reduceAdd, Int.reduceSub, Nat.reduceLeDiff, Int.reduceLT, Int.reduceLE, Int.reduceEq, Int.reduceNeg, Int.reduceToNat])
def bgR (kind n : Int) (now : List Pk) (p : Pk) : Bool := if kind = 0 then decide (n ≤ (now.length : Int)) else if kind = 1 then decide (n < p.data.length + sumL now) else !decide ((pkE.at now (now.length - 1)).time.tdiv n = p.time.tdiv n)
set_option maxHeartbeats 4000000 in
theorem fn75 {kind n : Int} (hn : 1 ≤ n) {b : Bool} {now : List Pk} {p : Pk} (hp : p.data.length ≤ 400 ∧ PkT p) (hnow : PsT now) (hne : now.length ≠ 0) (H : Hp) : callL Try.prog pr 75 [slV b pkE now, .agg (pkE.f p), .int .i64 kind, .int .i64 n] H = some (.bool (bgR kind n now p), H) := by
  refine run75 (Nat.le_of_ble_eq_true rfl) ?_
  obtain ⟨hl, hx⟩ := hnow
  unfold bgR
  by_cases k0 : kind = 0
  · subst k0
    rw [if_pos rfl]
    simp (disch := first | rfl | omega | exact lt_new _ | assumption | decide | (simp [tk_here, tk_app, tk_0, tk_S, gr_here, gr_app, gr_0, gr_S] <;> omega) | fail) only [r75_0, r75_1, r75_2, r75_3, r75_4, r75_5, r75_6, r75_7, r75_8, r75_9, r75_11, r75_12, c75, rs75, gc75, loadV_ptr, storeV_ptr, List.append_assoc, List.length_append, List.length_cons, List.length_nil, List.set_cons_zero, List.set_cons_succ, tk_here, tk_app, gr_here, gr_app, st_here, st_app, go_sem, ↓reduceIte, Nat.reduceLT, Nat.reduceEqDiff, Nat.reduceAdd, Nat.reduceMul, Nat.reduceSub, Int.reduceAdd, Int.reduceSub, Nat.reduceLeDiff, Int.reduceLT, Int.reduceLE, Int.reduceEq, Int.reduceNeg, Int.reduceToNat]
    repeat' ((first | refine guardB_dec (fun hy => ?_) (fun hy => ?_) | refine guardB_bool (fun hy => ?_) (fun hy => ?_) | refine guardQ_ite (fun hy => ?_) (fun hy => ?_) | refine brQ_dec (fun hy => ?_) (fun hy => ?_) | refine brQ_bool (fun hy => ?_) (fun hy => ?_)) <;> (try simp only [Bool.not_eq_true', Bool.not_eq_false', Bool.and_eq_true, Bool.or_eq_false_iff, decide_eq_true_eq, decide_eq_false_iff_not] at hy) <;> simp (disch := first | rfl | omega | exact lt_new _ | assumption | decide | (simp [tk_here, tk_app, tk_0, tk_S, gr_here, gr_app, gr_0, gr_S] <;> omega) | fail) only [r75_0, r75_1, r75_2, r75_3, r75_4, r75_5, r75_6, r75_7, r75_8, r75_9, r75_11, r75_12, c75, rs75, gc75, loadV_ptr, storeV_ptr, List.append_assoc, List.length_append, List.length_cons, List.length_nil, List.set_cons_zero, List.set_cons_succ, tk_here, tk_app, gr_here, gr_app, st_here, st_app, go_sem, ↓reduceIte, Nat.reduceLT, Nat.reduceEqDiff, Nat.reduceAdd, Nat.reduceMul, Nat.reduceSub, Int.reduceAdd, Int.reduceSub, Nat.reduceLeDiff, Int.reduceLT, Int.reduceLE, Int.reduceEq, Int.reduceNeg, Int.reduceToNat, hy])
    all_goals (try ((first | refine finQ_same ?_ | refine finQ_app ?_ | (rw [List.append_assoc]; refine finQ_app ?_)) <;> simp (disch := first | rfl | omega | exact lt_new _ | assumption | decide | (simp [tk_here, tk_app, tk_0, tk_S, gr_here, gr_app, gr_0, gr_S] <;> omega) | fail) only [go_sem, ↓reduceIte, Nat.reduceLT, Nat.reduceEqDiff, Nat.reduceAdd, Nat.reduceMul, Nat.reduceSub, Int.reduceAdd, Int.reduceSub, Nat.reduceLeDiff, Int.reduceLT, Int.reduceLE, Int.reduceEq, Int.reduceNeg, Int.reduceToNat, List.append_assoc, List.cons_append, List.nil_append, *]))
    all_goals (try first | rfl | (simp [*]; done) | grind)
  rw [if_neg k0]
  by_cases k1 : kind = 1
  · subst k1
    rw [if_pos rfl]
    have hs := sumL_le fun x h => (hx x h).1
    simp (disch := first | rfl | omega | exact lt_new _ | assumption | decide | (simp [tk_here, tk_app, tk_0, tk_S, gr_here, gr_app, gr_0, gr_S] <;> omega) | fail) only [r75_0, r75_1, r75_2, r75_3, r75_4, r75_5, r75_6, r75_7, r75_8, r75_9, r75_11, r75_12, c75, rs75, gc75, loadV_ptr, storeV_ptr, List.append_assoc, List.length_append, List.length_cons, List.length_nil, List.set_cons_zero, List.set_cons_succ, tk_here, tk_app, gr_here, gr_app, st_here, st_app, k0, go_sem, ↓reduceIte, Nat.reduceLT, Nat.reduceEqDiff, Nat.reduceAdd, Nat.reduceMul, Nat.reduceSub, Int.reduceAdd, Int.reduceSub, Nat.reduceLeDiff, Int.reduceLT, Int.reduceLE, Int.reduceEq, Int.reduceNeg, Int.reduceToNat]
    repeat' ((first | refine guardB_dec (fun hy => ?_) (fun hy => ?_) | refine guardB_bool (fun hy => ?_) (fun hy => ?_) | refine guardQ_ite (fun hy => ?_) (fun hy => ?_) | refine brQ_dec (fun hy => ?_) (fun hy => ?_) | refine brQ_bool (fun hy => ?_) (fun hy => ?_)) <;> (try simp only [Bool.not_eq_true', Bool.not_eq_false', Bool.and_eq_true, Bool.or_eq_false_iff, decide_eq_true_eq, decide_eq_false_iff_not] at hy) <;> simp (disch := first | rfl | omega | exact lt_new _ | assumption | decide | (simp [tk_here, tk_app, tk_0, tk_S, gr_here, gr_app, gr_0, gr_S] <;> omega) | fail) only [r75_0, r75_1, r75_2, r75_3, r75_4, r75_5, r75_6, r75_7, r75_8, r75_9, r75_11, r75_12, c75, rs75, gc75, loadV_ptr, storeV_ptr, List.append_assoc, List.length_append, List.length_cons, List.length_nil, List.set_cons_zero, List.set_cons_succ, tk_here, tk_app, gr_here, gr_app, st_here, st_app, k0, go_sem, ↓reduceIte, Nat.reduceLT, Nat.reduceEqDiff, Nat.reduceAdd, Nat.reduceMul, Nat.reduceSub, Int.reduceAdd, Int.reduceSub, Nat.reduceLeDiff, Int.reduceLT, Int.reduceLE, Int.reduceEq, Int.reduceNeg, Int.reduceToNat, hy])
    refine Wp_loop (fun m T D H' => ∃ i a, m = now.length - i ∧ i ≤ now.length ∧ D = [] ∧ H' = H ∧ get T 0 = slV b pkE now ∧ get T 3 = .int .i64 n ∧ get T 9 = .int .i64 a ∧ get T 10 = .int .i64 i ∧ 0 ≤ a ∧ a + sumL (now.drop i) = p.data.length + sumL now) ?_ now.length _ _ _ ?_
    case refine_2 => exact ⟨0, p.data.length, by simp (disch := first | rfl | omega | exact lt_new _ | assumption | decide | (simp [tk_here, tk_app, tk_0, tk_S, gr_here, gr_app, gr_0, gr_S] <;> omega) | fail) only [go_sem, ↓reduceIte, Nat.reduceLT, Nat.reduceEqDiff, Nat.reduceAdd, Nat.reduceMul, Nat.reduceSub, Int.reduceAdd, Int.reduceSub, Nat.reduceLeDiff, Int.reduceLT, Int.reduceLE, Int.reduceEq, Int.reduceNeg, Int.reduceToNat]; simp⟩
    rintro m T D H' ⟨i, a, rfl, hi, rfl, rfl, t0, t3, t9, t10, ha, hsum⟩
    by_cases hlt : i < now.length
    · have hlt' : (i : Int) < now.length := by omega
      rw [sumL_drop hlt] at hsum
      have hd := sumL_le (l := now.drop (i + 1)) fun x h => (hx x (List.mem_of_mem_drop h)).1
      have hxl := (hx _ (pkE.at_mem hlt)).1
      simp (disch := first | rfl | omega | exact lt_new _ | assumption | decide | (simp [tk_here, tk_app, tk_0, tk_S, gr_here, gr_app, gr_0, gr_S] <;> omega) | fail) only [r75_0, r75_1, r75_2, r75_3, r75_4, r75_5, r75_6, r75_7, r75_8, r75_9, l75_10, r75_11, r75_12, c75, rs75, gc75, loadV_ptr, storeV_ptr, List.append_assoc, List.length_append, List.length_cons, List.length_nil, List.set_cons_zero, List.set_cons_succ, tk_here, tk_app, gr_here, gr_app, st_here, st_app, t0, t3, t9, t10, hlt', go_sem, ↓reduceIte, Nat.reduceLT, Nat.reduceEqDiff, Nat.reduceAdd, Nat.reduceMul, Nat.reduceSub, Int.reduceAdd, Int.reduceSub, Nat.reduceLeDiff, Int.reduceLT, Int.reduceLE, Int.reduceEq, Int.reduceNeg, Int.reduceToNat]
      repeat' ((first | refine guardB_dec (fun hy => ?_) (fun hy => ?_) | refine guardB_bool (fun hy => ?_) (fun hy => ?_) | refine guardQ_ite (fun hy => ?_) (fun hy => ?_) | refine brQ_dec (fun hy => ?_) (fun hy => ?_) | refine brQ_bool (fun hy => ?_) (fun hy => ?_)) <;> (try simp only [Bool.not_eq_true', Bool.not_eq_false', Bool.and_eq_true, Bool.or_eq_false_iff, decide_eq_true_eq, decide_eq_false_iff_not] at hy) <;> simp (disch := first | rfl | omega | exact lt_new _ | assumption | decide | (simp [tk_here, tk_app, tk_0, tk_S, gr_here, gr_app, gr_0, gr_S] <;> omega) | fail) only [r75_0, r75_1, r75_2, r75_3, r75_4, r75_5, r75_6, r75_7, r75_8, r75_9, l75_10, r75_11, r75_12, c75, rs75, gc75, loadV_ptr, storeV_ptr, List.append_assoc, List.length_append, List.length_cons, List.length_nil, List.set_cons_zero, List.set_cons_succ, tk_here, tk_app, gr_here, gr_app, st_here, st_app, t0, t3, t9, t10, hlt', go_sem, ↓reduceIte, Nat.reduceLT, Nat.reduceEqDiff, Nat.reduceAdd, Nat.reduceMul, Nat.reduceSub, Int.reduceAdd, Int.reduceSub, Nat.reduceLeDiff, Int.reduceLT, Int.reduceLE, Int.reduceEq, Int.reduceNeg, Int.reduceToNat, hy])
      exact ⟨_, by omega, i + 1, _, rfl, hlt, rfl, rfl, by omega, by omega⟩
    · obtain rfl : i = now.length := by omega
      rw [List.drop_length] at hsum
      have ha2 : a = p.data.length + sumL now := by simpa [sumL] using hsum
      subst ha2
      simp (disch := first | rfl | omega | exact lt_new _ | assumption | decide | (simp [tk_here, tk_app, tk_0, tk_S, gr_here, gr_app, gr_0, gr_S] <;> omega) | fail) only [r75_0, r75_1, r75_2, r75_3, r75_4, r75_5, r75_6, r75_7, r75_8, r75_9, l75_10, r75_11, r75_12, c75, rs75, gc75, loadV_ptr, storeV_ptr, List.append_assoc, List.length_append, List.length_cons, List.length_nil, List.set_cons_zero, List.set_cons_succ, tk_here, tk_app, gr_here, gr_app, st_here, st_app, t0, t3, t9, t10, Int.lt_irrefl, go_sem, ↓reduceIte, Nat.reduceLT, Nat.reduceEqDiff, Nat.reduceAdd, Nat.reduceMul, Nat.reduceSub, Int.reduceAdd, Int.reduceSub, Nat.reduceLeDiff, Int.reduceLT, Int.reduceLE, Int.reduceEq, Int.reduceNeg, Int.reduceToNat]
      repeat' ((first | refine guardB_dec (fun hy => ?_) (fun hy => ?_) | refine guardB_bool (fun hy => ?_) (fun hy => ?_) | refine guardQ_ite (fun hy => ?_) (fun hy => ?_) | refine brQ_dec (fun hy => ?_) (fun hy => ?_) | refine brQ_bool (fun hy => ?_) (fun hy => ?_)) <;> (try simp only [Bool.not_eq_true', Bool.not_eq_false', Bool.and_eq_true, Bool.or_eq_false_iff, decide_eq_true_eq, decide_eq_false_iff_not] at hy) <;> simp (disch := first | rfl | omega | exact lt_new _ | assumption | decide | (simp [tk_here, tk_app, tk_0, tk_S, gr_here, gr_app, gr_0, gr_S] <;> omega) | fail) only [r75_0, r75_1, r75_2, r75_3, r75_4, r75_5, r75_6, r75_7, r75_8, r75_9, l75_10, r75_11, r75_12, c75, rs75, gc75, loadV_ptr, storeV_ptr, List.append_assoc, List.length_append, List.length_cons, List.length_nil, List.set_cons_zero, List.set_cons_succ, tk_here, tk_app, gr_here, gr_app, st_here, st_app, t0, t3, t9, t10, Int.lt_irrefl, go_sem, ↓reduceIte, Nat.reduceLT, Nat.reduceEqDiff, Nat.reduceAdd, Nat.reduceMul, Nat.reduceSub, Int.reduceAdd, Int.reduceSub, Nat.reduceLeDiff, Int.reduceLT, Int.reduceLE, Int.reduceEq, Int.reduceNeg, Int.reduceToNat, hy])
      exact finQ_same (by simp (disch := first | rfl | omega | exact lt_new _ | assumption | decide | (simp [tk_here, tk_app, tk_0, tk_S, gr_here, gr_app, gr_0, gr_S] <;> omega) | fail) only [go_sem, ↓reduceIte, Nat.reduceLT, Nat.reduceEqDiff, Nat.reduceAdd, Nat.reduceMul, Nat.reduceSub, Int.reduceAdd, Int.reduceSub, Nat.reduceLeDiff, Int.reduceLT, Int.reduceLE, Int.reduceEq, Int.reduceNeg, Int.reduceToNat])
  · rw [if_neg k1]
    obtain ⟨j, hj⟩ : ∃ j, now.length = j + 1 := ⟨now.length - 1, by omega⟩
    have hj1 : (now.length : Int) - 1 = (j : Int) := by omega
    have hjl : j < now.length := by omega
    have hj2 : now.length - 1 = j := by omega
    have q1 := quo_le (hx _ (pkE.at_mem hjl)).2.1 (hx _ (pkE.at_mem hjl)).2.2 hn
    have q2 := quo_le hp.2.1 hp.2.2 hn
    have hn0 : ¬ n = 0 := by omega
    rw [hj2]
    simp (disch := first | rfl | omega | exact lt_new _ | assumption | decide | (simp [tk_here, tk_app, tk_0, tk_S, gr_here, gr_app, gr_0, gr_S] <;> omega) | fail) only [r75_0, r75_1, r75_2, r75_3, r75_4, r75_5, r75_6, r75_7, r75_8, r75_9, r75_11, r75_12, c75, rs75, gc75, loadV_ptr, storeV_ptr, List.append_assoc, List.length_append, List.length_cons, List.length_nil, List.set_cons_zero, List.set_cons_succ, tk_here, tk_app, gr_here, gr_app, st_here, st_app, k0, k1, hj1, hn0, go_sem, ↓reduceIte, Nat.reduceLT, Nat.reduceEqDiff, Nat.reduceAdd, Nat.reduceMul, Nat.reduceSub, Int.reduceAdd, Int.reduceSub, Nat.reduceLeDiff, Int.reduceLT, Int.reduceLE, Int.reduceEq, Int.reduceNeg, Int.reduceToNat]
    repeat' ((first | refine guardB_dec (fun hy => ?_) (fun hy => ?_) | refine guardB_bool (fun hy => ?_) (fun hy => ?_) | refine guardQ_ite (fun hy => ?_) (fun hy => ?_) | refine brQ_dec (fun hy => ?_) (fun hy => ?_) | refine brQ_bool (fun hy => ?_) (fun hy => ?_)) <;> (try simp only [Bool.not_eq_true', Bool.not_eq_false', Bool.and_eq_true, Bool.or_eq_false_iff, decide_eq_true_eq, decide_eq_false_iff_not] at hy) <;> simp (disch := first | rfl | omega | exact lt_new _ | assumption | decide | (simp [tk_here, tk_app, tk_0, tk_S, gr_here, gr_app, gr_0, gr_S] <;> omega) | fail) only [r75_0, r75_1, r75_2, r75_3, r75_4, r75_5, r75_6, r75_7, r75_8, r75_9, r75_11, r75_12, c75, rs75, gc75, loadV_ptr, storeV_ptr, List.append_assoc, List.length_append, List.length_cons, List.length_nil, List.set_cons_zero, List.set_cons_succ, tk_here, tk_app, gr_here, gr_app, st_here, st_app, k0, k1, hj1, hn0, go_sem, ↓reduceIte, Nat.reduceLT, Nat.reduceEqDiff, Nat.reduceAdd, Nat.reduceMul, Nat.reduceSub, Int.reduceAdd, Int.reduceSub, Nat.reduceLeDiff, Int.reduceLT, Int.reduceLE, Int.reduceEq, Int.reduceNeg, Int.reduceToNat, hy])
    all_goals (try ((first | refine finQ_same ?_ | refine finQ_app ?_ | (rw [List.append_assoc]; refine finQ_app ?_)) <;> simp (disch := first | rfl | omega | exact lt_new _ | assumption | decide | (simp [tk_here, tk_app, tk_0, tk_S, gr_here, gr_app, gr_0, gr_S] <;> omega) | fail) only [go_sem, ↓reduceIte, Nat.reduceLT, Nat.reduceEqDiff, Nat.reduceAdd, Nat.reduceMul, Nat.reduceSub, Int.reduceAdd, Int.reduceSub, Nat.reduceLeDiff, Int.reduceLT, Int.reduceLE, Int.reduceEq, Int.reduceNeg, Int.reduceToNat, List.append_assoc, List.cons_append, List.nil_append, *]))
    all_goals (try first | rfl | (simp [*]; done) | grind)
/-! The parts. -/
def spS (B : List Pk → Pk → Bool) (ps : List Pk) : Nat → List (List Pk) × List Pk
  | 0 => ([], [])
  | k + 1 => if (spS B ps k).2.length ≠ 0 ∧ B (spS B ps k).2 (pkE.at ps k) = true then ((spS B ps k).1 ++ [(spS B ps k).2], [pkE.at ps k]) else ((spS B ps k).1, (spS B ps k).2 ++ [pkE.at ps k])
theorem spS_ok (B : List Pk → Pk → Bool) (ps : List Pk) : ∀ {k : Nat}, k ≤ ps.length → (spS B ps k).1.length + (spS B ps k).2.length ≤ k ∧ ∀ x ∈ (spS B ps k).2, x ∈ ps
  | 0, _ => by simp [spS]
  | k + 1, h => by
    obtain ⟨h1, h2⟩ := spS_ok B ps (k := k) (by omega)
    have hm := pkE.at_mem (l := ps) (i := k) (by omega)
    unfold spS
    split
    · rename_i hc
      refine ⟨?_, fun x hx => ?_⟩
      · simp only [List.length_append, List.length_cons, List.length_nil]
        have := hc.1
        omega
      · rw [List.mem_singleton.1 hx]; exact hm
    · refine ⟨?_, fun x hx => ?_⟩
      · simp only [List.length_append, List.length_cons, List.length_nil]
        omega
      · rcases List.mem_append.1 hx with hx | hx
        · exact h2 x hx
        · rw [List.mem_singleton.1 hx]; exact hm
theorem bg_eq {kind n : Int} {w : List Pk} {p : Pk} (h : kind = 0 → (w.length : Int) ≤ n) : bgR kind n w p = bgB kind n w p := by
  unfold bgR bgB
  by_cases hk : kind = 0
  · have := h hk
    rw [if_pos hk, if_pos hk]
    exact decide_eq_decide.2 (by omega)
  · rw [if_neg hk, if_neg hk]
theorem bgB0 {kind n : Int} {w : List Pk} {p : Pk} (hk : kind = 0) (h : ¬ bgB kind n w p = true) : (w.length : Int) ≠ n := by
  unfold bgB at h
  rw [if_pos hk] at h
  simpa using h
theorem spS_eq {kind n : Int} (hn : 1 ≤ n) (ps : List Pk) : ∀ k, spS (bgR kind n) ps k = spS (bgB kind n) ps k ∧ (kind = 0 → ((spS (bgB kind n) ps k).2.length : Int) ≤ n)
  | 0 => ⟨rfl, fun _ => by simp [spS]; omega⟩
  | k + 1 => by
    obtain ⟨h1, h2⟩ := spS_eq hn ps k
    have hB : bgR kind n (spS (bgB kind n) ps k).2 (pkE.at ps k) = bgB kind n (spS (bgB kind n) ps k).2 (pkE.at ps k) := bg_eq h2
    refine ⟨by unfold spS; rw [h1, hB], fun hk => ?_⟩
    have h3 := h2 hk
    unfold spS
    split
    · simp; omega
    · rename_i hc
      simp only [List.length_append, List.length_cons, List.length_nil]
      by_cases hz : (spS (bgB kind n) ps k).2.length = 0
      · omega
      · have : ¬ bgB kind n (spS (bgB kind n) ps k).2 (pkE.at ps k) = true := fun h => hc ⟨hz, h⟩
        have := bgB0 hk this
        omega
def wc (c : Cp) (l : List Pk) : Cp := {c with packetsN := true, packets := l}
def splF (c : Cp) (kind n : Int) : List Cp × Int := if valE c = 0 then if kind < 0 ∨ 2 < kind ∨ n < 1 then ([], 1) else (((spS (bgB kind n) c.packets c.packets.length).1 ++ [(spS (bgB kind n) c.packets c.packets.length).2]).map (wc c), 0) else ([], valE c)
theorem val_Ps {c : Cp} (hv : valE c = 0) {l : List Pk} (h1 : l.length ≤ c.packets.length) (h2 : ∀ x ∈ l, x ∈ c.packets) : PsT l := by
  obtain ⟨hpf, ⟨hl, _⟩, _⟩ := val_pk hv
  exact ⟨by omega, fun x hx => ⟨(pf_pk (hpf x (h2 x hx))).2.2.2.1, (pf_pk (hpf x (h2 x hx))).1⟩⟩
set_option maxHeartbeats 4000000 in
theorem fn26 (c : Cp) (hc : CpOk c) (kind n : Int) (H : Hp) : callL Try.prog pr 26 [.agg (cpE.f c), .int .i64 kind, .int .i64 n] H = some (.tup [slV true cpE (splF c kind n).1, .int .i64 (splF c kind n).2], H) := by
  have h63 := fn63 c hc
  refine run26 (Nat.le_of_ble_eq_true rfl) ?_
  unfold splF
  by_cases hv : valE c = 0
  case neg =>
    rw [if_neg hv]
    simp (disch := first | rfl | omega | exact lt_new _ | assumption | decide | (simp [tk_here, tk_app, tk_0, tk_S, gr_here, gr_app, gr_0, gr_S] <;> omega) | fail) only [r26_0, r26_1, r26_2, r26_3, r26_4, r26_5, r26_6, r26_7, r26_8, r26_9, r26_10, r26_11, r26_12, r26_13, r26_14, r26_16, c26, rs26, gc26, loadV_ptr, storeV_ptr, List.append_assoc, List.length_append, List.length_cons, List.length_nil, List.set_cons_zero, List.set_cons_succ, tk_here, tk_app, gr_here, gr_app, st_here, st_app, h63, hv, slV_nil, go_sem, ↓reduceIte, Nat.reduceLT, Nat.reduceEqDiff, Nat.reduceAdd, Nat.reduceMul, Nat.reduceSub, Int.reduceAdd, Int.reduceSub, Nat.reduceLeDiff, Int.reduceLT, Int.reduceLE, Int.reduceEq, Int.reduceNeg, Int.reduceToNat]
    repeat' ((first | refine guardB_dec (fun hy => ?_) (fun hy => ?_) | refine guardB_bool (fun hy => ?_) (fun hy => ?_) | refine guardQ_ite (fun hy => ?_) (fun hy => ?_) | refine brQ_dec (fun hy => ?_) (fun hy => ?_) | refine brQ_bool (fun hy => ?_) (fun hy => ?_)) <;> (try simp only [Bool.not_eq_true', Bool.not_eq_false', Bool.and_eq_true, Bool.or_eq_false_iff, decide_eq_true_eq, decide_eq_false_iff_not] at hy) <;> simp (disch := first | rfl | omega | exact lt_new _ | assumption | decide | (simp [tk_here, tk_app, tk_0, tk_S, gr_here, gr_app, gr_0, gr_S] <;> omega) | fail) only [r26_0, r26_1, r26_2, r26_3, r26_4, r26_5, r26_6, r26_7, r26_8, r26_9, r26_10, r26_11, r26_12, r26_13, r26_14, r26_16, c26, rs26, gc26, loadV_ptr, storeV_ptr, List.append_assoc, List.length_append, List.length_cons, List.length_nil, List.set_cons_zero, List.set_cons_succ, tk_here, tk_app, gr_here, gr_app, st_here, st_app, h63, hv, slV_nil, go_sem, ↓reduceIte, Nat.reduceLT, Nat.reduceEqDiff, Nat.reduceAdd, Nat.reduceMul, Nat.reduceSub, Int.reduceAdd, Int.reduceSub, Nat.reduceLeDiff, Int.reduceLT, Int.reduceLE, Int.reduceEq, Int.reduceNeg, Int.reduceToNat, hy])
    all_goals (try ((first | refine finQ_same ?_ | refine finQ_app ?_ | (rw [List.append_assoc]; refine finQ_app ?_)) <;> simp (disch := first | rfl | omega | exact lt_new _ | assumption | decide | (simp [tk_here, tk_app, tk_0, tk_S, gr_here, gr_app, gr_0, gr_S] <;> omega) | fail) only [go_sem, ↓reduceIte, Nat.reduceLT, Nat.reduceEqDiff, Nat.reduceAdd, Nat.reduceMul, Nat.reduceSub, Int.reduceAdd, Int.reduceSub, Nat.reduceLeDiff, Int.reduceLT, Int.reduceLE, Int.reduceEq, Int.reduceNeg, Int.reduceToNat, List.append_assoc, List.cons_append, List.nil_append, *]))
    all_goals (try first | rfl | (simp [*]; done) | grind)
  rw [if_pos hv]
  by_cases ha : kind < 0 ∨ 2 < kind ∨ n < 1
  case pos =>
    rw [if_pos ha]
    have ha2 : ¬ kind < 0 → ¬ 2 < kind → n < 1 := fun a b => (ha.resolve_left a).resolve_left b
    simp (disch := first | rfl | omega | exact lt_new _ | assumption | decide | (simp [tk_here, tk_app, tk_0, tk_S, gr_here, gr_app, gr_0, gr_S] <;> omega) | fail) only [r26_0, r26_1, r26_2, r26_3, r26_4, r26_5, r26_6, r26_7, r26_8, r26_9, r26_10, r26_11, r26_12, r26_13, r26_14, r26_16, c26, rs26, gc26, loadV_ptr, storeV_ptr, List.append_assoc, List.length_append, List.length_cons, List.length_nil, List.set_cons_zero, List.set_cons_succ, tk_here, tk_app, gr_here, gr_app, st_here, st_app, h63, hv, ha2, slV_nil, go_sem, ↓reduceIte, Nat.reduceLT, Nat.reduceEqDiff, Nat.reduceAdd, Nat.reduceMul, Nat.reduceSub, Int.reduceAdd, Int.reduceSub, Nat.reduceLeDiff, Int.reduceLT, Int.reduceLE, Int.reduceEq, Int.reduceNeg, Int.reduceToNat]
    repeat' ((first | refine guardB_dec (fun hy => ?_) (fun hy => ?_) | refine guardB_bool (fun hy => ?_) (fun hy => ?_) | refine guardQ_ite (fun hy => ?_) (fun hy => ?_) | refine brQ_dec (fun hy => ?_) (fun hy => ?_) | refine brQ_bool (fun hy => ?_) (fun hy => ?_)) <;> (try simp only [Bool.not_eq_true', Bool.not_eq_false', Bool.and_eq_true, Bool.or_eq_false_iff, decide_eq_true_eq, decide_eq_false_iff_not] at hy) <;> simp (disch := first | rfl | omega | exact lt_new _ | assumption | decide | (simp [tk_here, tk_app, tk_0, tk_S, gr_here, gr_app, gr_0, gr_S] <;> omega) | fail) only [r26_0, r26_1, r26_2, r26_3, r26_4, r26_5, r26_6, r26_7, r26_8, r26_9, r26_10, r26_11, r26_12, r26_13, r26_14, r26_16, c26, rs26, gc26, loadV_ptr, storeV_ptr, List.append_assoc, List.length_append, List.length_cons, List.length_nil, List.set_cons_zero, List.set_cons_succ, tk_here, tk_app, gr_here, gr_app, st_here, st_app, h63, hv, ha2, slV_nil, go_sem, ↓reduceIte, Nat.reduceLT, Nat.reduceEqDiff, Nat.reduceAdd, Nat.reduceMul, Nat.reduceSub, Int.reduceAdd, Int.reduceSub, Nat.reduceLeDiff, Int.reduceLT, Int.reduceLE, Int.reduceEq, Int.reduceNeg, Int.reduceToNat, hy])
    all_goals (try ((first | refine finQ_same ?_ | refine finQ_app ?_ | (rw [List.append_assoc]; refine finQ_app ?_)) <;> simp (disch := first | rfl | omega | exact lt_new _ | assumption | decide | (simp [tk_here, tk_app, tk_0, tk_S, gr_here, gr_app, gr_0, gr_S] <;> omega) | fail) only [go_sem, ↓reduceIte, Nat.reduceLT, Nat.reduceEqDiff, Nat.reduceAdd, Nat.reduceMul, Nat.reduceSub, Int.reduceAdd, Int.reduceSub, Nat.reduceLeDiff, Int.reduceLT, Int.reduceLE, Int.reduceEq, Int.reduceNeg, Int.reduceToNat, List.append_assoc, List.cons_append, List.nil_append, *]))
    all_goals (try first | rfl | (simp [*]; done) | grind)
  rw [if_neg ha]
  simp only [not_or] at ha
  obtain ⟨a1, a2, a3⟩ := ha
  have hn : 1 ≤ n := by omega
  rw [← (spS_eq (kind := kind) hn c.packets c.packets.length).1]
  have hl := (val_pk hv).2.1.1
  simp (disch := first | rfl | omega | exact lt_new _ | assumption | decide | (simp [tk_here, tk_app, tk_0, tk_S, gr_here, gr_app, gr_0, gr_S] <;> omega) | fail) only [r26_0, r26_1, r26_2, r26_3, r26_4, r26_5, r26_6, r26_7, r26_8, r26_9, r26_10, r26_11, r26_12, r26_13, r26_14, r26_16, c26, rs26, gc26, loadV_ptr, storeV_ptr, List.append_assoc, List.length_append, List.length_cons, List.length_nil, List.set_cons_zero, List.set_cons_succ, tk_here, tk_app, gr_here, gr_app, st_here, st_app, h63, hv, a1, a2, a3, go_sem, ↓reduceIte, Nat.reduceLT, Nat.reduceEqDiff, Nat.reduceAdd, Nat.reduceMul, Nat.reduceSub, Int.reduceAdd, Int.reduceSub, Nat.reduceLeDiff, Int.reduceLT, Int.reduceLE, Int.reduceEq, Int.reduceNeg, Int.reduceToNat]
  repeat' ((first | refine guardB_dec (fun hy => ?_) (fun hy => ?_) | refine guardB_bool (fun hy => ?_) (fun hy => ?_) | refine guardQ_ite (fun hy => ?_) (fun hy => ?_) | refine brQ_dec (fun hy => ?_) (fun hy => ?_) | refine brQ_bool (fun hy => ?_) (fun hy => ?_)) <;> (try simp only [Bool.not_eq_true', Bool.not_eq_false', Bool.and_eq_true, Bool.or_eq_false_iff, decide_eq_true_eq, decide_eq_false_iff_not] at hy) <;> simp (disch := first | rfl | omega | exact lt_new _ | assumption | decide | (simp [tk_here, tk_app, tk_0, tk_S, gr_here, gr_app, gr_0, gr_S] <;> omega) | fail) only [r26_0, r26_1, r26_2, r26_3, r26_4, r26_5, r26_6, r26_7, r26_8, r26_9, r26_10, r26_11, r26_12, r26_13, r26_14, r26_16, c26, rs26, gc26, loadV_ptr, storeV_ptr, List.append_assoc, List.length_append, List.length_cons, List.length_nil, List.set_cons_zero, List.set_cons_succ, tk_here, tk_app, gr_here, gr_app, st_here, st_app, h63, hv, a1, a2, a3, go_sem, ↓reduceIte, Nat.reduceLT, Nat.reduceEqDiff, Nat.reduceAdd, Nat.reduceMul, Nat.reduceSub, Int.reduceAdd, Int.reduceSub, Nat.reduceLeDiff, Int.reduceLT, Int.reduceLE, Int.reduceEq, Int.reduceNeg, Int.reduceToNat, hy])
  refine Wp_loop (fun m T D H' => ∃ k G d w, m = c.packets.length - k ∧ k ≤ c.packets.length ∧ D = [] ∧ H' = H ++ .tok (d.length * 5) :: (G ++ [.tok (w.length * 5)]) ∧ get T 1 = .int .i64 kind ∧ get T 2 = .int .i64 n ∧ get T 3 = .ipt (cpE.f c) 0 ∧ get T 9 = osV H.length cpE (d.map (wc c)) ∧ get T 10 = osV (H.length + (G.length + 1)) pkE w ∧ get T 11 = .int .i64 k ∧ spS (bgR kind n) c.packets k = (d, w)) ?_ c.packets.length _ _ _ ?_
  case refine_2 => exact ⟨0, [], [], [], by simp (disch := first | rfl | omega | exact lt_new _ | assumption | decide | (simp [tk_here, tk_app, tk_0, tk_S, gr_here, gr_app, gr_0, gr_S] <;> omega) | fail) only [go_sem, ↓reduceIte, Nat.reduceLT, Nat.reduceEqDiff, Nat.reduceAdd, Nat.reduceMul, Nat.reduceSub, Int.reduceAdd, Int.reduceSub, Nat.reduceLeDiff, Int.reduceLT, Int.reduceLE, Int.reduceEq, Int.reduceNeg, Int.reduceToNat]; simp [spS, osV_nil]⟩
  rintro m T D H' ⟨k, G, d, w, rfl, hk, rfl, rfl, t1, t2, t3, t9, t10, t11, hsp⟩
  obtain ⟨hdw, hwm⟩ := spS_ok (bgR kind n) c.packets hk
  rw [hsp] at hdw hwm
  simp only at hdw hwm
  have hmp : (d.map (wc c)).length = d.length := by simp
  have h76 := fun H => fn76 c (b := true) (l := w) H
  by_cases hlt : k < c.packets.length
  · have hlt' : (k : Int) < c.packets.length := by omega
    have hsn : spS (bgR kind n) c.packets (k + 1) = if w.length ≠ 0 ∧ bgR kind n w (pkE.at c.packets k) = true then (d ++ [w], [pkE.at c.packets k]) else (d, w ++ [pkE.at c.packets k]) := by
      rw [spS, hsp]
    have hpk := (val_Ps hv (l := c.packets) (Nat.le_refl _) (fun _ h => h)).2 _ (pkE.at_mem hlt)
    by_cases hw : w.length = 0
    · rw [if_neg (fun h => h.1 hw)] at hsn
      have hw' : ¬ (0 : Int) < (w.length : Int) := by omega
      simp (disch := first | rfl | omega | exact lt_new _ | assumption | decide | (simp [tk_here, tk_app, tk_0, tk_S, gr_here, gr_app, gr_0, gr_S] <;> omega) | fail) only [r26_0, r26_1, r26_2, r26_3, r26_4, r26_5, r26_6, r26_7, r26_8, r26_9, r26_10, r26_11, r26_12, r26_13, r26_14, l26_15, r26_16, c26, rs26, gc26, loadV_ptr, storeV_ptr, List.append_assoc, List.length_append, List.length_cons, List.length_nil, List.set_cons_zero, List.set_cons_succ, tk_here, tk_app, gr_here, gr_app, st_here, st_app, t1, t2, t3, t9, t10, t11, hlt', hw', go_sem, ↓reduceIte, Nat.reduceLT, Nat.reduceEqDiff, Nat.reduceAdd, Nat.reduceMul, Nat.reduceSub, Int.reduceAdd, Int.reduceSub, Nat.reduceLeDiff, Int.reduceLT, Int.reduceLE, Int.reduceEq, Int.reduceNeg, Int.reduceToNat]
      repeat' ((first | refine guardB_dec (fun hy => ?_) (fun hy => ?_) | refine guardB_bool (fun hy => ?_) (fun hy => ?_) | refine guardQ_ite (fun hy => ?_) (fun hy => ?_) | refine brQ_dec (fun hy => ?_) (fun hy => ?_) | refine brQ_bool (fun hy => ?_) (fun hy => ?_)) <;> (try simp only [Bool.not_eq_true', Bool.not_eq_false', Bool.and_eq_true, Bool.or_eq_false_iff, decide_eq_true_eq, decide_eq_false_iff_not] at hy) <;> simp (disch := first | rfl | omega | exact lt_new _ | assumption | decide | (simp [tk_here, tk_app, tk_0, tk_S, gr_here, gr_app, gr_0, gr_S] <;> omega) | fail) only [r26_0, r26_1, r26_2, r26_3, r26_4, r26_5, r26_6, r26_7, r26_8, r26_9, r26_10, r26_11, r26_12, r26_13, r26_14, l26_15, r26_16, c26, rs26, gc26, loadV_ptr, storeV_ptr, List.append_assoc, List.length_append, List.length_cons, List.length_nil, List.set_cons_zero, List.set_cons_succ, tk_here, tk_app, gr_here, gr_app, st_here, st_app, t1, t2, t3, t9, t10, t11, hlt', hw', go_sem, ↓reduceIte, Nat.reduceLT, Nat.reduceEqDiff, Nat.reduceAdd, Nat.reduceMul, Nat.reduceSub, Int.reduceAdd, Int.reduceSub, Nat.reduceLeDiff, Int.reduceLT, Int.reduceLE, Int.reduceEq, Int.reduceNeg, Int.reduceToNat, hy])
      exact ⟨_, by omega, k + 1, G, d, w ++ [pkE.at c.packets k], rfl, hlt, by simp [Nat.add_mul], rfl, rfl, rfl, hsn⟩
    · have hw' : (0 : Int) < (w.length : Int) := by omega
      have h75 := fun H => fn75 (kind := kind) hn (b := true) (now := w) hpk (val_Ps hv (by omega) hwm) hw H
      by_cases hB : bgR kind n w (pkE.at c.packets k) = true
      · rw [if_pos ⟨hw, hB⟩] at hsn
        have hz := fun id => (osV_nil id pkE).symm
        simp (disch := first | rfl | omega | exact lt_new _ | assumption | decide | (simp [tk_here, tk_app, tk_0, tk_S, gr_here, gr_app, gr_0, gr_S] <;> omega) | fail) only [r26_0, r26_1, r26_2, r26_3, r26_4, r26_5, r26_6, r26_7, r26_8, r26_9, r26_10, r26_11, r26_12, r26_13, r26_14, l26_15, r26_16, c26, rs26, gc26, loadV_ptr, storeV_ptr, List.append_assoc, List.length_append, List.length_cons, List.length_nil, List.set_cons_zero, List.set_cons_succ, tk_here, tk_app, gr_here, gr_app, st_here, st_app, t1, t2, t3, t9, t10, t11, hlt', hw', h75, hB, h76, hz, go_sem, ↓reduceIte, Nat.reduceLT, Nat.reduceEqDiff, Nat.reduceAdd, Nat.reduceMul, Nat.reduceSub, Int.reduceAdd, Int.reduceSub, Nat.reduceLeDiff, Int.reduceLT, Int.reduceLE, Int.reduceEq, Int.reduceNeg, Int.reduceToNat]
        repeat' ((first | refine guardB_dec (fun hy => ?_) (fun hy => ?_) | refine guardB_bool (fun hy => ?_) (fun hy => ?_) | refine guardQ_ite (fun hy => ?_) (fun hy => ?_) | refine brQ_dec (fun hy => ?_) (fun hy => ?_) | refine brQ_bool (fun hy => ?_) (fun hy => ?_)) <;> (try simp only [Bool.not_eq_true', Bool.not_eq_false', Bool.and_eq_true, Bool.or_eq_false_iff, decide_eq_true_eq, decide_eq_false_iff_not] at hy) <;> simp (disch := first | rfl | omega | exact lt_new _ | assumption | decide | (simp [tk_here, tk_app, tk_0, tk_S, gr_here, gr_app, gr_0, gr_S] <;> omega) | fail) only [r26_0, r26_1, r26_2, r26_3, r26_4, r26_5, r26_6, r26_7, r26_8, r26_9, r26_10, r26_11, r26_12, r26_13, r26_14, l26_15, r26_16, c26, rs26, gc26, loadV_ptr, storeV_ptr, List.append_assoc, List.length_append, List.length_cons, List.length_nil, List.set_cons_zero, List.set_cons_succ, tk_here, tk_app, gr_here, gr_app, st_here, st_app, t1, t2, t3, t9, t10, t11, hlt', hw', h75, hB, h76, hz, go_sem, ↓reduceIte, Nat.reduceLT, Nat.reduceEqDiff, Nat.reduceAdd, Nat.reduceMul, Nat.reduceSub, Int.reduceAdd, Int.reduceSub, Nat.reduceLeDiff, Int.reduceLT, Int.reduceLE, Int.reduceEq, Int.reduceNeg, Int.reduceToNat, hy])
        exact ⟨_, by omega, k + 1, G ++ [.tok (w.length * 5)], d ++ [w], [pkE.at c.packets k], rfl, hlt, by simp, by simp [wc], by simp, rfl, hsn⟩
      · rw [if_neg (fun h => hB h.2)] at hsn
        rw [Bool.not_eq_true] at hB
        simp (disch := first | rfl | omega | exact lt_new _ | assumption | decide | (simp [tk_here, tk_app, tk_0, tk_S, gr_here, gr_app, gr_0, gr_S] <;> omega) | fail) only [r26_0, r26_1, r26_2, r26_3, r26_4, r26_5, r26_6, r26_7, r26_8, r26_9, r26_10, r26_11, r26_12, r26_13, r26_14, l26_15, r26_16, c26, rs26, gc26, loadV_ptr, storeV_ptr, List.append_assoc, List.length_append, List.length_cons, List.length_nil, List.set_cons_zero, List.set_cons_succ, tk_here, tk_app, gr_here, gr_app, st_here, st_app, t1, t2, t3, t9, t10, t11, hlt', hw', h75, hB, go_sem, ↓reduceIte, Nat.reduceLT, Nat.reduceEqDiff, Nat.reduceAdd, Nat.reduceMul, Nat.reduceSub, Int.reduceAdd, Int.reduceSub, Nat.reduceLeDiff, Int.reduceLT, Int.reduceLE, Int.reduceEq, Int.reduceNeg, Int.reduceToNat]
        repeat' ((first | refine guardB_dec (fun hy => ?_) (fun hy => ?_) | refine guardB_bool (fun hy => ?_) (fun hy => ?_) | refine guardQ_ite (fun hy => ?_) (fun hy => ?_) | refine brQ_dec (fun hy => ?_) (fun hy => ?_) | refine brQ_bool (fun hy => ?_) (fun hy => ?_)) <;> (try simp only [Bool.not_eq_true', Bool.not_eq_false', Bool.and_eq_true, Bool.or_eq_false_iff, decide_eq_true_eq, decide_eq_false_iff_not] at hy) <;> simp (disch := first | rfl | omega | exact lt_new _ | assumption | decide | (simp [tk_here, tk_app, tk_0, tk_S, gr_here, gr_app, gr_0, gr_S] <;> omega) | fail) only [r26_0, r26_1, r26_2, r26_3, r26_4, r26_5, r26_6, r26_7, r26_8, r26_9, r26_10, r26_11, r26_12, r26_13, r26_14, l26_15, r26_16, c26, rs26, gc26, loadV_ptr, storeV_ptr, List.append_assoc, List.length_append, List.length_cons, List.length_nil, List.set_cons_zero, List.set_cons_succ, tk_here, tk_app, gr_here, gr_app, st_here, st_app, t1, t2, t3, t9, t10, t11, hlt', hw', h75, hB, go_sem, ↓reduceIte, Nat.reduceLT, Nat.reduceEqDiff, Nat.reduceAdd, Nat.reduceMul, Nat.reduceSub, Int.reduceAdd, Int.reduceSub, Nat.reduceLeDiff, Int.reduceLT, Int.reduceLE, Int.reduceEq, Int.reduceNeg, Int.reduceToNat, hy])
        exact ⟨_, by omega, k + 1, G, d, w ++ [pkE.at c.packets k], rfl, hlt, by simp [Nat.add_mul], rfl, rfl, rfl, hsn⟩
  · obtain rfl : k = c.packets.length := by omega
    rw [hsp]
    simp (disch := first | rfl | omega | exact lt_new _ | assumption | decide | (simp [tk_here, tk_app, tk_0, tk_S, gr_here, gr_app, gr_0, gr_S] <;> omega) | fail) only [r26_0, r26_1, r26_2, r26_3, r26_4, r26_5, r26_6, r26_7, r26_8, r26_9, r26_10, r26_11, r26_12, r26_13, r26_14, l26_15, r26_16, c26, rs26, gc26, loadV_ptr, storeV_ptr, List.append_assoc, List.length_append, List.length_cons, List.length_nil, List.set_cons_zero, List.set_cons_succ, tk_here, tk_app, gr_here, gr_app, st_here, st_app, t1, t2, t3, t9, t10, t11, Int.lt_irrefl, h76, go_sem, ↓reduceIte, Nat.reduceLT, Nat.reduceEqDiff, Nat.reduceAdd, Nat.reduceMul, Nat.reduceSub, Int.reduceAdd, Int.reduceSub, Nat.reduceLeDiff, Int.reduceLT, Int.reduceLE, Int.reduceEq, Int.reduceNeg, Int.reduceToNat]
    repeat' ((first | refine guardB_dec (fun hy => ?_) (fun hy => ?_) | refine guardB_bool (fun hy => ?_) (fun hy => ?_) | refine guardQ_ite (fun hy => ?_) (fun hy => ?_) | refine brQ_dec (fun hy => ?_) (fun hy => ?_) | refine brQ_bool (fun hy => ?_) (fun hy => ?_)) <;> (try simp only [Bool.not_eq_true', Bool.not_eq_false', Bool.and_eq_true, Bool.or_eq_false_iff, decide_eq_true_eq, decide_eq_false_iff_not] at hy) <;> simp (disch := first | rfl | omega | exact lt_new _ | assumption | decide | (simp [tk_here, tk_app, tk_0, tk_S, gr_here, gr_app, gr_0, gr_S] <;> omega) | fail) only [r26_0, r26_1, r26_2, r26_3, r26_4, r26_5, r26_6, r26_7, r26_8, r26_9, r26_10, r26_11, r26_12, r26_13, r26_14, l26_15, r26_16, c26, rs26, gc26, loadV_ptr, storeV_ptr, List.append_assoc, List.length_append, List.length_cons, List.length_nil, List.set_cons_zero, List.set_cons_succ, tk_here, tk_app, gr_here, gr_app, st_here, st_app, t1, t2, t3, t9, t10, t11, Int.lt_irrefl, h76, go_sem, ↓reduceIte, Nat.reduceLT, Nat.reduceEqDiff, Nat.reduceAdd, Nat.reduceMul, Nat.reduceSub, Int.reduceAdd, Int.reduceSub, Nat.reduceLeDiff, Int.reduceLT, Int.reduceLE, Int.reduceEq, Int.reduceNeg, Int.reduceToNat, hy])
    rw [List.map_append]
    refine finQ_app ?_
    simp (disch := first | rfl | omega | exact lt_new _ | assumption | decide | (simp [tk_here, tk_app, tk_0, tk_S, gr_here, gr_app, gr_0, gr_S] <;> omega) | fail) only [go_sem, ↓reduceIte, Nat.reduceLT, Nat.reduceEqDiff, Nat.reduceAdd, Nat.reduceMul, Nat.reduceSub, Int.reduceAdd, Int.reduceSub, Nat.reduceLeDiff, Int.reduceLT, Int.reduceLE, Int.reduceEq, Int.reduceNeg, Int.reduceToNat, wc, List.map_cons, List.map_nil]
end Go.Proofs.Ytejkgnmjdaohdaa
/-
  Splits, walked. No statement of the seat stands here.
-/
namespace Go.Proofs.Ytejkgnmjdaohdaa
open Go Go.An
set_option maxRecDepth 4000
set_option linter.unusedSimpArgs false
set_option linter.unusedVariables false

theorem fn73 (kind n : Int) (H : Hp) : callL Try.prog pr 73 [.int .i64 kind, .int .i64 n] H = some (.fn 115 [] [.ipt [.int .i64 kind] 0, .ipt [.int .i64 n] 0], H) := by
  refine run73 (Nat.le_of_ble_eq_true rfl) ?_
  simp (disch := first | rfl | omega | exact lt_new _ | assumption | decide | (simp [tk_here, tk_app, tk_0, tk_S, gr_here, gr_app, gr_0, gr_S] <;> omega) | fail) only [r73_0, r73_1, c73, rs73, gc73, loadV_ptr, storeV_ptr, List.append_assoc, List.length_append, List.length_cons, List.length_nil, List.set_cons_zero, List.set_cons_succ, tk_here, tk_app, gr_here, gr_app, st_here, st_app, go_sem, ↓reduceIte, Nat.reduceLT, Nat.reduceEqDiff, Nat.reduceAdd, Nat.reduceMul, Nat.reduceSub, Int.reduceAdd, Int.reduceSub, Nat.reduceLeDiff, Int.reduceLT, Int.reduceLE, Int.reduceEq, Int.reduceNeg, Int.reduceToNat]
  repeat' ((first | refine guardB_dec (fun hy => ?_) (fun hy => ?_) | refine guardB_bool (fun hy => ?_) (fun hy => ?_) | refine guardQ_ite (fun hy => ?_) (fun hy => ?_) | refine brQ_dec (fun hy => ?_) (fun hy => ?_) | refine brQ_bool (fun hy => ?_) (fun hy => ?_)) <;> (try simp only [Bool.not_eq_true', Bool.not_eq_false', Bool.and_eq_true, Bool.or_eq_false_iff, decide_eq_true_eq, decide_eq_false_iff_not] at hy) <;> simp (disch := first | rfl | omega | exact lt_new _ | assumption | decide | (simp [tk_here, tk_app, tk_0, tk_S, gr_here, gr_app, gr_0, gr_S] <;> omega) | fail) only [r73_0, r73_1, c73, rs73, gc73, loadV_ptr, storeV_ptr, List.append_assoc, List.length_append, List.length_cons, List.length_nil, List.set_cons_zero, List.set_cons_succ, tk_here, tk_app, gr_here, gr_app, st_here, st_app, go_sem, ↓reduceIte, Nat.reduceLT, Nat.reduceEqDiff, Nat.reduceAdd, Nat.reduceMul, Nat.reduceSub, Int.reduceAdd, Int.reduceSub, Nat.reduceLeDiff, Int.reduceLT, Int.reduceLE, Int.reduceEq, Int.reduceNeg, Int.reduceToNat, hy])
  all_goals (try ((first | refine finQ_same ?_ | refine finQ_app ?_ | (rw [List.append_assoc]; refine finQ_app ?_)) <;> simp (disch := first | rfl | omega | exact lt_new _ | assumption | decide | (simp [tk_here, tk_app, tk_0, tk_S, gr_here, gr_app, gr_0, gr_S] <;> omega) | fail) only [go_sem, ↓reduceIte, Nat.reduceLT, Nat.reduceEqDiff, Nat.reduceAdd, Nat.reduceMul, Nat.reduceSub, Int.reduceAdd, Int.reduceSub, Nat.reduceLeDiff, Int.reduceLT, Int.reduceLE, Int.reduceEq, Int.reduceNeg, Int.reduceToNat, List.append_assoc, List.cons_append, List.nil_append, *]))
  all_goals (try first | rfl | (simp [*]; done) | grind)
/-! Whether lists of captures are the same. -/
theorem fn27 {b b' : Bool} {l l' : List Cp} (hF : ∀ c ∈ l, Fits c) (hl : l.length ≤ 2 ^ 62) (H : Hp) : callL Try.prog pr 27 [slV b cpE l, slV b' cpE l'] H = some (.bool (sameL sameB l l'), H) := by
  refine run27 (Nat.le_of_ble_eq_true rfl) ?_
  by_cases hg : (l.length : Int) = l'.length
  case neg =>
    rw [sameL_len (by omega)]
    simp (disch := first | rfl | omega | exact lt_new _ | assumption | decide | (simp [tk_here, tk_app, tk_0, tk_S, gr_here, gr_app, gr_0, gr_S] <;> omega) | fail) only [r27_0, r27_1, r27_2, r27_3, r27_4, r27_5, r27_6, r27_7, r27_9, c27, rs27, gc27, hg, go_sem, ↓reduceIte, Nat.reduceLT, Nat.reduceEqDiff, Nat.reduceAdd, Nat.reduceMul, Nat.reduceSub, Int.reduceAdd, Int.reduceSub, Nat.reduceLeDiff, Int.reduceLT, Int.reduceLE, Int.reduceEq, Int.reduceNeg, Int.reduceToNat]
    repeat' ((first | refine guardB_dec (fun hy => ?_) (fun hy => ?_) | refine guardB_bool (fun hy => ?_) (fun hy => ?_) | refine guardQ_ite (fun hy => ?_) (fun hy => ?_) | refine brQ_dec (fun hy => ?_) (fun hy => ?_) | refine brQ_bool (fun hy => ?_) (fun hy => ?_)) <;> (try simp only [Bool.not_eq_true', Bool.not_eq_false', Bool.and_eq_true, Bool.or_eq_false_iff, decide_eq_true_eq, decide_eq_false_iff_not] at hy) <;> simp (disch := first | rfl | omega | exact lt_new _ | assumption | decide | (simp [tk_here, tk_app, tk_0, tk_S, gr_here, gr_app, gr_0, gr_S] <;> omega) | fail) only [r27_0, r27_1, r27_2, r27_3, r27_4, r27_5, r27_6, r27_7, r27_9, c27, rs27, gc27, hg, go_sem, ↓reduceIte, Nat.reduceLT, Nat.reduceEqDiff, Nat.reduceAdd, Nat.reduceMul, Nat.reduceSub, Int.reduceAdd, Int.reduceSub, Nat.reduceLeDiff, Int.reduceLT, Int.reduceLE, Int.reduceEq, Int.reduceNeg, Int.reduceToNat, hy])
    all_goals (try ((first | refine finQ_same ?_ | refine finQ_app ?_ | (rw [List.append_assoc]; refine finQ_app ?_)) <;> simp (disch := first | rfl | omega | exact lt_new _ | assumption | decide | (simp [tk_here, tk_app, tk_0, tk_S, gr_here, gr_app, gr_0, gr_S] <;> omega) | fail) only [go_sem, ↓reduceIte, Nat.reduceLT, Nat.reduceEqDiff, Nat.reduceAdd, Nat.reduceMul, Nat.reduceSub, Int.reduceAdd, Int.reduceSub, Nat.reduceLeDiff, Int.reduceLT, Int.reduceLE, Int.reduceEq, Int.reduceNeg, Int.reduceToNat, List.append_assoc, List.cons_append, List.nil_append, *]))
    all_goals (try first | rfl | (simp [*]; done) | grind)
  simp (disch := first | rfl | omega | exact lt_new _ | assumption | decide | (simp [tk_here, tk_app, tk_0, tk_S, gr_here, gr_app, gr_0, gr_S] <;> omega) | fail) only [r27_0, r27_1, r27_2, r27_3, r27_4, r27_5, r27_6, r27_7, r27_9, c27, rs27, gc27, hg, go_sem, ↓reduceIte, Nat.reduceLT, Nat.reduceEqDiff, Nat.reduceAdd, Nat.reduceMul, Nat.reduceSub, Int.reduceAdd, Int.reduceSub, Nat.reduceLeDiff, Int.reduceLT, Int.reduceLE, Int.reduceEq, Int.reduceNeg, Int.reduceToNat]
  repeat' ((first | refine guardB_dec (fun hy => ?_) (fun hy => ?_) | refine guardB_bool (fun hy => ?_) (fun hy => ?_) | refine guardQ_ite (fun hy => ?_) (fun hy => ?_) | refine brQ_dec (fun hy => ?_) (fun hy => ?_) | refine brQ_bool (fun hy => ?_) (fun hy => ?_)) <;> (try simp only [Bool.not_eq_true', Bool.not_eq_false', Bool.and_eq_true, Bool.or_eq_false_iff, decide_eq_true_eq, decide_eq_false_iff_not] at hy) <;> simp (disch := first | rfl | omega | exact lt_new _ | assumption | decide | (simp [tk_here, tk_app, tk_0, tk_S, gr_here, gr_app, gr_0, gr_S] <;> omega) | fail) only [r27_0, r27_1, r27_2, r27_3, r27_4, r27_5, r27_6, r27_7, r27_9, c27, rs27, gc27, hg, go_sem, ↓reduceIte, Nat.reduceLT, Nat.reduceEqDiff, Nat.reduceAdd, Nat.reduceMul, Nat.reduceSub, Int.reduceAdd, Int.reduceSub, Nat.reduceLeDiff, Int.reduceLT, Int.reduceLE, Int.reduceEq, Int.reduceNeg, Int.reduceToNat, hy])
  refine Wp_loop (fun m T D H' => ∃ i, m = l.length - i ∧ i ≤ l.length ∧ D = [] ∧ H' = H ∧ get T 0 = slV b cpE l ∧ get T 1 = slV b' cpE l' ∧ get T 5 = .int .i64 i ∧ sameL sameB l l' = sameL sameB (l.drop i) (l'.drop i)) ?_ l.length _ _ _ ?_
  case refine_2 => exact ⟨0, by simp (disch := first | rfl | omega | exact lt_new _ | assumption | decide | (simp [tk_here, tk_app, tk_0, tk_S, gr_here, gr_app, gr_0, gr_S] <;> omega) | fail) only [go_sem, ↓reduceIte, Nat.reduceLT, Nat.reduceEqDiff, Nat.reduceAdd, Nat.reduceMul, Nat.reduceSub, Int.reduceAdd, Int.reduceSub, Nat.reduceLeDiff, Int.reduceLT, Int.reduceLE, Int.reduceEq, Int.reduceNeg, Int.reduceToNat]; simp⟩
  rintro m T D H' ⟨i, rfl, hi, rfl, rfl, t0, t1, t5, hs⟩
  by_cases hlt : i < l.length
  · have hlt' : (i : Int) < l.length := by omega
    have hlt3 : i < l'.length := by omega
    have hlt2 : (i : Int) < l'.length := by omega
    have h18 := fun H => fn18 (cpE.at l i) (cpE.at l' i) (hF _ (cpE.at_mem hlt)) H
    rw [sameL_drop cpE hlt hlt3] at hs
    by_cases hq : sameB (cpE.at l i) (cpE.at l' i) = true
    · rw [hq, Bool.true_and] at hs
      simp (disch := first | rfl | omega | exact lt_new _ | assumption | decide | (simp [tk_here, tk_app, tk_0, tk_S, gr_here, gr_app, gr_0, gr_S] <;> omega) | fail) only [r27_0, r27_1, r27_2, r27_3, r27_4, r27_5, r27_6, r27_7, l27_8, r27_9, c27, rs27, gc27, t0, t1, t5, hlt', hlt2, h18, hq, go_sem, ↓reduceIte, Nat.reduceLT, Nat.reduceEqDiff, Nat.reduceAdd, Nat.reduceMul, Nat.reduceSub, Int.reduceAdd, Int.reduceSub, Nat.reduceLeDiff, Int.reduceLT, Int.reduceLE, Int.reduceEq, Int.reduceNeg, Int.reduceToNat]
      repeat' ((first | refine guardB_dec (fun hy => ?_) (fun hy => ?_) | refine guardB_bool (fun hy => ?_) (fun hy => ?_) | refine guardQ_ite (fun hy => ?_) (fun hy => ?_) | refine brQ_dec (fun hy => ?_) (fun hy => ?_) | refine brQ_bool (fun hy => ?_) (fun hy => ?_)) <;> (try simp only [Bool.not_eq_true', Bool.not_eq_false', Bool.and_eq_true, Bool.or_eq_false_iff, decide_eq_true_eq, decide_eq_false_iff_not] at hy) <;> simp (disch := first | rfl | omega | exact lt_new _ | assumption | decide | (simp [tk_here, tk_app, tk_0, tk_S, gr_here, gr_app, gr_0, gr_S] <;> omega) | fail) only [r27_0, r27_1, r27_2, r27_3, r27_4, r27_5, r27_6, r27_7, l27_8, r27_9, c27, rs27, gc27, t0, t1, t5, hlt', hlt2, h18, hq, go_sem, ↓reduceIte, Nat.reduceLT, Nat.reduceEqDiff, Nat.reduceAdd, Nat.reduceMul, Nat.reduceSub, Int.reduceAdd, Int.reduceSub, Nat.reduceLeDiff, Int.reduceLT, Int.reduceLE, Int.reduceEq, Int.reduceNeg, Int.reduceToNat, hy])
      exact ⟨_, by omega, i + 1, rfl, hlt, rfl, hs⟩
    · rw [Bool.not_eq_true] at hq
      rw [hq, Bool.false_and] at hs
      simp (disch := first | rfl | omega | exact lt_new _ | assumption | decide | (simp [tk_here, tk_app, tk_0, tk_S, gr_here, gr_app, gr_0, gr_S] <;> omega) | fail) only [r27_0, r27_1, r27_2, r27_3, r27_4, r27_5, r27_6, r27_7, l27_8, r27_9, c27, rs27, gc27, t0, t1, t5, hlt', hlt2, h18, hq, go_sem, ↓reduceIte, Nat.reduceLT, Nat.reduceEqDiff, Nat.reduceAdd, Nat.reduceMul, Nat.reduceSub, Int.reduceAdd, Int.reduceSub, Nat.reduceLeDiff, Int.reduceLT, Int.reduceLE, Int.reduceEq, Int.reduceNeg, Int.reduceToNat]
      repeat' ((first | refine guardB_dec (fun hy => ?_) (fun hy => ?_) | refine guardB_bool (fun hy => ?_) (fun hy => ?_) | refine guardQ_ite (fun hy => ?_) (fun hy => ?_) | refine brQ_dec (fun hy => ?_) (fun hy => ?_) | refine brQ_bool (fun hy => ?_) (fun hy => ?_)) <;> (try simp only [Bool.not_eq_true', Bool.not_eq_false', Bool.and_eq_true, Bool.or_eq_false_iff, decide_eq_true_eq, decide_eq_false_iff_not] at hy) <;> simp (disch := first | rfl | omega | exact lt_new _ | assumption | decide | (simp [tk_here, tk_app, tk_0, tk_S, gr_here, gr_app, gr_0, gr_S] <;> omega) | fail) only [r27_0, r27_1, r27_2, r27_3, r27_4, r27_5, r27_6, r27_7, l27_8, r27_9, c27, rs27, gc27, t0, t1, t5, hlt', hlt2, h18, hq, go_sem, ↓reduceIte, Nat.reduceLT, Nat.reduceEqDiff, Nat.reduceAdd, Nat.reduceMul, Nat.reduceSub, Int.reduceAdd, Int.reduceSub, Nat.reduceLeDiff, Int.reduceLT, Int.reduceLE, Int.reduceEq, Int.reduceNeg, Int.reduceToNat, hy])
      exact finQ_same (by simp (disch := first | rfl | omega | exact lt_new _ | assumption | decide | (simp [tk_here, tk_app, tk_0, tk_S, gr_here, gr_app, gr_0, gr_S] <;> omega) | fail) only [go_sem, ↓reduceIte, Nat.reduceLT, Nat.reduceEqDiff, Nat.reduceAdd, Nat.reduceMul, Nat.reduceSub, Int.reduceAdd, Int.reduceSub, Nat.reduceLeDiff, Int.reduceLT, Int.reduceLE, Int.reduceEq, Int.reduceNeg, Int.reduceToNat, hs])
  · obtain rfl : i = l.length := by omega
    have hs1 : sameL sameB l l' = true := by rw [hs, List.drop_length, List.drop_eq_nil_of_le (by omega)]; rfl
    simp (disch := first | rfl | omega | exact lt_new _ | assumption | decide | (simp [tk_here, tk_app, tk_0, tk_S, gr_here, gr_app, gr_0, gr_S] <;> omega) | fail) only [r27_0, r27_1, r27_2, r27_3, r27_4, r27_5, r27_6, r27_7, l27_8, r27_9, c27, rs27, gc27, t0, t1, t5, Int.lt_irrefl, go_sem, ↓reduceIte, Nat.reduceLT, Nat.reduceEqDiff, Nat.reduceAdd, Nat.reduceMul, Nat.reduceSub, Int.reduceAdd, Int.reduceSub, Nat.reduceLeDiff, Int.reduceLT, Int.reduceLE, Int.reduceEq, Int.reduceNeg, Int.reduceToNat]
    repeat' ((first | refine guardB_dec (fun hy => ?_) (fun hy => ?_) | refine guardB_bool (fun hy => ?_) (fun hy => ?_) | refine guardQ_ite (fun hy => ?_) (fun hy => ?_) | refine brQ_dec (fun hy => ?_) (fun hy => ?_) | refine brQ_bool (fun hy => ?_) (fun hy => ?_)) <;> (try simp only [Bool.not_eq_true', Bool.not_eq_false', Bool.and_eq_true, Bool.or_eq_false_iff, decide_eq_true_eq, decide_eq_false_iff_not] at hy) <;> simp (disch := first | rfl | omega | exact lt_new _ | assumption | decide | (simp [tk_here, tk_app, tk_0, tk_S, gr_here, gr_app, gr_0, gr_S] <;> omega) | fail) only [r27_0, r27_1, r27_2, r27_3, r27_4, r27_5, r27_6, r27_7, l27_8, r27_9, c27, rs27, gc27, t0, t1, t5, Int.lt_irrefl, go_sem, ↓reduceIte, Nat.reduceLT, Nat.reduceEqDiff, Nat.reduceAdd, Nat.reduceMul, Nat.reduceSub, Int.reduceAdd, Int.reduceSub, Nat.reduceLeDiff, Int.reduceLT, Int.reduceLE, Int.reduceEq, Int.reduceNeg, Int.reduceToNat, hy])
    exact finQ_same (by simp (disch := first | rfl | omega | exact lt_new _ | assumption | decide | (simp [tk_here, tk_app, tk_0, tk_S, gr_here, gr_app, gr_0, gr_S] <;> omega) | fail) only [go_sem, ↓reduceIte, Nat.reduceLT, Nat.reduceEqDiff, Nat.reduceAdd, Nat.reduceMul, Nat.reduceSub, Int.reduceAdd, Int.reduceSub, Nat.reduceLeDiff, Int.reduceLT, Int.reduceLE, Int.reduceEq, Int.reduceNeg, Int.reduceToNat, hs1])
/-! Parts in rows. -/
/-- The parts that are whole stand in rows of their own. -/
inductive PtsR (n : Nat) (L : Hp) : List V → List (List Pk) → Prop
  | nil : PtsR n L [] []
  | snoc {vs : List V} {d : List (List Pk)} {v : V} {w : List Pk} : PtsR n L vs d → RowM pkE n L v w → PtsR n L (vs ++ [v]) (d ++ [w])
theorem PtsR.app {n : Nat} {L : Hp} {vs : List V} {d : List (List Pk)} (h : PtsR n L vs d) (G : Hp) : PtsR n (L ++ G) vs d := by
  induction h with
  | nil => exact .nil
  | snoc _ h2 ih => exact .snoc ih (h2.app G)
theorem PtsR.len {n : Nat} {L : Hp} {vs : List V} {d : List (List Pk)} (h : PtsR n L vs d) : vs.length = d.length := by
  induction h with
  | nil => rfl
  | snoc _ h2 ih => simp [ih]
theorem PtsR.at {n : Nat} {L : Hp} {vs : List V} {d : List (List Pk)} (h : PtsR n L vs d) : ∀ {i : Nat} {w : List Pk}, d[i]? = some w → ∃ v, vs[i]? = some v ∧ RowM pkE n L v w := by
  induction h with
  | nil => intro i w h; simp at h
  | @snoc vs d v w h1 h2 ih =>
    intro i u hu
    have hl := h1.len
    by_cases hi : i < d.length
    · rw [List.getElem?_append_left hi] at hu
      obtain ⟨v', h3, h4⟩ := ih hu
      exact ⟨v', by rw [List.getElem?_append_left (by omega)]; exact h3, h4⟩
    · rw [List.getElem?_append_right (by omega)] at hu
      have he : i - d.length = 0 := by
        have := (List.getElem?_eq_some_iff.1 hu).1
        simp at this; omega
      rw [he] at hu
      simp only [List.getElem?_cons_zero, Option.some.injEq] at hu
      subst hu
      exact ⟨v, by rw [List.getElem?_append_right (by omega), hl, he]; rfl, h2⟩
end Go.Proofs.Ytejkgnmjdaohdaa
/-
  file.Split, walked. No statement of the seat stands here.
-/
namespace Go.Proofs.Ytejkgnmjdaohdaa
open Go Go.An
set_option maxRecDepth 4000
set_option linter.unusedSimpArgs false
set_option linter.unusedVariables false

def nf (c : Cp) : Cp := ⟨c.note, true, c.faces, true, c.names, true, c.secrets, true, c.packets⟩
/-- Lists of captures that differ in what is nil at most. -/
def CpsEq (l m : List Cp) : Prop := l.map nf = m.map nf
theorem CpEq.nf {a b : Cp} (h : CpEq a b) : nf a = nf b := by
  obtain ⟨h1, h2, h3, h4, h5⟩ := h
  unfold Proofs.Ytejkgnmjdaohdaa.nf
  rw [h1, h2, h3, h4, h5]
theorem nf_eq {a b : Cp} (h : nf a = nf b) : CpEq a b := by
  unfold nf at h
  injection h with h1 _ h2 _ h3 _ h4 _ h5
  exact ⟨h1, h2, h3, h4, h5⟩
/-- What the result holds: of each part the head's parts, and the packets' row. -/
inductive OutR (c : Cp) (n : Nat) (L : Hp) : List V → List (List Pk) → Prop
  | nil : OutR c n L [] []
  | snoc {cs : List V} {d : List (List Pk)} {v : V} {w : List Pk} {b1 b2 b3 : Bool} : OutR c n L cs d → RowM pkE n L v w → OutR c n L (cs ++ [.str c.note, slV b1 fcE c.faces, slV b2 nmE c.names, slV b3 scE c.secrets, v]) (d ++ [w])
theorem OutR.len {c : Cp} {n : Nat} {L : Hp} {cs : List V} {d : List (List Pk)} (h : OutR c n L cs d) : cs.length = d.length * 5 := by
  induction h with
  | nil => rfl
  | snoc _ h2 ih => simp [ih]; omega
theorem OutR.cells {c : Cp} {n : Nat} {L : Hp} {cs : List V} {d : List (List Pk)} (h : OutR c n L cs d) : cs.all V.isCell = true := by
  induction h with
  | nil => rfl
  | snoc _ h2 ih => simp [ih, h2.cell.1, slV_cell, show (V.str c.note).isCell = true from rfl]
theorem mapO_app {α β : Type} (f : α → Option β) : ∀ {l m : List α} {l' m' : List β}, mapO f l = some l' → mapO f m = some m' → mapO f (l ++ m) = some (l' ++ m')
  | [], m, l', m', h, h2 => by
    simp [mapO] at h; subst h; simpa using h2
  | a :: l, m, l', m', h, h2 => by
    simp only [mapO, Option.bind_eq_some_iff, Option.map_eq_some_iff] at h
    obtain ⟨x, hx, y, hy, rfl⟩ := h
    have := mapO_app f hy h2
    simp [mapO, hx, this]
theorem flatE_snoc' {α : Type} (E : Enc α) (l : List α) (a : α) : flatE E (l ++ [a]) = flatE E l ++ E.f a := by simp [flatE]
theorem OutR.app {c : Cp} {n : Nat} {L : Hp} {cs : List V} {d : List (List Pk)} (h : OutR c n L cs d) (G : Hp) : OutR c n (L ++ G) cs d := by
  induction h with
  | nil => exact .nil
  | snoc _ h2 ih => exact .snoc ih (h2.app G)
theorem RowM.inlB' {α : Type} {E : Enc α} {n m f : Nat} {L A : Hp} {v : V} {l : List α} (h : RowM E n L v l) (hn : n = A.length) (hm : m ≤ n) : ∃ b, inlB m (A ++ L) (f + 2) v = some (slV b E l) := by
  obtain ⟨b, hb⟩ := RowM.inl (f := f) h hn hm
  rcases h with ⟨rfl, rfl⟩ | ⟨j, g, rfl, h3⟩
  · exact ⟨true, by rw [slV_nil]; rfl⟩
  · rw [inlC_slice] at hb
    exact ⟨b, hb⟩
theorem OutR.inl {c : Cp} {n m f : Nat} {L A : Hp} {cs : List V} {d : List (List Pk)} (h : OutR c n L cs d) (hn : n = A.length) (hm : m ≤ n) : ∃ Ls, mapO (inlB m (A ++ L) (f + 2)) cs = some (flatE cpE Ls) ∧ CpsEq Ls (d.map (wc c)) ∧ Ls.length = d.length := by
  induction h with
  | nil => exact ⟨[], rfl, rfl, rfl⟩
  | @snoc cs d v w b1 b2 b3 h1 h2 ih =>
    obtain ⟨Ls, e1, e2, e3⟩ := ih
    obtain ⟨b, hb⟩ := RowM.inlB' (f := f) h2 hn hm
    refine ⟨Ls ++ [⟨c.note, b1, c.faces, b2, c.names, b3, c.secrets, b, w⟩], ?_, ?_, by simp [e3]⟩
    · rw [flatE_snoc', cpE_f]
      refine mapO_app _ e1 ?_
      have hs : ∀ s, inlB m (A ++ L) (f + 2) (.str s) = some (.str s) := fun s => rfl
      simp only [mapO, hs, inlB_slV, hb, Option.bind_some, Option.map_some]
    · unfold CpsEq at e2 ⊢
      rw [List.map_append, e2, List.map_append, List.map_append]
      rfl
theorem inlB_many {n f id g m w : Nat} {H : Hp} {cs xs : List V} (hn : n ≤ id) (h : H[id]? = some (.row g cs true)) (hw : cs.length = m * w) (hc : mapO (inlB n H f) cs = some xs) (hi : immL xs = true) : inlB n H (f + 1) (.slice id g 0 m w .full) = some (.isl xs m w) := by
  rw [inlB, if_neg (by omega)]
  simp only [h]
  rw [if_pos ⟨trivial, by omega⟩, List.drop_zero, List.take_of_length_le (by omega), hc]
  simp [hi]
theorem last_at (vs : List V) (v : V) : (vs ++ [v])[vs.length * 1]? = some v := by simp
theorem last_set (vs : List V) (v v' : V) : setAt (vs ++ [v]) (vs.length * 1) [v'] = vs ++ [v'] := by simp [setAt]
theorem part_last (vs : List V) (v : V) : partV Try.prog 29 (vs ++ [v]) (vs.length * 1) = some v := by
  have h : aggT Try.prog 29 = some false := by kernel_rfl
  unfold partV
  rw [h]
  exact last_at vs v
/-- The last part. -/
def LastR (n : Nat) (v : V) (w : List Pk) (X : Hp) : Prop := (w = [] ∧ v = .nilslice ∧ X = []) ∨ (w ≠ [] ∧ ∃ g G, v = .slice n g 0 w.length 5 .full ∧ X = .row g (flatE pkE w) true :: G)
theorem LastR.row {n : Nat} {M X : Hp} {v : V} {w : List Pk} (h : LastR (n + M.length) v w X) : RowM pkE n (M ++ X) v w := by
  rcases h with ⟨rfl, rfl, rfl⟩ | ⟨_, g, G, rfl, rfl⟩
  · exact Or.inl ⟨rfl, rfl⟩
  · exact Or.inr ⟨M.length, g, rfl, by simp, by rw [gr_here]; exact gr_0 ..⟩
theorem LastR.cell {n : Nat} {X : Hp} {v : V} {w : List Pk} (h : LastR n v w X) : v.isCell = true ∧ v.cells = [v] ∧ v.isTup = false ∧ eqA v v = true ∧ eqC v v = true ∧ v.dem1 = v ∧ v.dem = v := (LastR.row (M := []) (n := n) (by simpa using h)).cell
theorem flatE_snoc {α : Type} (E : Enc α) (l : List α) (a : α) : flatE E (l ++ [a]) = flatE E l ++ E.f a := by simp [flatE]
theorem pk_cells (a : Pk) : (pkE.f a).all V.isCell = true := by
  have := flatE_cells pkE [a]
  simpa [flatE] using this
theorem ap_nil {a : Pk} {H : Hp} : appOf 5 64 H .nilslice (.isl (pkE.f a) 1 5) = some (.slice H.length 0 0 1 5 .full, H ++ [.row 0 (pkE.f a) true]) := by
  unfold appOf
  rw [show srcCells H (.isl (pkE.f a) 1 5) = some (pkE.f a, 1) from rfl]
  simp only [Option.bind_some]
  rw [if_pos ⟨pkE_l a, pk_cells a⟩]
  rfl
theorem ap_row {a : Pk} {H : Hp} {id g : Nat} {w : List Pk} (hr : getRow H id g = some (flatE pkE w, true)) (hb : w.length + 1 ≤ 2 ^ 30) : appOf 5 64 H (.slice id g 0 w.length 5 .full) (.isl (pkE.f a) 1 5) = some (.slice id (g + 1) 0 (w.length + 1) 5 .full, H.set id (.row (g + 1) (flatE pkE (w ++ [a])) true)) := by
  have hfl : (flatE pkE w).length = w.length * 5 := flatE_len
  unfold appOf
  rw [show srcCells H (.isl (pkE.f a) 1 5) = some (pkE.f a, 1) from rfl]
  simp only [Option.bind_some, hr]
  rw [if_pos ⟨pkE_l a, pk_cells a⟩, if_pos ⟨trivial, by omega, by omega, by omega⟩, if_neg (by omega), if_pos trivial, if_neg (by omega), if_pos (by omega), flatE_snoc]
  rfl
theorem ap_parts {H : Hp} {id g : Nat} {vs : List V} {v : V} (hr : getRow H id g = some (vs ++ [v], true)) (hb : vs.length + 2 ≤ 2 ^ 30) : appOf 1 24 H (.slice id g 0 (vs.length + 1) 1 .full) (.isl [.nilslice] 1 1) = some (.slice id (g + 1) 0 (vs.length + 1 + 1) 1 .full, H.set id (.row (g + 1) (vs ++ [v] ++ [.nilslice]) true)) := by
  have hfl : (vs ++ [v]).length = vs.length + 1 := by simp
  unfold appOf
  rw [show srcCells H (.isl [.nilslice] 1 1) = some ([.nilslice], 1) from rfl]
  simp only [Option.bind_some, hr]
  rw [if_pos ⟨rfl, rfl⟩, if_pos ⟨trivial, by omega, by omega, by omega⟩, if_neg (by omega), if_pos trivial, if_neg (by omega), if_pos (by omega)]
  rfl
theorem ao_nil {H : Hp} {k : Nat} {cs : List V} (hr : getRow H k 0 = some (cs, true)) (hl : cs.length = 5) (hc : cs.all V.isCell = true) : appOf 5 112 H .nilslice (.slice k 0 0 1 5 .full) = some (.slice H.length 0 0 1 5 .full, H ++ [.row 0 cs true]) := by
  have hs : srcCells H (.slice k 0 0 1 5 .full) = some (cs, 1) := by
    unfold srcCells
    simp only [hr, Option.bind_some]
    have ht : cs.take 5 = cs := List.take_of_length_le (by omega)
    simp [hl, ht]
  unfold appOf
  rw [hs]
  simp only [Option.bind_some]
  rw [if_pos ⟨hl, hc⟩]
  rfl
theorem ao_row {H : Hp} {k id g n : Nat} {cs os : List V} (hr : getRow H k 0 = some (cs, true)) (hl : cs.length = 5) (hc : cs.all V.isCell = true) (hr2 : getRow H id g = some (os, true)) (ho : os.length = n * 5) (hb : n ≤ 2 ^ 20) : appOf 5 112 H (.slice id g 0 n 5 .full) (.slice k 0 0 1 5 .full) = some (.slice id (g + 1) 0 (n + 1) 5 .full, H.set id (.row (g + 1) (os ++ cs) true)) := by
  have hs : srcCells H (.slice k 0 0 1 5 .full) = some (cs, 1) := by
    unfold srcCells
    simp only [hr, Option.bind_some]
    have ht : cs.take 5 = cs := List.take_of_length_le (by omega)
    simp [hl, ht]
  unfold appOf
  rw [hs]
  simp only [Option.bind_some, hr2]
  rw [if_pos ⟨hl, hc⟩, if_pos ⟨trivial, by omega, by omega, by omega⟩, if_neg (by omega), if_pos trivial, if_neg (by omega), if_pos (by omega)]
  rfl
set_option maxHeartbeats 8000000 in
theorem fn25 (c : Cp) (hc : CpOk c) (kind n : Int) (hn0 : Inx n) (hk0 : Inx kind) (H : Hp) : ∃ L, callL Try.prog pr 25 [.agg (cpE.f c), .int .i64 kind, .int .i64 n] H = some (.tup [slV true cpE L, .int .i64 (splF c kind n).2], H) ∧ CpsEq L (splF c kind n).1 := by
  suffices h : ∃ r, callL Try.prog pr 25 [.agg (cpE.f c), .int .i64 kind, .int .i64 n] H = some r ∧ ∃ L, r = (.tup [slV true cpE L, .int .i64 (splF c kind n).2], H) ∧ CpsEq L (splF c kind n).1 by
    obtain ⟨_, h1, d, rfl, h2⟩ := h; exact ⟨d, h1, h2⟩
  have h54 := ask1 c hc
  refine ex25 (Nat.le_of_ble_eq_true rfl) ?_
  unfold splF
  by_cases hv : valE c = 0
  case neg =>
    rw [if_neg hv]
    simp (disch := first | rfl | omega | exact lt_new _ | assumption | decide | (simp [tk_here, tk_app, tk_0, tk_S, gr_here, gr_app, gr_0, gr_S] <;> omega) | fail) only [r25_0, r25_1, r25_2, r25_3, r25_4, r25_5, r25_6, r25_7, r25_8, r25_9, r25_10, r25_11, r25_12, r25_13, r25_14, r25_15, r25_16, r25_18, r25_19, r25_20, r25_21, r25_22, r25_23, r25_24, r25_25, r25_27, c25, rs25, gc25, loadV_ptr, storeV_ptr, List.append_assoc, List.length_append, List.length_cons, List.length_nil, List.set_cons_zero, List.set_cons_succ, tk_here, tk_app, gr_here, gr_app, st_here, st_app, h54, hv, go_sem, ↓reduceIte, Nat.reduceLT, Nat.reduceEqDiff, Nat.reduceAdd, Nat.reduceMul, Nat.reduceSub, Int.reduceAdd, Int.reduceSub, Nat.reduceLeDiff, Int.reduceLT, Int.reduceLE, Int.reduceEq, Int.reduceNeg, Int.reduceToNat]
    repeat' ((first | refine guardB_dec (fun hy => ?_) (fun hy => ?_) | refine guardB_bool (fun hy => ?_) (fun hy => ?_) | refine guardQ_ite (fun hy => ?_) (fun hy => ?_) | refine brQ_dec (fun hy => ?_) (fun hy => ?_) | refine brQ_bool (fun hy => ?_) (fun hy => ?_)) <;> (try simp only [Bool.not_eq_true', Bool.not_eq_false', Bool.and_eq_true, Bool.or_eq_false_iff, decide_eq_true_eq, decide_eq_false_iff_not] at hy) <;> simp (disch := first | rfl | omega | exact lt_new _ | assumption | decide | (simp [tk_here, tk_app, tk_0, tk_S, gr_here, gr_app, gr_0, gr_S] <;> omega) | fail) only [r25_0, r25_1, r25_2, r25_3, r25_4, r25_5, r25_6, r25_7, r25_8, r25_9, r25_10, r25_11, r25_12, r25_13, r25_14, r25_15, r25_16, r25_18, r25_19, r25_20, r25_21, r25_22, r25_23, r25_24, r25_25, r25_27, c25, rs25, gc25, loadV_ptr, storeV_ptr, List.append_assoc, List.length_append, List.length_cons, List.length_nil, List.set_cons_zero, List.set_cons_succ, tk_here, tk_app, gr_here, gr_app, st_here, st_app, h54, hv, go_sem, ↓reduceIte, Nat.reduceLT, Nat.reduceEqDiff, Nat.reduceAdd, Nat.reduceMul, Nat.reduceSub, Int.reduceAdd, Int.reduceSub, Nat.reduceLeDiff, Int.reduceLT, Int.reduceLE, Int.reduceEq, Int.reduceNeg, Int.reduceToNat, hy])
    exact ⟨[], finQ_same (by simp (disch := first | rfl | omega | exact lt_new _ | assumption | decide | (simp [tk_here, tk_app, tk_0, tk_S, gr_here, gr_app, gr_0, gr_S] <;> omega) | fail) only [go_sem, ↓reduceIte, Nat.reduceLT, Nat.reduceEqDiff, Nat.reduceAdd, Nat.reduceMul, Nat.reduceSub, Int.reduceAdd, Int.reduceSub, Nat.reduceLeDiff, Int.reduceLT, Int.reduceLE, Int.reduceEq, Int.reduceNeg, Int.reduceToNat, slV_nil]), rfl⟩
  rw [if_pos hv]
  by_cases ha : kind < 0 ∨ 2 < kind ∨ n < 1
  case pos =>
    rw [if_pos ha]
    have ha2 : ¬ kind < 0 → ¬ 2 < kind → n < 1 := fun a b => (ha.resolve_left a).resolve_left b
    simp (disch := first | rfl | omega | exact lt_new _ | assumption | decide | (simp [tk_here, tk_app, tk_0, tk_S, gr_here, gr_app, gr_0, gr_S] <;> omega) | fail) only [r25_0, r25_1, r25_2, r25_3, r25_4, r25_5, r25_6, r25_7, r25_8, r25_9, r25_10, r25_11, r25_12, r25_13, r25_14, r25_15, r25_16, r25_18, r25_19, r25_20, r25_21, r25_22, r25_23, r25_24, r25_25, r25_27, c25, rs25, gc25, loadV_ptr, storeV_ptr, List.append_assoc, List.length_append, List.length_cons, List.length_nil, List.set_cons_zero, List.set_cons_succ, tk_here, tk_app, gr_here, gr_app, st_here, st_app, h54, hv, ha2, go_sem, ↓reduceIte, Nat.reduceLT, Nat.reduceEqDiff, Nat.reduceAdd, Nat.reduceMul, Nat.reduceSub, Int.reduceAdd, Int.reduceSub, Nat.reduceLeDiff, Int.reduceLT, Int.reduceLE, Int.reduceEq, Int.reduceNeg, Int.reduceToNat]
    repeat' ((first | refine guardB_dec (fun hy => ?_) (fun hy => ?_) | refine guardB_bool (fun hy => ?_) (fun hy => ?_) | refine guardQ_ite (fun hy => ?_) (fun hy => ?_) | refine brQ_dec (fun hy => ?_) (fun hy => ?_) | refine brQ_bool (fun hy => ?_) (fun hy => ?_)) <;> (try simp only [Bool.not_eq_true', Bool.not_eq_false', Bool.and_eq_true, Bool.or_eq_false_iff, decide_eq_true_eq, decide_eq_false_iff_not] at hy) <;> simp (disch := first | rfl | omega | exact lt_new _ | assumption | decide | (simp [tk_here, tk_app, tk_0, tk_S, gr_here, gr_app, gr_0, gr_S] <;> omega) | fail) only [r25_0, r25_1, r25_2, r25_3, r25_4, r25_5, r25_6, r25_7, r25_8, r25_9, r25_10, r25_11, r25_12, r25_13, r25_14, r25_15, r25_16, r25_18, r25_19, r25_20, r25_21, r25_22, r25_23, r25_24, r25_25, r25_27, c25, rs25, gc25, loadV_ptr, storeV_ptr, List.append_assoc, List.length_append, List.length_cons, List.length_nil, List.set_cons_zero, List.set_cons_succ, tk_here, tk_app, gr_here, gr_app, st_here, st_app, h54, hv, ha2, go_sem, ↓reduceIte, Nat.reduceLT, Nat.reduceEqDiff, Nat.reduceAdd, Nat.reduceMul, Nat.reduceSub, Int.reduceAdd, Int.reduceSub, Nat.reduceLeDiff, Int.reduceLT, Int.reduceLE, Int.reduceEq, Int.reduceNeg, Int.reduceToNat, hy])
    all_goals exact ⟨[], finQ_same (by simp (disch := first | rfl | omega | exact lt_new _ | assumption | decide | (simp [tk_here, tk_app, tk_0, tk_S, gr_here, gr_app, gr_0, gr_S] <;> omega) | fail) only [go_sem, ↓reduceIte, Nat.reduceLT, Nat.reduceEqDiff, Nat.reduceAdd, Nat.reduceMul, Nat.reduceSub, Int.reduceAdd, Int.reduceSub, Nat.reduceLeDiff, Int.reduceLT, Int.reduceLE, Int.reduceEq, Int.reduceNeg, Int.reduceToNat, slV_nil]), rfl⟩
  rw [if_neg ha]
  simp only [not_or] at ha
  obtain ⟨a1, a2, a3⟩ := ha
  have hn : 1 ≤ n := by omega
  have hl := (val_pk hv).2.1.1
  obtain ⟨cp, hcp⟩ : ∃ d : Hp → Cp, ∀ H, callL Try.prog pr 74 [.agg (cpE.f c)] H = some (.agg (cpE.f (d H)), H) ∧ CpEq (d H) c := ⟨fun H => (fn74 c (val_S hv) H).choose, fun H => (fn74 c (val_S hv) H).choose_spec⟩
  have h74 := fun H => (hcp H).1
  have h73 := fun H => fn73 kind n H
  simp (disch := first | rfl | omega | exact lt_new _ | assumption | decide | (simp [tk_here, tk_app, tk_0, tk_S, gr_here, gr_app, gr_0, gr_S] <;> omega) | fail) only [r25_0, r25_1, r25_2, r25_3, r25_4, r25_5, r25_6, r25_7, r25_8, r25_9, r25_10, r25_11, r25_12, r25_13, r25_14, r25_15, r25_16, r25_18, r25_19, r25_20, r25_21, r25_22, r25_23, r25_24, r25_25, r25_27, c25, rs25, gc25, loadV_ptr, storeV_ptr, List.append_assoc, List.length_append, List.length_cons, List.length_nil, List.set_cons_zero, List.set_cons_succ, tk_here, tk_app, gr_here, gr_app, st_here, st_app, h54, hv, a1, a2, a3, h73, h74, go_sem, ↓reduceIte, Nat.reduceLT, Nat.reduceEqDiff, Nat.reduceAdd, Nat.reduceMul, Nat.reduceSub, Int.reduceAdd, Int.reduceSub, Nat.reduceLeDiff, Int.reduceLT, Int.reduceLE, Int.reduceEq, Int.reduceNeg, Int.reduceToNat]
  repeat' ((first | refine guardB_dec (fun hy => ?_) (fun hy => ?_) | refine guardB_bool (fun hy => ?_) (fun hy => ?_) | refine guardQ_ite (fun hy => ?_) (fun hy => ?_) | refine brQ_dec (fun hy => ?_) (fun hy => ?_) | refine brQ_bool (fun hy => ?_) (fun hy => ?_)) <;> (try simp only [Bool.not_eq_true', Bool.not_eq_false', Bool.and_eq_true, Bool.or_eq_false_iff, decide_eq_true_eq, decide_eq_false_iff_not] at hy) <;> simp (disch := first | rfl | omega | exact lt_new _ | assumption | decide | (simp [tk_here, tk_app, tk_0, tk_S, gr_here, gr_app, gr_0, gr_S] <;> omega) | fail) only [r25_0, r25_1, r25_2, r25_3, r25_4, r25_5, r25_6, r25_7, r25_8, r25_9, r25_10, r25_11, r25_12, r25_13, r25_14, r25_15, r25_16, r25_18, r25_19, r25_20, r25_21, r25_22, r25_23, r25_24, r25_25, r25_27, c25, rs25, gc25, loadV_ptr, storeV_ptr, List.append_assoc, List.length_append, List.length_cons, List.length_nil, List.set_cons_zero, List.set_cons_succ, tk_here, tk_app, gr_here, gr_app, st_here, st_app, h54, hv, a1, a2, a3, h73, h74, go_sem, ↓reduceIte, Nat.reduceLT, Nat.reduceEqDiff, Nat.reduceAdd, Nat.reduceMul, Nat.reduceSub, Int.reduceAdd, Int.reduceSub, Nat.reduceLeDiff, Int.reduceLT, Int.reduceLE, Int.reduceEq, Int.reduceNeg, Int.reduceToNat, hy])
  have hpe := fun H => (hcp H).2.2.2.2.2
  simp only [hpe]
  refine Wp_loop (fun m T D H' => ∃ k g vs v d w M X fl, m = c.packets.length - k ∧ k ≤ c.packets.length ∧ D = [] ∧ H' = H ++ .row g (vs ++ [v]) true :: (M ++ X) ∧ get T 3 = .ipt (cpE.f c) 0 ∧ get T 9 = .fn 115 [] [.ipt [.int .i64 kind] 0, .ipt [.int .i64 n] 0] ∧ get T 10 = .slice H.length g 0 (vs.length + 1) 1 .full ∧ get T 40 = slV fl pkE c.packets ∧ get T 41 = .int .i64 c.packets.length ∧ get T 42 = .int .i64 k ∧ spS (bgB kind n) c.packets k = (d, w) ∧ PtsR (H.length + 1) M vs d ∧ LastR (H.length + (M.length + 1)) v w X) ?_ c.packets.length _ _ _ ?_
  case refine_2 => exact ⟨0, 0, [], .nilslice, [], [], [], [], (cp (H ++ [.row 0 [.nilslice] true])).packetsN, by simp (disch := first | rfl | omega | exact lt_new _ | assumption | decide | (simp [tk_here, tk_app, tk_0, tk_S, gr_here, gr_app, gr_0, gr_S] <;> omega) | fail) only [go_sem, ↓reduceIte, Nat.reduceLT, Nat.reduceEqDiff, Nat.reduceAdd, Nat.reduceMul, Nat.reduceSub, Int.reduceAdd, Int.reduceSub, Nat.reduceLeDiff, Int.reduceLT, Int.reduceLE, Int.reduceEq, Int.reduceNeg, Int.reduceToNat]; exact ⟨Nat.zero_le _, rfl, .nil, Or.inl ⟨rfl, rfl, rfl⟩⟩⟩
  rintro m T D H' ⟨k, g, vs, v, d, w, M, X, fl, rfl, hk, rfl, rfl, t3, t9, t10, t40, t41, t42, hsp, hpt, hla⟩
  obtain ⟨hdw, hwm⟩ := spS_ok (bgB kind n) c.packets hk
  rw [hsp] at hdw hwm
  simp only at hdw hwm
  have hvl := hpt.len
  obtain ⟨c1, c2, c3, c4, c5, c6, c7⟩ := hla.cell
  have hv1 : ((vs.length + 1 : Nat) : Int) - 1 = (vs.length : Int) := by omega
  have hpl := part_last vs v
  have hone : vs.length * 1 ≤ vs.length := by omega
  by_cases hlt : k < c.packets.length
  · have hlt' : (k : Int) < c.packets.length := by omega
    have hsn : spS (bgB kind n) c.packets (k + 1) = if w.length ≠ 0 ∧ bgB kind n w (pkE.at c.packets k) = true then (d ++ [w], [pkE.at c.packets k]) else (d, w ++ [pkE.at c.packets k]) := by
      rw [spS, hsp]
    have hpk := (val_Ps hv (l := c.packets) (Nat.le_refl _) (fun _ h => h)).2 _ (pkE.at_mem hlt)
    rcases hla with ⟨rfl, rfl, rfl⟩ | ⟨hw, gw, G, rfl, rfl⟩
    · rw [if_neg (fun h => h.1 rfl)] at hsn
      have hls := last_set vs .nilslice
      simp (disch := first | rfl | omega | exact lt_new _ | assumption | decide | (simp [tk_here, tk_app, tk_0, tk_S, gr_here, gr_app, gr_0, gr_S] <;> omega) | fail) only [r25_0, r25_1, r25_2, r25_3, r25_4, r25_5, r25_6, r25_7, r25_8, r25_9, r25_10, r25_11, r25_12, r25_13, r25_14, r25_15, r25_16, l25_17, r25_18, r25_19, r25_20, r25_21, r25_22, r25_23, r25_24, r25_25, l25_26, r25_27, c25, rs25, gc25, loadV_ptr, storeV_ptr, List.append_assoc, List.length_append, List.length_cons, List.length_nil, List.set_cons_zero, List.set_cons_succ, tk_here, tk_app, gr_here, gr_app, st_here, st_app, t3, t9, t10, t40, t41, t42, hlt', hv1, hpl, hls, ap_nil, hone, go_sem, ↓reduceIte, Nat.reduceLT, Nat.reduceEqDiff, Nat.reduceAdd, Nat.reduceMul, Nat.reduceSub, Int.reduceAdd, Int.reduceSub, Nat.reduceLeDiff, Int.reduceLT, Int.reduceLE, Int.reduceEq, Int.reduceNeg, Int.reduceToNat]
      repeat' ((first | refine guardB_dec (fun hy => ?_) (fun hy => ?_) | refine guardB_bool (fun hy => ?_) (fun hy => ?_) | refine guardQ_ite (fun hy => ?_) (fun hy => ?_) | refine brQ_dec (fun hy => ?_) (fun hy => ?_) | refine brQ_bool (fun hy => ?_) (fun hy => ?_)) <;> (try simp only [Bool.not_eq_true', Bool.not_eq_false', Bool.and_eq_true, Bool.or_eq_false_iff, decide_eq_true_eq, decide_eq_false_iff_not] at hy) <;> simp (disch := first | rfl | omega | exact lt_new _ | assumption | decide | (simp [tk_here, tk_app, tk_0, tk_S, gr_here, gr_app, gr_0, gr_S] <;> omega) | fail) only [r25_0, r25_1, r25_2, r25_3, r25_4, r25_5, r25_6, r25_7, r25_8, r25_9, r25_10, r25_11, r25_12, r25_13, r25_14, r25_15, r25_16, l25_17, r25_18, r25_19, r25_20, r25_21, r25_22, r25_23, r25_24, r25_25, l25_26, r25_27, c25, rs25, gc25, loadV_ptr, storeV_ptr, List.append_assoc, List.length_append, List.length_cons, List.length_nil, List.set_cons_zero, List.set_cons_succ, tk_here, tk_app, gr_here, gr_app, st_here, st_app, t3, t9, t10, t40, t41, t42, hlt', hv1, hpl, hls, ap_nil, hone, go_sem, ↓reduceIte, Nat.reduceLT, Nat.reduceEqDiff, Nat.reduceAdd, Nat.reduceMul, Nat.reduceSub, Int.reduceAdd, Int.reduceSub, Nat.reduceLeDiff, Int.reduceLT, Int.reduceLE, Int.reduceEq, Int.reduceNeg, Int.reduceToNat, hy])
      exact ⟨_, by omega, k + 1, g, vs, .slice (H.length + (M.length + 1 + 1)) 0 0 1 5 .full, d, [pkE.at c.packets k], M ++ [AB.row 0 (pkE.f (pkE.at c.packets k)) true], [AB.row 0 (pkE.f (pkE.at c.packets k)) true], fl, rfl, hlt, by simp, rfl, rfl, rfl, by rw [hsn]; rfl, hpt.app _, Or.inr ⟨by simp, 0, [], by simp, by simp [flatE]⟩⟩
    · have hwl : w.length ≠ 0 := fun h => hw (List.eq_nil_of_length_eq_zero h)
      have hwl' : (0 : Int) < (w.length : Int) := by omega
      have h115 := fun {H' : Hp} {id g : Nat} (h1 : id < H'.length) (h2 : getRow H' id g = some (flatE pkE w, true)) => fn115 (kind := kind) hn hpk (val_Ps hv (by omega) hwm) hwl h1 h2
      have hll : ∀ H', lenV Try.prog 29 H' (.slice (H.length + (M.length + 1)) gw 0 w.length 5 .full) = some (.int .i64 w.length) := fun H' => RowM.len (E := pkE) (n := H.length + (M.length + 1)) (L := [.row gw (flatE pkE w) true]) (l := w) (Or.inr ⟨0, gw, rfl, by simp, by simp [getRow]⟩) (t := 29) (z := 5) (by kernel_rfl) H'
      have har := fun {H' : Hp} {id g : Nat} (h2 : getRow H' id g = some (flatE pkE w, true)) => ap_row (a := pkE.at c.packets k) h2 (by omega)
      by_cases hB : bgB kind n w (pkE.at c.packets k) = true
      · rw [if_pos ⟨hwl, hB⟩] at hsn
        have hap := fun {H' : Hp} {id g : Nat} (h2 : getRow H' id g = some (vs ++ [.slice (H.length + (M.length + 1)) gw 0 w.length 5 .full], true)) => ap_parts h2 (by omega)
        have hcast : (vs.length : Int) + 1 = ((vs.length + 1 : Nat) : Int) := by omega
        have hone2 : (vs.length + 1) * 1 ≤ vs.length + 1 := by omega
        have hpl2 : ∀ v, partV Try.prog 29 (vs ++ [v, .nilslice]) ((vs.length + 1) * 1) = some .nilslice := fun v => by
          have := part_last (vs ++ [v]) .nilslice
          simpa using this
        have hls2 : ∀ v v', setAt (vs ++ [v, .nilslice]) ((vs.length + 1) * 1) [v'] = vs ++ [v, v'] := fun v v' => by
          have := last_set (vs ++ [v]) .nilslice v'
          simpa using this
        simp (disch := first | rfl | omega | exact lt_new _ | assumption | decide | (simp [tk_here, tk_app, tk_0, tk_S, gr_here, gr_app, gr_0, gr_S] <;> omega) | fail) only [r25_0, r25_1, r25_2, r25_3, r25_4, r25_5, r25_6, r25_7, r25_8, r25_9, r25_10, r25_11, r25_12, r25_13, r25_14, r25_15, r25_16, l25_17, r25_18, r25_19, r25_20, r25_21, r25_22, r25_23, r25_24, r25_25, l25_26, r25_27, c25, rs25, gc25, loadV_ptr, storeV_ptr, List.append_assoc, List.length_append, List.length_cons, List.length_nil, List.set_cons_zero, List.set_cons_succ, tk_here, tk_app, gr_here, gr_app, st_here, st_app, t3, t9, t10, t40, t41, t42, hlt', hv1, hpl, hone, hwl', hll, h115, hB, hap, hcast, hone2, hpl2, hls2, ap_nil, go_sem, ↓reduceIte, Nat.reduceLT, Nat.reduceEqDiff, Nat.reduceAdd, Nat.reduceMul, Nat.reduceSub, Int.reduceAdd, Int.reduceSub, Nat.reduceLeDiff, Int.reduceLT, Int.reduceLE, Int.reduceEq, Int.reduceNeg, Int.reduceToNat]
        repeat' ((first | refine guardB_dec (fun hy => ?_) (fun hy => ?_) | refine guardB_bool (fun hy => ?_) (fun hy => ?_) | refine guardQ_ite (fun hy => ?_) (fun hy => ?_) | refine brQ_dec (fun hy => ?_) (fun hy => ?_) | refine brQ_bool (fun hy => ?_) (fun hy => ?_)) <;> (try simp only [Bool.not_eq_true', Bool.not_eq_false', Bool.and_eq_true, Bool.or_eq_false_iff, decide_eq_true_eq, decide_eq_false_iff_not] at hy) <;> simp (disch := first | rfl | omega | exact lt_new _ | assumption | decide | (simp [tk_here, tk_app, tk_0, tk_S, gr_here, gr_app, gr_0, gr_S] <;> omega) | fail) only [r25_0, r25_1, r25_2, r25_3, r25_4, r25_5, r25_6, r25_7, r25_8, r25_9, r25_10, r25_11, r25_12, r25_13, r25_14, r25_15, r25_16, l25_17, r25_18, r25_19, r25_20, r25_21, r25_22, r25_23, r25_24, r25_25, l25_26, r25_27, c25, rs25, gc25, loadV_ptr, storeV_ptr, List.append_assoc, List.length_append, List.length_cons, List.length_nil, List.set_cons_zero, List.set_cons_succ, tk_here, tk_app, gr_here, gr_app, st_here, st_app, t3, t9, t10, t40, t41, t42, hlt', hv1, hpl, hone, hwl', hll, h115, hB, hap, hcast, hone2, hpl2, hls2, ap_nil, go_sem, ↓reduceIte, Nat.reduceLT, Nat.reduceEqDiff, Nat.reduceAdd, Nat.reduceMul, Nat.reduceSub, Int.reduceAdd, Int.reduceSub, Nat.reduceLeDiff, Int.reduceLT, Int.reduceLE, Int.reduceEq, Int.reduceNeg, Int.reduceToNat, hy])
        have hrow : RowM pkE (H.length + 1) (M ++ .row gw (flatE pkE w) true :: (G ++ [AB.row 0 (pkE.f (pkE.at c.packets k)) true])) (.slice (H.length + (M.length + 1)) gw 0 w.length 5 .full) w := Or.inr ⟨M.length, gw, by rw [show H.length + (M.length + 1) = H.length + 1 + M.length by omega]; rfl, by simp, by rw [gr_here]; exact gr_0 ..⟩
        exact ⟨_, by omega, k + 1, g + 1, vs ++ [.slice (H.length + (M.length + 1)) gw 0 w.length 5 .full], .slice (H.length + (M.length + (G.length + 1 + 1) + 1)) 0 0 1 5 .full, d ++ [w], [pkE.at c.packets k], M ++ .row gw (flatE pkE w) true :: (G ++ [AB.row 0 (pkE.f (pkE.at c.packets k)) true]), [AB.row 0 (pkE.f (pkE.at c.packets k)) true], fl, rfl, hlt, by simp, by simp, rfl, rfl, by rw [hsn], PtsR.snoc (hpt.app _) hrow, Or.inr ⟨by simp, 0, [], by simp, by simp [flatE]⟩⟩
      · rw [if_neg (fun h => hB h.2)] at hsn
        rw [Bool.not_eq_true] at hB
        have hls := last_set vs (.slice (H.length + (M.length + 1)) gw 0 w.length 5 .full)
        simp (disch := first | rfl | omega | exact lt_new _ | assumption | decide | (simp [tk_here, tk_app, tk_0, tk_S, gr_here, gr_app, gr_0, gr_S] <;> omega) | fail) only [r25_0, r25_1, r25_2, r25_3, r25_4, r25_5, r25_6, r25_7, r25_8, r25_9, r25_10, r25_11, r25_12, r25_13, r25_14, r25_15, r25_16, l25_17, r25_18, r25_19, r25_20, r25_21, r25_22, r25_23, r25_24, r25_25, l25_26, r25_27, c25, rs25, gc25, loadV_ptr, storeV_ptr, List.append_assoc, List.length_append, List.length_cons, List.length_nil, List.set_cons_zero, List.set_cons_succ, tk_here, tk_app, gr_here, gr_app, st_here, st_app, t3, t9, t10, t40, t41, t42, hlt', hv1, hpl, hls, hone, hwl', hll, h115, hB, har, go_sem, ↓reduceIte, Nat.reduceLT, Nat.reduceEqDiff, Nat.reduceAdd, Nat.reduceMul, Nat.reduceSub, Int.reduceAdd, Int.reduceSub, Nat.reduceLeDiff, Int.reduceLT, Int.reduceLE, Int.reduceEq, Int.reduceNeg, Int.reduceToNat]
        repeat' ((first | refine guardB_dec (fun hy => ?_) (fun hy => ?_) | refine guardB_bool (fun hy => ?_) (fun hy => ?_) | refine guardQ_ite (fun hy => ?_) (fun hy => ?_) | refine brQ_dec (fun hy => ?_) (fun hy => ?_) | refine brQ_bool (fun hy => ?_) (fun hy => ?_)) <;> (try simp only [Bool.not_eq_true', Bool.not_eq_false', Bool.and_eq_true, Bool.or_eq_false_iff, decide_eq_true_eq, decide_eq_false_iff_not] at hy) <;> simp (disch := first | rfl | omega | exact lt_new _ | assumption | decide | (simp [tk_here, tk_app, tk_0, tk_S, gr_here, gr_app, gr_0, gr_S] <;> omega) | fail) only [r25_0, r25_1, r25_2, r25_3, r25_4, r25_5, r25_6, r25_7, r25_8, r25_9, r25_10, r25_11, r25_12, r25_13, r25_14, r25_15, r25_16, l25_17, r25_18, r25_19, r25_20, r25_21, r25_22, r25_23, r25_24, r25_25, l25_26, r25_27, c25, rs25, gc25, loadV_ptr, storeV_ptr, List.append_assoc, List.length_append, List.length_cons, List.length_nil, List.set_cons_zero, List.set_cons_succ, tk_here, tk_app, gr_here, gr_app, st_here, st_app, t3, t9, t10, t40, t41, t42, hlt', hv1, hpl, hls, hone, hwl', hll, h115, hB, har, go_sem, ↓reduceIte, Nat.reduceLT, Nat.reduceEqDiff, Nat.reduceAdd, Nat.reduceMul, Nat.reduceSub, Int.reduceAdd, Int.reduceSub, Nat.reduceLeDiff, Int.reduceLT, Int.reduceLE, Int.reduceEq, Int.reduceNeg, Int.reduceToNat, hy])
        exact ⟨_, by omega, k + 1, g, vs, .slice (H.length + (M.length + 1)) (gw + 1) 0 (w.length + 1) 5 .full, d, w ++ [pkE.at c.packets k], M, .row (gw + 1) (flatE pkE (w ++ [pkE.at c.packets k])) true :: (G ++ [AB.row 0 (pkE.f (pkE.at c.packets k)) true]), fl, rfl, hlt, by simp, rfl, rfl, rfl, by rw [hsn], hpt, Or.inr ⟨by simp, gw + 1, G ++ [AB.row 0 (pkE.f (pkE.at c.packets k)) true], by simp, rfl⟩⟩
  · obtain rfl : k = c.packets.length := by omega
    have hall : PtsR (H.length + 1) (M ++ X) (vs ++ [v]) (d ++ [w]) := .snoc (hpt.app X) (LastR.row (n := H.length + 1) (by rw [show H.length + 1 + M.length = H.length + (M.length + 1) by omega]; exact hla))
    rw [hsp]
    generalize M ++ X = R0 at *
    have hdl : (d ++ [w]).length = vs.length + 1 := by simp; omega
    simp (disch := first | rfl | omega | exact lt_new _ | assumption | decide | (simp [tk_here, tk_app, tk_0, tk_S, gr_here, gr_app, gr_0, gr_S] <;> omega) | fail) only [r25_0, r25_1, r25_2, r25_3, r25_4, r25_5, r25_6, r25_7, r25_8, r25_9, r25_10, r25_11, r25_12, r25_13, r25_14, r25_15, r25_16, r25_18, r25_19, r25_20, r25_21, r25_22, r25_23, r25_24, r25_25, r25_27, c25, rs25, gc25, l25_17, r25_9, loadV_ptr, storeV_ptr, List.append_assoc, List.length_append, List.length_cons, List.length_nil, List.set_cons_zero, List.set_cons_succ, tk_here, tk_app, gr_here, gr_app, st_here, st_app, t3, t9, t10, t40, t41, t42, Int.lt_irrefl, go_sem, ↓reduceIte, Nat.reduceLT, Nat.reduceEqDiff, Nat.reduceAdd, Nat.reduceMul, Nat.reduceSub, Int.reduceAdd, Int.reduceSub, Nat.reduceLeDiff, Int.reduceLT, Int.reduceLE, Int.reduceEq, Int.reduceNeg, Int.reduceToNat]
    repeat' ((first | refine guardB_dec (fun hy => ?_) (fun hy => ?_) | refine guardB_bool (fun hy => ?_) (fun hy => ?_) | refine guardQ_ite (fun hy => ?_) (fun hy => ?_) | refine brQ_dec (fun hy => ?_) (fun hy => ?_) | refine brQ_bool (fun hy => ?_) (fun hy => ?_)) <;> (try simp only [Bool.not_eq_true', Bool.not_eq_false', Bool.and_eq_true, Bool.or_eq_false_iff, decide_eq_true_eq, decide_eq_false_iff_not] at hy) <;> simp (disch := first | rfl | omega | exact lt_new _ | assumption | decide | (simp [tk_here, tk_app, tk_0, tk_S, gr_here, gr_app, gr_0, gr_S] <;> omega) | fail) only [r25_0, r25_1, r25_2, r25_3, r25_4, r25_5, r25_6, r25_7, r25_8, r25_9, r25_10, r25_11, r25_12, r25_13, r25_14, r25_15, r25_16, r25_18, r25_19, r25_20, r25_21, r25_22, r25_23, r25_24, r25_25, r25_27, c25, rs25, gc25, l25_17, r25_9, loadV_ptr, storeV_ptr, List.append_assoc, List.length_append, List.length_cons, List.length_nil, List.set_cons_zero, List.set_cons_succ, tk_here, tk_app, gr_here, gr_app, st_here, st_app, t3, t9, t10, t40, t41, t42, Int.lt_irrefl, go_sem, ↓reduceIte, Nat.reduceLT, Nat.reduceEqDiff, Nat.reduceAdd, Nat.reduceMul, Nat.reduceSub, Int.reduceAdd, Int.reduceSub, Nat.reduceLeDiff, Int.reduceLT, Int.reduceLE, Int.reduceEq, Int.reduceNeg, Int.reduceToNat, hy])
    refine Wp_loop (fun m T D H' => ∃ i A B cs ov, m = vs.length + 1 - i ∧ i ≤ vs.length + 1 ∧ D = [] ∧ H' = H ++ .row g (vs ++ [v]) true :: (R0 ++ (A ++ B)) ∧ get T 3 = .ipt (cpE.f c) 0 ∧ get T 14 = ov ∧ get T 80 = .slice H.length g 0 (vs.length + 1) 1 .full ∧ get T 81 = .int .i64 ((vs.length + 1 : Nat) : Int) ∧ get T 82 = .int .i64 i ∧ OutR c (H.length + 1) R0 cs ((d ++ [w]).take i) ∧ ((i = 0 ∧ ov = .nilslice ∧ B = []) ∨ (i ≠ 0 ∧ ∃ go G, ov = .slice (H.length + (R0.length + A.length + 1)) go 0 i 5 .full ∧ B = .row go cs true :: G))) ?_ (vs.length + 1) _ _ _ ?_
    case refine_2 => exact ⟨0, [], [], [], .nilslice, by simp (disch := first | rfl | omega | exact lt_new _ | assumption | decide | (simp [tk_here, tk_app, tk_0, tk_S, gr_here, gr_app, gr_0, gr_S] <;> omega) | fail) only [go_sem, ↓reduceIte, Nat.reduceLT, Nat.reduceEqDiff, Nat.reduceAdd, Nat.reduceMul, Nat.reduceSub, Int.reduceAdd, Int.reduceSub, Nat.reduceLeDiff, Int.reduceLT, Int.reduceLE, Int.reduceEq, Int.reduceNeg, Int.reduceToNat, t3, t10]; simp [t3, t10]; exact .nil⟩
    rintro m T D H' ⟨i, A, B, cs, ov, rfl, hi, rfl, rfl, t3, t14, t80, t81, t82, hout, hov⟩
    have hol := hout.len
    have hoc := hout.cells
    by_cases hlt : i < vs.length + 1
    · have hlt' : (i : Int) < ((vs.length + 1 : Nat) : Int) := by omega
      obtain ⟨wi, hwi⟩ : ∃ wi, (d ++ [w])[i]? = some wi := ⟨_, List.getElem?_eq_getElem (by omega)⟩
      obtain ⟨vi, hvi, hri⟩ := hall.at hwi
      obtain ⟨e1, e2, e3, e4, e5, e6, e7⟩ := hri.cell
      have hti : (d ++ [w]).take (i + 1) = (d ++ [w]).take i ++ [wi] := by rw [List.take_add_one, hwi]; rfl
      have pvi : partV Try.prog 29 (vs ++ [v]) (i * 1) = some vi := by
        have h : aggT Try.prog 29 = some false := by kernel_rfl
        unfold partV
        rw [h]
        simpa using hvi
      have honei : i * 1 ≤ vs.length + 1 := by omega
      have h74' : ∀ H, callL Try.prog pr 74 [.agg [.str c.note, slV c.facesN fcE c.faces, slV c.namesN nmE c.names, slV c.secretsN scE c.secrets, slV c.packetsN pkE c.packets]] H = some (.agg [.str c.note, slV (cp H).facesN fcE c.faces, slV (cp H).namesN nmE c.names, slV (cp H).secretsN scE c.secrets, slV (cp H).packetsN pkE c.packets], H) := fun H => by
        have h := h74 H
        obtain ⟨x1, x2, x3, x4, x5⟩ := (hcp H).2
        rw [cpE_f, cpE_f, x1, x2, x3, x4, x5] at h
        exact h
      rcases hov with ⟨hi0, rfl, rfl⟩ | ⟨hi0, go, G, rfl, rfl⟩
      · have hao := fun {H' : Hp} {k : Nat} (h : getRow H' k 0 = some ([.str c.note, slV (cp (H ++ .row g (vs ++ [v]) true :: (R0 ++ A))).facesN fcE c.faces, slV (cp (H ++ .row g (vs ++ [v]) true :: (R0 ++ A))).namesN nmE c.names, slV (cp (H ++ .row g (vs ++ [v]) true :: (R0 ++ A))).secretsN scE c.secrets, vi], true)) => ao_nil h rfl (by simp [slV_cell, e1, show (V.str c.note).isCell = true from rfl])
        simp (disch := first | rfl | omega | exact lt_new _ | assumption | decide | (simp [tk_here, tk_app, tk_0, tk_S, gr_here, gr_app, gr_0, gr_S] <;> omega) | fail) only [r25_0, r25_1, r25_2, r25_3, r25_4, r25_5, r25_6, r25_7, r25_8, r25_9, r25_10, r25_11, r25_12, r25_13, r25_14, r25_15, r25_16, l25_17, r25_18, r25_19, r25_20, r25_21, r25_22, r25_23, r25_24, r25_25, l25_26, r25_27, c25, rs25, gc25, loadV_ptr, storeV_ptr, List.append_assoc, List.length_append, List.length_cons, List.length_nil, List.set_cons_zero, List.set_cons_succ, tk_here, tk_app, gr_here, gr_app, st_here, st_app, t3, t14, t80, t81, t82, hlt', pvi, honei, h74', cpE_f, e1, e2, e3, e4, e5, e6, e7, hao, go_sem, ↓reduceIte, Nat.reduceLT, Nat.reduceEqDiff, Nat.reduceAdd, Nat.reduceMul, Nat.reduceSub, Int.reduceAdd, Int.reduceSub, Nat.reduceLeDiff, Int.reduceLT, Int.reduceLE, Int.reduceEq, Int.reduceNeg, Int.reduceToNat]
        repeat' ((first | refine guardB_dec (fun hy => ?_) (fun hy => ?_) | refine guardB_bool (fun hy => ?_) (fun hy => ?_) | refine guardQ_ite (fun hy => ?_) (fun hy => ?_) | refine brQ_dec (fun hy => ?_) (fun hy => ?_) | refine brQ_bool (fun hy => ?_) (fun hy => ?_)) <;> (try simp only [Bool.not_eq_true', Bool.not_eq_false', Bool.and_eq_true, Bool.or_eq_false_iff, decide_eq_true_eq, decide_eq_false_iff_not] at hy) <;> simp (disch := first | rfl | omega | exact lt_new _ | assumption | decide | (simp [tk_here, tk_app, tk_0, tk_S, gr_here, gr_app, gr_0, gr_S] <;> omega) | fail) only [r25_0, r25_1, r25_2, r25_3, r25_4, r25_5, r25_6, r25_7, r25_8, r25_9, r25_10, r25_11, r25_12, r25_13, r25_14, r25_15, r25_16, l25_17, r25_18, r25_19, r25_20, r25_21, r25_22, r25_23, r25_24, r25_25, l25_26, r25_27, c25, rs25, gc25, loadV_ptr, storeV_ptr, List.append_assoc, List.length_append, List.length_cons, List.length_nil, List.set_cons_zero, List.set_cons_succ, tk_here, tk_app, gr_here, gr_app, st_here, st_app, t3, t14, t80, t81, t82, hlt', pvi, honei, h74', cpE_f, e1, e2, e3, e4, e5, e6, e7, hao, go_sem, ↓reduceIte, Nat.reduceLT, Nat.reduceEqDiff, Nat.reduceAdd, Nat.reduceMul, Nat.reduceSub, Int.reduceAdd, Int.reduceSub, Nat.reduceLeDiff, Int.reduceLT, Int.reduceLE, Int.reduceEq, Int.reduceNeg, Int.reduceToNat, hy])
        have hcs : cs = [] := List.eq_nil_of_length_eq_zero (by rw [hol, hi0]; simp)
        have hout2 : OutR c (H.length + 1) R0 [.str c.note, slV (cp (H ++ .row g (vs ++ [v]) true :: (R0 ++ A))).facesN fcE c.faces, slV (cp (H ++ .row g (vs ++ [v]) true :: (R0 ++ A))).namesN nmE c.names, slV (cp (H ++ .row g (vs ++ [v]) true :: (R0 ++ A))).secretsN scE c.secrets, vi] ((d ++ [w]).take (i + 1)) := by
          rw [hti]
          have := OutR.snoc (b1 := (cp (H ++ .row g (vs ++ [v]) true :: (R0 ++ A))).facesN) (b2 := (cp (H ++ .row g (vs ++ [v]) true :: (R0 ++ A))).namesN) (b3 := (cp (H ++ .row g (vs ++ [v]) true :: (R0 ++ A))).secretsN) hout hri
          rwa [hcs, List.nil_append] at this
        refine ⟨_, by omega, i + 1, A ++ [AB.row 0 [.str c.note, slV (cp (H ++ .row g (vs ++ [v]) true :: (R0 ++ A))).facesN fcE c.faces, slV (cp (H ++ .row g (vs ++ [v]) true :: (R0 ++ A))).namesN nmE c.names, slV (cp (H ++ .row g (vs ++ [v]) true :: (R0 ++ A))).secretsN scE c.secrets, vi] true, AB.row 0 [.str c.note, slV (cp (H ++ .row g (vs ++ [v]) true :: (R0 ++ A))).facesN fcE c.faces, slV (cp (H ++ .row g (vs ++ [v]) true :: (R0 ++ A))).namesN nmE c.names, slV (cp (H ++ .row g (vs ++ [v]) true :: (R0 ++ A))).secretsN scE c.secrets, vi] true], [AB.row 0 [.str c.note, slV (cp (H ++ .row g (vs ++ [v]) true :: (R0 ++ A))).facesN fcE c.faces, slV (cp (H ++ .row g (vs ++ [v]) true :: (R0 ++ A))).namesN nmE c.names, slV (cp (H ++ .row g (vs ++ [v]) true :: (R0 ++ A))).secretsN scE c.secrets, vi] true], [.str c.note, slV (cp (H ++ .row g (vs ++ [v]) true :: (R0 ++ A))).facesN fcE c.faces, slV (cp (H ++ .row g (vs ++ [v]) true :: (R0 ++ A))).namesN nmE c.names, slV (cp (H ++ .row g (vs ++ [v]) true :: (R0 ++ A))).secretsN scE c.secrets, vi], .slice (H.length + (R0.length + (A.length + 1 + 1) + 1)) 0 0 1 5 .full, rfl, hlt, by simp, ?_⟩
        refine ⟨?_, ?_, hout2, Or.inr ⟨by omega, 0, [], ?_, rfl⟩⟩
        all_goals first | rfl | simp [hi0] | (simp [hi0]; omega) | skip
        done
      · have hoi : cs.length = i * 5 := by rw [hol, List.length_take]; omega
        have hao := fun {H' : Hp} {k id gg : Nat} (h : getRow H' k 0 = some ([.str c.note, slV (cp (H ++ .row g (vs ++ [v]) true :: (R0 ++ (A ++ .row go cs true :: G)))).facesN fcE c.faces, slV (cp (H ++ .row g (vs ++ [v]) true :: (R0 ++ (A ++ .row go cs true :: G)))).namesN nmE c.names, slV (cp (H ++ .row g (vs ++ [v]) true :: (R0 ++ (A ++ .row go cs true :: G)))).secretsN scE c.secrets, vi], true)) (h2 : getRow H' id gg = some (cs, true)) => ao_row h rfl (by simp [slV_cell, e1, show (V.str c.note).isCell = true from rfl]) h2 hoi (by omega)
        simp (disch := first | rfl | omega | exact lt_new _ | assumption | decide | (simp [tk_here, tk_app, tk_0, tk_S, gr_here, gr_app, gr_0, gr_S] <;> omega) | fail) only [r25_0, r25_1, r25_2, r25_3, r25_4, r25_5, r25_6, r25_7, r25_8, r25_9, r25_10, r25_11, r25_12, r25_13, r25_14, r25_15, r25_16, l25_17, r25_18, r25_19, r25_20, r25_21, r25_22, r25_23, r25_24, r25_25, l25_26, r25_27, c25, rs25, gc25, loadV_ptr, storeV_ptr, List.append_assoc, List.length_append, List.length_cons, List.length_nil, List.set_cons_zero, List.set_cons_succ, tk_here, tk_app, gr_here, gr_app, st_here, st_app, t3, t14, t80, t81, t82, hlt', pvi, honei, h74', cpE_f, e1, e2, e3, e4, e5, e6, e7, hao, go_sem, ↓reduceIte, Nat.reduceLT, Nat.reduceEqDiff, Nat.reduceAdd, Nat.reduceMul, Nat.reduceSub, Int.reduceAdd, Int.reduceSub, Nat.reduceLeDiff, Int.reduceLT, Int.reduceLE, Int.reduceEq, Int.reduceNeg, Int.reduceToNat]
        repeat' ((first | refine guardB_dec (fun hy => ?_) (fun hy => ?_) | refine guardB_bool (fun hy => ?_) (fun hy => ?_) | refine guardQ_ite (fun hy => ?_) (fun hy => ?_) | refine brQ_dec (fun hy => ?_) (fun hy => ?_) | refine brQ_bool (fun hy => ?_) (fun hy => ?_)) <;> (try simp only [Bool.not_eq_true', Bool.not_eq_false', Bool.and_eq_true, Bool.or_eq_false_iff, decide_eq_true_eq, decide_eq_false_iff_not] at hy) <;> simp (disch := first | rfl | omega | exact lt_new _ | assumption | decide | (simp [tk_here, tk_app, tk_0, tk_S, gr_here, gr_app, gr_0, gr_S] <;> omega) | fail) only [r25_0, r25_1, r25_2, r25_3, r25_4, r25_5, r25_6, r25_7, r25_8, r25_9, r25_10, r25_11, r25_12, r25_13, r25_14, r25_15, r25_16, l25_17, r25_18, r25_19, r25_20, r25_21, r25_22, r25_23, r25_24, r25_25, l25_26, r25_27, c25, rs25, gc25, loadV_ptr, storeV_ptr, List.append_assoc, List.length_append, List.length_cons, List.length_nil, List.set_cons_zero, List.set_cons_succ, tk_here, tk_app, gr_here, gr_app, st_here, st_app, t3, t14, t80, t81, t82, hlt', pvi, honei, h74', cpE_f, e1, e2, e3, e4, e5, e6, e7, hao, go_sem, ↓reduceIte, Nat.reduceLT, Nat.reduceEqDiff, Nat.reduceAdd, Nat.reduceMul, Nat.reduceSub, Int.reduceAdd, Int.reduceSub, Nat.reduceLeDiff, Int.reduceLT, Int.reduceLE, Int.reduceEq, Int.reduceNeg, Int.reduceToNat, hy])
        have hout2 : OutR c (H.length + 1) R0 (cs ++ [.str c.note, slV (cp (H ++ .row g (vs ++ [v]) true :: (R0 ++ (A ++ .row go cs true :: G)))).facesN fcE c.faces, slV (cp (H ++ .row g (vs ++ [v]) true :: (R0 ++ (A ++ .row go cs true :: G)))).namesN nmE c.names, slV (cp (H ++ .row g (vs ++ [v]) true :: (R0 ++ (A ++ .row go cs true :: G)))).secretsN scE c.secrets, vi]) ((d ++ [w]).take (i + 1)) := by
          rw [hti]
          exact OutR.snoc (b1 := (cp (H ++ .row g (vs ++ [v]) true :: (R0 ++ (A ++ .row go cs true :: G)))).facesN) (b2 := (cp (H ++ .row g (vs ++ [v]) true :: (R0 ++ (A ++ .row go cs true :: G)))).namesN) (b3 := (cp (H ++ .row g (vs ++ [v]) true :: (R0 ++ (A ++ .row go cs true :: G)))).secretsN) hout hri
        exact ⟨_, by omega, i + 1, A, _, _, _, rfl, hlt, rfl, rfl, by simp, hout2, Or.inr ⟨by omega, go + 1, _, rfl, rfl⟩⟩
    · obtain rfl : i = vs.length + 1 := by omega
      rcases hov with ⟨hi0, rfl, rfl⟩ | ⟨hi0, go, G, rfl, rfl⟩
      · omega
      simp (disch := first | rfl | omega | exact lt_new _ | assumption | decide | (simp [tk_here, tk_app, tk_0, tk_S, gr_here, gr_app, gr_0, gr_S] <;> omega) | fail) only [r25_0, r25_1, r25_2, r25_3, r25_4, r25_5, r25_6, r25_7, r25_8, r25_9, r25_10, r25_11, r25_12, r25_13, r25_14, r25_15, r25_16, l25_17, r25_18, r25_19, r25_20, r25_21, r25_22, r25_23, r25_24, r25_25, l25_26, r25_27, c25, rs25, gc25, loadV_ptr, storeV_ptr, List.append_assoc, List.length_append, List.length_cons, List.length_nil, List.set_cons_zero, List.set_cons_succ, tk_here, tk_app, gr_here, gr_app, st_here, st_app, t3, t14, t80, t81, t82, Int.lt_irrefl, go_sem, ↓reduceIte, Nat.reduceLT, Nat.reduceEqDiff, Nat.reduceAdd, Nat.reduceMul, Nat.reduceSub, Int.reduceAdd, Int.reduceSub, Nat.reduceLeDiff, Int.reduceLT, Int.reduceLE, Int.reduceEq, Int.reduceNeg, Int.reduceToNat]
      repeat' ((first | refine guardB_dec (fun hy => ?_) (fun hy => ?_) | refine guardB_bool (fun hy => ?_) (fun hy => ?_) | refine guardQ_ite (fun hy => ?_) (fun hy => ?_) | refine brQ_dec (fun hy => ?_) (fun hy => ?_) | refine brQ_bool (fun hy => ?_) (fun hy => ?_)) <;> (try simp only [Bool.not_eq_true', Bool.not_eq_false', Bool.and_eq_true, Bool.or_eq_false_iff, decide_eq_true_eq, decide_eq_false_iff_not] at hy) <;> simp (disch := first | rfl | omega | exact lt_new _ | assumption | decide | (simp [tk_here, tk_app, tk_0, tk_S, gr_here, gr_app, gr_0, gr_S] <;> omega) | fail) only [r25_0, r25_1, r25_2, r25_3, r25_4, r25_5, r25_6, r25_7, r25_8, r25_9, r25_10, r25_11, r25_12, r25_13, r25_14, r25_15, r25_16, l25_17, r25_18, r25_19, r25_20, r25_21, r25_22, r25_23, r25_24, r25_25, l25_26, r25_27, c25, rs25, gc25, loadV_ptr, storeV_ptr, List.append_assoc, List.length_append, List.length_cons, List.length_nil, List.set_cons_zero, List.set_cons_succ, tk_here, tk_app, gr_here, gr_app, st_here, st_app, t3, t14, t80, t81, t82, Int.lt_irrefl, go_sem, ↓reduceIte, Nat.reduceLT, Nat.reduceEqDiff, Nat.reduceAdd, Nat.reduceMul, Nat.reduceSub, Int.reduceAdd, Int.reduceSub, Nat.reduceLeDiff, Int.reduceLT, Int.reduceLE, Int.reduceEq, Int.reduceNeg, Int.reduceToNat, hy])
      have htk : (d ++ [w]).take (vs.length + 1) = d ++ [w] := List.take_of_length_le (by omega)
      rw [htk] at hout hol
      obtain ⟨Ls, e1, e2, e3⟩ := OutR.inl (m := H.length) (f := 5) (A := H ++ [AB.row g (vs ++ [v]) true]) (hout.app (A ++ AB.row go cs true :: G)) (by simp) (by simp)
      have hLl : Ls.length = vs.length + 1 := by rw [e3, hdl]
      have hfl : (flatE cpE Ls).length = Ls.length * 5 := flatE_len
      have hne : Ls ≠ [] := by intro h; rw [h] at hLl; simp at hLl
      have hsl : slV true cpE Ls = .isl (flatE cpE Ls) Ls.length 5 := by
        unfold slV
        simp [hne]
        rfl
      have hmem : (H ++ AB.row g (vs ++ [v]) true :: (R0 ++ (A ++ AB.row go cs true :: G)))[H.length + (R0.length + A.length + 1)]? = some (.row go cs true) := by
        rw [List.getElem?_append_right (by omega), show H.length + (R0.length + A.length + 1) - H.length = R0.length + A.length + 1 by omega, List.getElem?_cons_succ, List.getElem?_append_right (by omega), List.getElem?_append_right (by omega), show R0.length + A.length - R0.length - A.length = 0 by omega]
        rfl
      have hin : inlB H.length (H ++ AB.row g (vs ++ [v]) true :: (R0 ++ (A ++ AB.row go cs true :: G))) 8 (.slice (H.length + (R0.length + A.length + 1)) go 0 (vs.length + 1) 5 .full) = some (slV true cpE Ls) := by
        have e1' : mapO (inlB H.length (H ++ AB.row g (vs ++ [v]) true :: (R0 ++ (A ++ AB.row go cs true :: G))) 7) cs = some (flatE cpE Ls) := by
          rw [← e1]
          congr 2
          simp
        rw [hsl, hLl]
        exact inlB_many (by omega) hmem (by rw [hol, hdl]) e1' flatE_imm
      refine ⟨Ls, finQ_app ?_, e2⟩
      have hinA : inlA H.length (H ++ AB.row g (vs ++ [v]) true :: (R0 ++ (A ++ AB.row go cs true :: G))) 8 (.slice (H.length + (R0.length + A.length + 1)) go 0 (vs.length + 1) 5 .full) = some (slV true cpE Ls) := hin
      simp (disch := first | rfl | omega | exact lt_new _ | assumption | decide | (simp [tk_here, tk_app, tk_0, tk_S, gr_here, gr_app, gr_0, gr_S] <;> omega) | fail) only [go_sem, ↓reduceIte, Nat.reduceLT, Nat.reduceEqDiff, Nat.reduceAdd, Nat.reduceMul, Nat.reduceSub, Int.reduceAdd, Int.reduceSub, Nat.reduceLeDiff, Int.reduceLT, Int.reduceLE, Int.reduceEq, Int.reduceNeg, Int.reduceToNat, hinA]
end Go.Proofs.Ytejkgnmjdaohdaa
/-
  The statement's function 'FileSplits', walked. No statement of the seat stands here.
-/
namespace Go.Proofs.Ytejkgnmjdaohdaa
open Go Go.An
set_option maxRecDepth 4000
set_option linter.unusedSimpArgs false
set_option linter.unusedVariables false

theorem sameL_refl {α : Type} {S : α → α → Bool} (h : ∀ x, S x x = true) : ∀ l : List α, sameL S l l = true
  | [] => rfl
  | x :: xs => by unfold sameL; rw [h, sameL_refl h xs]; rfl
theorem sameB_of {a b : Cp} (h : CpEq a b) : sameB a b = true := by
  obtain ⟨h1, h2, h3, h4, h5⟩ := h
  unfold sameB
  rw [h1, h2, h3, h4, h5, sameL_refl (by simp [fcS]), sameL_refl (by simp [nmS]), sameL_refl (by simp [scS]), sameL_refl (by simp [pkS])]
  simp
theorem same_of : ∀ {l m : List Cp}, CpsEq l m → sameL sameB l m = true
  | [], [], _ => rfl
  | x :: xs, y :: ys, h => by
    unfold CpsEq at h
    simp only [List.map_cons, List.cons.injEq] at h
    rw [sameL, sameB_of (nf_eq h.1), same_of h.2]; rfl
  | [], y :: ys, h => by unfold CpsEq at h; simp at h
  | x :: xs, [], h => by unfold CpsEq at h; simp at h
theorem cps_mem {P : Cp → Prop} (hP : ∀ a b, CpEq a b → P b → P a) : ∀ {l m : List Cp}, CpsEq l m → (∀ c ∈ m, P c) → ∀ c ∈ l, P c
  | [], _, _, _ => by simp
  | x :: xs, [], h, _ => by unfold CpsEq at h; simp at h
  | x :: xs, y :: ys, h, hm => by
    unfold CpsEq at h
    simp only [List.map_cons, List.cons.injEq] at h
    intro c hc
    rcases List.mem_cons.1 hc with rfl | hc
    · exact hP _ _ (nf_eq h.1) (hm _ (by simp))
    · exact cps_mem hP h.2 (fun c hc => hm c (by simp [hc])) c hc
theorem CpEq.fits {a d : Cp} (h : CpEq a d) (hd : Fits d) : Fits a := by
  obtain ⟨h1, h2, h3, h4, h5⟩ := h
  unfold Fits
  rw [h2, h3, h4, h5]
  exact hd
theorem spS_len (B : List Pk → Pk → Bool) (ps : List Pk) : ∀ k : Nat, (∀ w ∈ (spS B ps k).1, w.length ≤ k) ∧ (spS B ps k).2.length ≤ k
  | 0 => by simp [spS]
  | k + 1 => by
    obtain ⟨h1, h2⟩ := spS_len B ps k
    unfold spS
    split
    · refine ⟨fun w hw => ?_, by simp⟩
      rcases List.mem_append.1 hw with hw | hw
      · exact Nat.le_succ_of_le (h1 w hw)
      · simp at hw; subst hw; omega
    · exact ⟨fun w hw => Nat.le_succ_of_le (h1 w hw), by simp; omega⟩
theorem splFits {c : Cp} (hc : CpOk c) (kind n : Int) : (splF c kind n).1.length ≤ 2 ^ 62 ∧ ∀ d ∈ (splF c kind n).1, Fits d := by
  have hb := hc.fits
  obtain ⟨f1, f2, f3, f4⟩ := hb
  have hp : c.packets.length < 2 ^ 62 := by
    obtain ⟨o0, o1, o1l, o2, o2l, o3, o3l, o4, o4l⟩ := hc
    omega
  unfold splF
  split
  · split
    · exact ⟨Nat.zero_le _, by simp⟩
    · obtain ⟨h1, h2⟩ := spS_ok (bgB kind n) c.packets (Nat.le_refl c.packets.length)
      obtain ⟨h3, h4⟩ := spS_len (bgB kind n) c.packets c.packets.length
      refine ⟨by simp; omega, fun d hd => ?_⟩
      obtain ⟨w, hw, rfl⟩ := List.mem_map.1 hd
      refine ⟨f1, f2, f3, ?_⟩
      rcases List.mem_append.1 hw with hw | hw
      · exact Nat.le_trans (h3 w hw) f4
      · simp at hw; subst hw; exact Nat.le_trans h4 f4
  · exact ⟨Nat.zero_le _, by simp⟩
set_option maxHeartbeats 1000000 in
theorem fn6 (c : Cp) (hc : CpOk c) (kind n : Int) (hk : Inx kind) (hn : Inx n) (H : Hp) : callL Try.prog pr 6 [.agg (cpE.f c), .int .i64 kind, .int .i64 n] H = some (.bool true, H) := by
  obtain ⟨w, h21⟩ : ∃ n : Hp → Int, ∀ H, callL Try.prog pr 21 [.agg (cpE.f c)] H = some (.int .i64 (n H), H) := ⟨fun H => (fn21 c hc H).choose, fun H => (fn21 c hc H).choose_spec⟩
  obtain ⟨d, h25⟩ : ∃ d : Hp → List Cp, ∀ H, callL Try.prog pr 25 [.agg (cpE.f c), .int .i64 kind, .int .i64 n] H = some (.tup [slV true cpE (d H), .int .i64 (splF c kind n).2], H) ∧ CpsEq (d H) (splF c kind n).1 := ⟨fun H => (fn25 c hc kind n hn hk H).choose, fun H => (fn25 c hc kind n hn hk H).choose_spec⟩
  have h26 := fun H => fn26 c hc kind n H
  obtain ⟨hl, hf⟩ := splFits hc kind n
  have h27 : ∀ H1 H, callL Try.prog pr 27 [slV true cpE (d H1), slV true cpE (splF c kind n).1] H = some (.bool true, H) := fun H1 H => by
    have he := (h25 H1).2
    have hlen : (d H1).length = (splF c kind n).1.length := by
      have := congrArg List.length he
      simpa using this
    rw [fn27 (cps_mem (fun _ _ => CpEq.fits) he hf) (by omega), same_of he]
  have e1 := fun H => (h25 H).1
  refine run6 (Nat.le_of_ble_eq_true rfl) ?_
  simp (disch := first | rfl | omega | exact lt_new _ | assumption | decide | (simp [tk_here, tk_app, tk_0, tk_S, gr_here, gr_app, gr_0, gr_S] <;> omega) | fail) only [r6_0, r6_1, r6_2, r6_3, r6_4, r6_5, c6, rs6, gc6, loadV_ptr, storeV_ptr, List.append_assoc, List.length_append, List.length_cons, List.length_nil, List.set_cons_zero, List.set_cons_succ, tk_here, tk_app, gr_here, gr_app, st_here, st_app, known_call, h21, e1, h26, h27, go_sem, ↓reduceIte, Nat.reduceLT, Nat.reduceEqDiff, Nat.reduceAdd, Nat.reduceMul, Nat.reduceSub, Int.reduceAdd, Int.reduceSub, Nat.reduceLeDiff, Int.reduceLT, Int.reduceLE, Int.reduceEq, Int.reduceNeg, Int.reduceToNat]
  repeat' ((first | refine guardB_dec (fun hy => ?_) (fun hy => ?_) | refine guardB_bool (fun hy => ?_) (fun hy => ?_) | refine guardQ_ite (fun hy => ?_) (fun hy => ?_) | refine brQ_dec (fun hy => ?_) (fun hy => ?_) | refine brQ_bool (fun hy => ?_) (fun hy => ?_)) <;> (try simp only [Bool.not_eq_true', Bool.not_eq_false', Bool.and_eq_true, Bool.or_eq_false_iff, decide_eq_true_eq, decide_eq_false_iff_not] at hy) <;> simp (disch := first | rfl | omega | exact lt_new _ | assumption | decide | (simp [tk_here, tk_app, tk_0, tk_S, gr_here, gr_app, gr_0, gr_S] <;> omega) | fail) only [r6_0, r6_1, r6_2, r6_3, r6_4, r6_5, c6, rs6, gc6, loadV_ptr, storeV_ptr, List.append_assoc, List.length_append, List.length_cons, List.length_nil, List.set_cons_zero, List.set_cons_succ, tk_here, tk_app, gr_here, gr_app, st_here, st_app, known_call, h21, e1, h26, h27, go_sem, ↓reduceIte, Nat.reduceLT, Nat.reduceEqDiff, Nat.reduceAdd, Nat.reduceMul, Nat.reduceSub, Int.reduceAdd, Int.reduceSub, Nat.reduceLeDiff, Int.reduceLT, Int.reduceLE, Int.reduceEq, Int.reduceNeg, Int.reduceToNat, hy])
  all_goals (try ((first | refine finQ_same ?_ | refine finQ_app ?_ | (rw [List.append_assoc]; refine finQ_app ?_)) <;> simp (disch := first | rfl | omega | exact lt_new _ | assumption | decide | (simp [tk_here, tk_app, tk_0, tk_S, gr_here, gr_app, gr_0, gr_S] <;> omega) | fail) only [go_sem, ↓reduceIte, Nat.reduceLT, Nat.reduceEqDiff, Nat.reduceAdd, Nat.reduceMul, Nat.reduceSub, Int.reduceAdd, Int.reduceSub, Nat.reduceLeDiff, Int.reduceLT, Int.reduceLE, Int.reduceEq, Int.reduceNeg, Int.reduceToNat, List.append_assoc, List.cons_append, List.nil_append, *]))
  all_goals (try first | rfl | (simp [*]; done) | grind)
end Go.Proofs.Ytejkgnmjdaohdaa
