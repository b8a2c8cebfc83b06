/-
  Texts of this seat, laid together. No statement of the seat stands here.
-/
import Derived.Test.YtdpdlobaabcjjabP6
/-
  That the order of pieces without overlaps does not matter: the statement's function, walked. No statement of the seat stands here.
-/
namespace Go.Proofs.Ytdpdlobaabcjjab
open Go Go.An
set_option maxRecDepth 4000
set_option linter.unusedSimpArgs false
set_option linter.unusedVariables false

def endsN (l : List Pc) : Nat := (l.filter fun p => !p.more).length
theorem endsN_next {l : List Pc} {i : Nat} (h : i < l.length) : endsN (l.take (i + 1)) = endsN (l.take i) + (if (pcE.at l i).more = true then 0 else 1) := by
  unfold endsN
  rw [pcE.take_at h, List.filter_append, List.length_append]
  congr 1
  cases hm : (pcE.at l i).more <;> simp [hm]
theorem endsN_le (l : List Pc) : endsN l ≤ l.length := List.length_filter_le _ _
theorem ends_of {l : List Pc} (h : endsN l ≤ 1) : Ends (l.map newP) := by
  have key : ∀ p ∈ l, ∀ q ∈ l, p.more = false → q.more = false → p = q := by
    intro p hp q hq h1 h2
    unfold endsN at h
    have m1 : p ∈ l.filter fun p => !p.more := List.mem_filter.2 ⟨hp, by simp [h1]⟩
    have m2 : q ∈ l.filter fun p => !p.more := List.mem_filter.2 ⟨hq, by simp [h2]⟩
    match hf : l.filter fun p => !p.more with
    | [] => rw [hf] at m1; cases m1
    | [x] =>
      rw [hf] at m1 m2
      rw [List.mem_singleton.1 m1, List.mem_singleton.1 m2]
    | x :: y :: z => rw [hf] at h; simp at h
  intro p hp q hq h1 h2
  obtain ⟨p', hp', rfl⟩ := List.mem_map.1 hp
  obtain ⟨q', hq', rfl⟩ := List.mem_map.1 hq
  have := key p' hp' q' hq' h1 h2
  subst this
  rfl
theorem cons_of {l : List Pc} (hid : ∀ i, i < l.length → (pcE.at l i).id = (pcE.at l 0).id) (hov : ∀ a c, a < c → c < l.length → ovB (pcE.at l a) (pcE.at l c) = false) : Cons (l.map newP) := by
  have key : ∀ a c, a < c → c < l.length → ∀ k, hasB (pcE.at l a) k = true → hasB (pcE.at l c) k = true → False := by
    intro a c hac hc k h1 h2
    have h := hov a c hac hc
    have e1 := hasB_iff.1 h1
    have e2 := hasB_iff.1 h2
    unfold ovB at h
    rw [hid a (by omega), hid c hc, decide_eq_true rfl, Bool.true_and, decide_eq_false_iff_not] at h
    apply h
    split <;> split <;> omega
  intro p hp q hq k h1 h2
  obtain ⟨p', hp', rfl⟩ := List.mem_map.1 hp
  obtain ⟨q', hq', rfl⟩ := List.mem_map.1 hq
  have h1' : hasB p' k = true := h1
  have h2' : hasB q' k = true := h2
  obtain ⟨a, ha, rfl⟩ := List.getElem_of_mem hp'
  obtain ⟨c, hc, rfl⟩ := List.getElem_of_mem hq'
  have ea : pcE.at l a = l[a] := pcE.at_of (List.getElem?_eq_getElem ha)
  have ec : pcE.at l c = l[c] := pcE.at_of (List.getElem?_eq_getElem hc)
  rcases Nat.lt_trichotomy a c with h | h | h
  · exact (key a c h hc k (by rw [ea]; exact h1') (by rw [ec]; exact h2')).elim
  · subst h; rfl
  · exact (key c a h ha k (by rw [ec]; exact h2') (by rw [ea]; exact h1')).elim
theorem resB_nil (pol : Int) : (resB [] pol).2 = false := by
  simp [resB, toldM, allM]
theorem whole_run {l : List Pc} {pol : Int} (hok : ∀ p ∈ l, PcOk p) (he : (fragWhole l pol).2.2 = 0) : fragWhole l pol = refRun pol [] l ∧ l.any (notSame l) = false := by
  rw [whole_eq pol hok] at he ⊢
  unfold refWhole at he ⊢
  split at he
  · simp at he
  split at he
  · simp at he
  · rename_i h1 h2
    rw [if_neg h1, if_neg h2]
    exact ⟨rfl, by simpa using h2⟩
/-- The order does not matter. -/
theorem alike_eq {l l' : List Pc} {pol : Int} {e : Int} {ps : List (Nat × Nat)} (hok : ∀ p ∈ l, PcOk p) (hperm : l'.Perm l) (ho : e = 0 → (∀ p ∈ l, askedI p = 0) ∧ (ps = [] → ∀ a c, a < c → c < l.length → ovB (pcE.at l a) (pcE.at l c) = false)) (h0 : e = 0) (h1 : (fragWhole l pol).2.2 = 0) (h2 : (fragWhole l' pol).2.2 = 0) (h3 : ps = []) (h4 : (fragWhole l pol).2.1 ≠ 4) (h5 : (fragWhole l' pol).2.1 ≠ 4) (h6 : endsN l ≤ 1) : fragWhole l pol = fragWhole l' pol := by
  have hmem : ∀ p, p ∈ l' ↔ p ∈ l := fun p => hperm.mem_iff
  have hok' : ∀ p ∈ l', PcOk p := fun p hp => hok p ((hmem p).1 hp)
  obtain ⟨hask, hov⟩ := ho h0
  have hov := hov h3
  obtain ⟨w1, hany⟩ := whole_run hok h1
  obtain ⟨w2, _⟩ := whole_run hok' h2
  have hid : ∀ i, i < l.length → (pcE.at l i).id = (pcE.at l 0).id := by
    intro i hi
    have := List.any_eq_false.1 hany _ (pcE.at_mem hi)
    simpa [notSame] using this
  have hc := cons_of hid hov
  have he := ends_of h6
  have hm : ∀ p, p ∈ l'.map newP ↔ p ∈ l.map newP := fun p => (hperm.map newP).mem_iff
  have hc' : Cons (l'.map newP) := fun p hp q hq => hc p ((hm p).1 hp) q ((hm q).1 hq)
  have he' : Ends (l'.map newP) := fun p hp q hq => he p ((hm p).1 hp) q ((hm q).1 hq)
  rw [w1] at h4 ⊢
  rw [w2] at h5 ⊢
  rw [run_char pol l [] (by simpa using hc) (by simpa using he) (fun p hp => ⟨hask p hp, hok p hp⟩) (by simp) h4 (resB_nil pol)]
  rw [run_char pol l' [] (by simpa using hc') (by simpa using he') (fun p hp => ⟨hask p ((hmem p).1 hp), hok' p hp⟩) (by simp) h5 (resB_nil pol)]
  rw [List.nil_append, List.nil_append, resB_ext (pol := pol) hc he fun p => (hm p).symm]
set_option maxHeartbeats 2000000 in
theorem fn5 {b b2 : Bool} {l : List Pc} {order : List Int} (pol : Int) (hok : ∀ p ∈ l, PcOk p) (hlen : l.length ≤ 9223372036854775807) (H : Hp) : callL Try.prog pr 5 [slV b pcE l, .int .i64 pol, slV b2 inE order] H = some (.bool true, H) := by
  obtain ⟨ovr, h10⟩ := fn10 (b := b) hlen H
  have h11 := known_call
  refine run5 (Nat.le_of_ble_eq_true rfl) ?_
  by_cases hbig : ovr = true ∨ 250 < l.length ∨ 32768 < order.length
  · have hc : ovr = true ∨ (250 : Int) < l.length ∨ (32768 : Int) < order.length := by
      rcases hbig with h | h | h
      · exact .inl h
      · exact .inr (.inl (by omega))
      · exact .inr (.inr (by omega))
    rcases hc with hc | hc | hc
    · subst hc
      simp (disch := first | rfl | omega | exact byE_w | exact inE_w | exact boE_w | exact stE_w | exact pcE_w | exact celE_w | exact prE_w | exact lt_new _ | assumption | (simp only [List.length_append, List.length_singleton, List.length_set, List.length_take, List.length_drop, List.length_map]; done) | (simp only [List.length_append, List.length_singleton, List.length_set, List.length_take, List.length_drop, List.length_map]; omega)) only [r5_0, r5_1, r5_2, r5_3, r5_4, r5_5, r5_6, r5_7, r5_8, r5_9, r5_10, r5_11, r5_12, r5_13, r5_15, r5_16, r5_17, c5, rs5, gc5, h10, h11, ↓reduceIte, go_sem, Nat.add_zero, Nat.zero_add, Nat.sub_zero, List.drop_zero, Nat.reduceLT, Nat.reduceEqDiff, Nat.reduceAdd, Nat.reduceMul, Nat.reduceSub, Int.reduceAdd, Int.reduceSub, Nat.reduceLeDiff, Int.reduceLT, Int.reduceLE, Int.reduceEq, Int.reduceNeg, Int.reduceToNat, IntWalk.i64_in, Bool.or_self, Bool.or_false, Bool.or_true, Bool.and_false, Bool.and_true, Bool.false_or, Bool.true_or, Bool.false_eq_true, Bool.true_eq_false]
      repeat' ((first | refine guardB_dec (fun hy => ?_) (fun hy => ?_) | refine guardB_bool (fun hy => ?_) (fun hy => ?_) | refine guardQ_ite (fun hy => ?_) (fun hy => ?_) | refine brQ_dec (fun hy => ?_) (fun hy => ?_) | refine brQ_bool (fun hy => ?_) (fun hy => ?_)) <;> (try simp only [Bool.not_eq_true', Bool.not_eq_false', Bool.and_eq_true, Bool.or_eq_false_iff, decide_eq_true_eq, decide_eq_false_iff_not] at hy) <;> simp (disch := first | rfl | omega | exact byE_w | exact inE_w | exact boE_w | exact stE_w | exact pcE_w | exact celE_w | exact prE_w | exact lt_new _ | assumption | (simp only [List.length_append, List.length_singleton, List.length_set, List.length_take, List.length_drop, List.length_map]; done) | (simp only [List.length_append, List.length_singleton, List.length_set, List.length_take, List.length_drop, List.length_map]; omega)) only [r5_0, r5_1, r5_2, r5_3, r5_4, r5_5, r5_6, r5_7, r5_8, r5_9, r5_10, r5_11, r5_12, r5_13, r5_15, r5_16, r5_17, c5, rs5, gc5, h10, h11, ↓reduceIte, go_sem, Nat.add_zero, Nat.zero_add, Nat.sub_zero, List.drop_zero, Nat.reduceLT, Nat.reduceEqDiff, Nat.reduceAdd, Nat.reduceMul, Nat.reduceSub, Int.reduceAdd, Int.reduceSub, Nat.reduceLeDiff, Int.reduceLT, Int.reduceLE, Int.reduceEq, Int.reduceNeg, Int.reduceToNat, IntWalk.i64_in, Bool.or_self, Bool.or_false, Bool.or_true, Bool.and_false, Bool.and_true, Bool.false_or, Bool.true_or, Bool.false_eq_true, Bool.true_eq_false, hy])
      all_goals exact gcF_same rfl
    · cases ovr <;> simp (disch := first | rfl | omega | exact byE_w | exact inE_w | exact boE_w | exact stE_w | exact pcE_w | exact celE_w | exact prE_w | exact lt_new _ | assumption | (simp only [List.length_append, List.length_singleton, List.length_set, List.length_take, List.length_drop, List.length_map]; done) | (simp only [List.length_append, List.length_singleton, List.length_set, List.length_take, List.length_drop, List.length_map]; omega)) only [r5_0, r5_1, r5_2, r5_3, r5_4, r5_5, r5_6, r5_7, r5_8, r5_9, r5_10, r5_11, r5_12, r5_13, r5_15, r5_16, r5_17, c5, rs5, gc5, ↓reduceIte, go_sem, Nat.add_zero, Nat.zero_add, Nat.sub_zero, List.drop_zero, Nat.reduceLT, Nat.reduceEqDiff, Nat.reduceAdd, Nat.reduceMul, Nat.reduceSub, Int.reduceAdd, Int.reduceSub, Nat.reduceLeDiff, Int.reduceLT, Int.reduceLE, Int.reduceEq, Int.reduceNeg, Int.reduceToNat, IntWalk.i64_in, Bool.or_self, Bool.or_false, Bool.or_true, Bool.and_false, Bool.and_true, Bool.false_or, Bool.true_or, Bool.false_eq_true, Bool.true_eq_false, h10, h11, hc, decide_true]
      all_goals exact gcF_same rfl
    · cases ovr <;> by_cases h2 : (250 : Int) < l.length <;> simp (disch := first | rfl | omega | exact byE_w | exact inE_w | exact boE_w | exact stE_w | exact pcE_w | exact celE_w | exact prE_w | exact lt_new _ | assumption | (simp only [List.length_append, List.length_singleton, List.length_set, List.length_take, List.length_drop, List.length_map]; done) | (simp only [List.length_append, List.length_singleton, List.length_set, List.length_take, List.length_drop, List.length_map]; omega)) only [r5_0, r5_1, r5_2, r5_3, r5_4, r5_5, r5_6, r5_7, r5_8, r5_9, r5_10, r5_11, r5_12, r5_13, r5_15, r5_16, r5_17, c5, rs5, gc5, ↓reduceIte, go_sem, Nat.add_zero, Nat.zero_add, Nat.sub_zero, List.drop_zero, Nat.reduceLT, Nat.reduceEqDiff, Nat.reduceAdd, Nat.reduceMul, Nat.reduceSub, Int.reduceAdd, Int.reduceSub, Nat.reduceLeDiff, Int.reduceLT, Int.reduceLE, Int.reduceEq, Int.reduceNeg, Int.reduceToNat, IntWalk.i64_in, Bool.or_self, Bool.or_false, Bool.or_true, Bool.and_false, Bool.and_true, Bool.false_or, Bool.true_or, Bool.false_eq_true, Bool.true_eq_false, h10, h11, hc, h2, decide_true, decide_false]
      all_goals exact gcF_same rfl
  · have hl1 : l.length ≤ 250 := by omega
    have hl2 : order.length ≤ 32768 := by omega
    have hl1' : ¬ (250 : Int) < l.length := by omega
    have hl2' : ¬ (32768 : Int) < order.length := by omega
    have hovr : ovr = false := by
      cases ovr with
      | false => rfl
      | true => exact (hbig (.inl rfl)).elim
    subst hovr
    obtain ⟨e, ps, h14, ho⟩ := fn14 (b := b) hok (by omega) H
    obtain ⟨l', hperm, h17⟩ := fn17 (b := b) (b2 := b2) (l := l) (order := order) (by omega) (by omega) H
    have hok' : ∀ p ∈ l', PcOk p := fun p hp => hok p (hperm.mem_iff.1 hp)
    have hl3 : l'.length ≤ 800 := by have := hperm.length_eq; omega
    have h12 := fn12 (b := b) pol hok (by omega) H
    have h12' := fn12 (b := true) pol hok' hl3 H
    have key := alike_eq (pol := pol) hok hperm ho
    obtain ⟨r, hr⟩ : ∃ r, fragWhole l pol = r := ⟨_, rfl⟩
    obtain ⟨r', hr'⟩ : ∃ r, fragWhole l' pol = r := ⟨_, rfl⟩
    obtain ⟨o1, o2, o3⟩ := r
    obtain ⟨q1, q2, q3⟩ := r'
    rw [hr] at h12 key
    rw [hr'] at h12' key
    simp only [outV] at h12 h12'
    simp (disch := first | rfl | omega | exact byE_w | exact inE_w | exact boE_w | exact stE_w | exact pcE_w | exact celE_w | exact prE_w | exact lt_new _ | assumption | (simp only [List.length_append, List.length_singleton, List.length_set, List.length_take, List.length_drop, List.length_map]; done) | (simp only [List.length_append, List.length_singleton, List.length_set, List.length_take, List.length_drop, List.length_map]; omega)) only [r5_0, r5_1, r5_2, r5_3, r5_4, r5_5, r5_6, r5_7, r5_8, r5_9, r5_10, r5_11, r5_12, r5_13, r5_15, r5_16, r5_17, c5, rs5, gc5, h10, h11, h14, h17, h12, h12', hl1', hl2', decide_false, ↓reduceIte, go_sem, Nat.add_zero, Nat.zero_add, Nat.sub_zero, List.drop_zero, Nat.reduceLT, Nat.reduceEqDiff, Nat.reduceAdd, Nat.reduceMul, Nat.reduceSub, Int.reduceAdd, Int.reduceSub, Nat.reduceLeDiff, Int.reduceLT, Int.reduceLE, Int.reduceEq, Int.reduceNeg, Int.reduceToNat, IntWalk.i64_in, Bool.or_self, Bool.or_false, Bool.or_true, Bool.and_false, Bool.and_true, Bool.false_or, Bool.true_or, Bool.false_eq_true, Bool.true_eq_false]
    repeat' ((first | refine guardB_dec (fun hy => ?_) (fun hy => ?_) | refine guardB_bool (fun hy => ?_) (fun hy => ?_) | refine guardQ_ite (fun hy => ?_) (fun hy => ?_) | refine brQ_dec (fun hy => ?_) (fun hy => ?_) | refine brQ_bool (fun hy => ?_) (fun hy => ?_)) <;> (try simp only [Bool.not_eq_true', Bool.not_eq_false', Bool.and_eq_true, Bool.or_eq_false_iff, decide_eq_true_eq, decide_eq_false_iff_not] at hy) <;> simp (disch := first | rfl | omega | exact byE_w | exact inE_w | exact boE_w | exact stE_w | exact pcE_w | exact celE_w | exact prE_w | exact lt_new _ | assumption | (simp only [List.length_append, List.length_singleton, List.length_set, List.length_take, List.length_drop, List.length_map]; done) | (simp only [List.length_append, List.length_singleton, List.length_set, List.length_take, List.length_drop, List.length_map]; omega)) only [r5_0, r5_1, r5_2, r5_3, r5_4, r5_5, r5_6, r5_7, r5_8, r5_9, r5_10, r5_11, r5_12, r5_13, r5_15, r5_16, r5_17, c5, rs5, gc5, h10, h11, h14, h17, h12, h12', hl1', hl2', decide_false, ↓reduceIte, go_sem, Nat.add_zero, Nat.zero_add, Nat.sub_zero, List.drop_zero, Nat.reduceLT, Nat.reduceEqDiff, Nat.reduceAdd, Nat.reduceMul, Nat.reduceSub, Int.reduceAdd, Int.reduceSub, Nat.reduceLeDiff, Int.reduceLT, Int.reduceLE, Int.reduceEq, Int.reduceNeg, Int.reduceToNat, IntWalk.i64_in, Bool.or_self, Bool.or_false, Bool.or_true, Bool.and_false, Bool.and_true, Bool.false_or, Bool.true_or, Bool.false_eq_true, Bool.true_eq_false, hy])
    all_goals (try exact gcF_same rfl)
    have hps : ps = [] := List.eq_nil_of_length_eq_zero (by omega)
    refine Wp_loop (fun m T D H' => ∃ i, m = l.length - i ∧ i ≤ l.length ∧ D = [] ∧ H' = H ∧ get T 0 = slV b pcE l ∧ get T 9 = slV true byE o1 ∧ get T 10 = .int .i64 o2 ∧ get T 12 = slV true byE q1 ∧ get T 13 = .int .i64 q2 ∧ get T 15 = .int .i64 (endsN (l.take i)) ∧ get T 16 = .int .i64 i) ?_ l.length _ _ _ ?_
    · rintro m T D H' ⟨i, rfl, hi, rfl, rfl, t0, t9, t10, t12, t13, t15, t16⟩
      by_cases hlt : i < l.length
      · have hlt' : (i : Int) < l.length := by omega
        have hnx := endsN_next hlt
        have hle := endsN_le (l.take i)
        rw [List.length_take] at hle
        simp (disch := first | rfl | omega | exact byE_w | exact inE_w | exact boE_w | exact stE_w | exact pcE_w | exact celE_w | exact prE_w | exact lt_new _ | assumption | (simp only [List.length_append, List.length_singleton, List.length_set, List.length_take, List.length_drop, List.length_map]; done) | (simp only [List.length_append, List.length_singleton, List.length_set, List.length_take, List.length_drop, List.length_map]; omega)) only [l5_14, r5_10, r5_11, r5_12, r5_13, t0, t9, t10, t12, t13, t15, t16, hlt', decide_true, ldP2 hlt, ↓reduceIte, go_sem, Nat.add_zero, Nat.zero_add, Nat.sub_zero, List.drop_zero, Nat.reduceLT, Nat.reduceEqDiff, Nat.reduceAdd, Nat.reduceMul, Nat.reduceSub, Int.reduceAdd, Int.reduceSub, Nat.reduceLeDiff, Int.reduceLT, Int.reduceLE, Int.reduceEq, Int.reduceNeg, Int.reduceToNat, IntWalk.i64_in, Bool.or_self, Bool.or_false, Bool.or_true, Bool.and_false, Bool.and_true, Bool.false_or, Bool.true_or, Bool.false_eq_true, Bool.true_eq_false]
        repeat' ((first | refine guardB_dec (fun hy => ?_) (fun hy => ?_) | refine guardB_bool (fun hy => ?_) (fun hy => ?_) | refine guardQ_ite (fun hy => ?_) (fun hy => ?_) | refine brQ_dec (fun hy => ?_) (fun hy => ?_) | refine brQ_bool (fun hy => ?_) (fun hy => ?_)) <;> (try simp only [Bool.not_eq_true', Bool.not_eq_false', Bool.and_eq_true, Bool.or_eq_false_iff, decide_eq_true_eq, decide_eq_false_iff_not] at hy) <;> simp (disch := first | rfl | omega | exact byE_w | exact inE_w | exact boE_w | exact stE_w | exact pcE_w | exact celE_w | exact prE_w | exact lt_new _ | assumption | (simp only [List.length_append, List.length_singleton, List.length_set, List.length_take, List.length_drop, List.length_map]; done) | (simp only [List.length_append, List.length_singleton, List.length_set, List.length_take, List.length_drop, List.length_map]; omega)) only [l5_14, r5_10, r5_11, r5_12, r5_13, t0, t9, t10, t12, t13, t15, t16, hlt', decide_true, ldP2 hlt, ↓reduceIte, go_sem, Nat.add_zero, Nat.zero_add, Nat.sub_zero, List.drop_zero, Nat.reduceLT, Nat.reduceEqDiff, Nat.reduceAdd, Nat.reduceMul, Nat.reduceSub, Int.reduceAdd, Int.reduceSub, Nat.reduceLeDiff, Int.reduceLT, Int.reduceLE, Int.reduceEq, Int.reduceNeg, Int.reduceToNat, IntWalk.i64_in, Bool.or_self, Bool.or_false, Bool.or_true, Bool.and_false, Bool.and_true, Bool.false_or, Bool.true_or, Bool.false_eq_true, Bool.true_eq_false, hy])
        · rw [if_neg (by simp [hy])] at hnx
          exact ⟨_, by omega, i + 1, rfl, hlt, by rw [hnx]; rfl, rfl⟩
        · rw [if_pos (by simpa using hy)] at hnx
          exact ⟨_, by omega, i + 1, rfl, hlt, by rw [hnx]; rfl, rfl⟩
      · obtain rfl : i = l.length := by omega
        rw [List.take_length] at t15
        simp (disch := first | rfl | omega | exact byE_w | exact inE_w | exact boE_w | exact stE_w | exact pcE_w | exact celE_w | exact prE_w | exact lt_new _ | assumption | (simp only [List.length_append, List.length_singleton, List.length_set, List.length_take, List.length_drop, List.length_map]; done) | (simp only [List.length_append, List.length_singleton, List.length_set, List.length_take, List.length_drop, List.length_map]; omega)) only [l5_14, r5_10, r5_15, r5_16, r5_17, rs5, gc5, t0, t9, t10, t12, t13, t15, t16, Int.lt_irrefl, decide_false, h11, ↓reduceIte, go_sem, Nat.add_zero, Nat.zero_add, Nat.sub_zero, List.drop_zero, Nat.reduceLT, Nat.reduceEqDiff, Nat.reduceAdd, Nat.reduceMul, Nat.reduceSub, Int.reduceAdd, Int.reduceSub, Nat.reduceLeDiff, Int.reduceLT, Int.reduceLE, Int.reduceEq, Int.reduceNeg, Int.reduceToNat, IntWalk.i64_in, Bool.or_self, Bool.or_false, Bool.or_true, Bool.and_false, Bool.and_true, Bool.false_or, Bool.true_or, Bool.false_eq_true, Bool.true_eq_false]
        repeat' ((first | refine guardB_dec (fun hy => ?_) (fun hy => ?_) | refine guardB_bool (fun hy => ?_) (fun hy => ?_) | refine guardQ_ite (fun hy => ?_) (fun hy => ?_) | refine brQ_dec (fun hy => ?_) (fun hy => ?_) | refine brQ_bool (fun hy => ?_) (fun hy => ?_)) <;> (try simp only [Bool.not_eq_true', Bool.not_eq_false', Bool.and_eq_true, Bool.or_eq_false_iff, decide_eq_true_eq, decide_eq_false_iff_not] at hy) <;> simp (disch := first | rfl | omega | exact byE_w | exact inE_w | exact boE_w | exact stE_w | exact pcE_w | exact celE_w | exact prE_w | exact lt_new _ | assumption | (simp only [List.length_append, List.length_singleton, List.length_set, List.length_take, List.length_drop, List.length_map]; done) | (simp only [List.length_append, List.length_singleton, List.length_set, List.length_take, List.length_drop, List.length_map]; omega)) only [l5_14, r5_10, r5_15, r5_16, r5_17, rs5, gc5, t0, t9, t10, t12, t13, t15, t16, Int.lt_irrefl, decide_false, h11, ↓reduceIte, go_sem, Nat.add_zero, Nat.zero_add, Nat.sub_zero, List.drop_zero, Nat.reduceLT, Nat.reduceEqDiff, Nat.reduceAdd, Nat.reduceMul, Nat.reduceSub, Int.reduceAdd, Int.reduceSub, Nat.reduceLeDiff, Int.reduceLT, Int.reduceLE, Int.reduceEq, Int.reduceNeg, Int.reduceToNat, IntWalk.i64_in, Bool.or_self, Bool.or_false, Bool.or_true, Bool.and_false, Bool.and_true, Bool.false_or, Bool.true_or, Bool.false_eq_true, Bool.true_eq_false, hy])
        all_goals (try exact gcF_same rfl)
        all_goals
          have hk := key (by assumption) (by show o3 = 0; assumption) (by show q3 = 0; assumption) hps (by show o2 ≠ 4; assumption) (by show q2 ≠ 4; assumption) (by omega)
          injection hk with k1 k2
          injection k2 with k2 k3
        · subst k2
          exact gcF_same (by simp [go_sem])
        · exact absurd k1 (by assumption)
    · exact ⟨0, by simp [go_sem, endsN]⟩
end Go.Proofs.Ytdpdlobaabcjjab
