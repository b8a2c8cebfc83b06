/-
  Texts of this seat, laid together. No statement of the seat stands here.
-/
import Derived.Test.YtdpdlobaabcjjabP6
/-
  That the pieces of bytes make the bytes, in any order, some of them twice. No statement of the seat stands here.
-/
namespace Go.Proofs.Ytdpdlobaabcjjab
open Go Go.An
set_option maxRecDepth 4000
set_option linter.unusedSimpArgs false
set_option linter.unusedVariables false

def EndOk (n : Nat) (q : Pc) : Prop := pcEnd q ≤ n ∧ (q.more = false → pcEnd q = n)
theorem told_two {n : Nat} {ls : List Pc} (h : ∀ q ∈ ls, EndOk n q) : toldM ls = -1 ∨ toldM ls = n := by
  induction ls with
  | nil => exact .inl rfl
  | cons q ls ih =>
    unfold toldM
    split
    · exact ih fun x hx => h x (by simp [hx])
    · rename_i hm
      exact .inr ((h q (by simp)).2 (by simpa using hm))
theorem beh_le {n : Nat} {ls : List Pc} (h : ∀ q ∈ ls, EndOk n q) : behM ls ≤ n := by
  have : ∀ (l : List Pc) (m : Int), m ≤ n → (∀ q ∈ l, EndOk n q) → l.foldl behStep m ≤ n := by
    intro l
    induction l with
    | nil => intro m hm _; exact hm
    | cons q l ih =>
      intro m hm hq
      rw [List.foldl_cons]
      refine ih _ ?_ fun x hx => hq x (by simp [hx])
      have := (hq q (by simp)).1
      unfold behStep
      split
      · split <;> omega
      · exact hm
  exact this ls 0 (by omega) h
theorem str_no {n : Nat} {ls : List Pc} {p : Pc} (h : ∀ q ∈ ls, EndOk n q) (hp : EndOk n p) : strM ls p = false := by
  have h1 := told_two h
  have h2 := beh_le h
  obtain ⟨h3, h4⟩ := hp
  unfold strM
  cases hm : p.more with
  | true =>
    simp only [Bool.not_true, Bool.false_and, Bool.or_false]
    rw [← Bool.not_eq_true]
    intro hc
    simp only [Bool.and_eq_true, decide_eq_true_eq] at hc
    omega
  | false =>
    have h5 := h4 hm
    rw [← Bool.not_eq_true]
    intro hc
    simp only [Bool.not_false, Bool.true_and, Bool.or_eq_true, Bool.and_eq_true, decide_eq_true_eq, ne_eq] at hc
    omega
theorem no_four {B : List UInt8} {pol : Int} : ∀ (ps ls : List Pc), (∀ p ∈ ps, Part B p) → (∀ q ∈ ls, EndOk B.length q) → (refRun pol ls ps).2.1 ≠ 4
  | [], ls, _, _ => by show (0 : Int) ≠ 4; omega
  | p :: ps, ls, hp, hl => by
    have hpp := hp p (by simp)
    have hps : ∀ q ∈ ps, Part B q := fun q hq => hp q (by simp [hq])
    have hep : EndOk B.length p := ⟨hpp.hi, hpp.fin⟩
    have hs := str_no hl hep
    rw [refRun_cons]
    obtain ⟨o, ho⟩ : ∃ o, refStep pol ls p = o := ⟨_, rfl⟩
    rw [ho]
    unfold refStep at ho
    rw [if_neg (by simp [hpp.ask])] at ho
    by_cases hno : nothB p = true
    · rw [if_pos hno] at ho
      subst ho
      rw [if_neg (by simp), if_neg (by simp)]
      exact no_four ps ls hps hl
    · rw [if_neg hno, if_neg (by rw [hs]; simp)] at ho
      by_cases h1 : (decide (pol = 3) && dfM ls pol p p.data.length) = true
      · rw [if_pos h1] at ho
        subst ho
        rw [if_neg (by simp), if_pos (by simp)]
        show (3 : Int) ≠ 4; omega
      · rw [if_neg h1] at ho
        by_cases h2 : (resB (ls ++ [newP p]) pol).2 = true
        · rw [if_pos h2] at ho
          subst ho
          rw [if_neg (by simp), if_pos (by simp)]
          show (1 : Int) ≠ 4; omega
        · rw [if_neg h2] at ho
          subst ho
          rw [if_neg (by simp), if_neg (by simp only []; split <;> omega)]
          refine no_four ps (ls ++ [newP p]) hps fun q hq => ?_
          rcases List.mem_append.1 hq with hq | hq
          · exact hl q hq
          · rw [List.mem_singleton.1 hq]; exact hep
/-- Any list of pieces of the bytes that has each byte and the end makes the bytes. -/
theorem makes {B : List UInt8} {pol : Int} {l : List Pc} (hpol : 0 ≤ pol ∧ pol ≤ 3) (hp : ∀ p ∈ l, Part B p) (hc : ∀ k : Nat, k < B.length → ∃ p ∈ l, hasB p k = true) (he : ∃ p ∈ l, p.more = false) : fragWhole l pol = (B, 1, 0) := by
  have hok : ∀ p ∈ l, PcOk p := fun p h => (hp p h).ok
  rw [whole_eq pol hok]
  unfold refWhole
  have hany : l.any (notSame l) = false := by
    rw [List.any_eq_false]
    intro p h
    have h0 : 0 < l.length := by
      cases l with
      | nil => cases h
      | cons => simp
    unfold notSame
    rw [(hp p h).id, (hp _ (pcE.at_mem h0)).id]
    simp
  rw [if_neg (by omega), hany, if_neg (by simp)]
  have hcons : Cons (l.map newP) := by
    intro p h q h' k h1 h2
    obtain ⟨p', hp', rfl⟩ := List.mem_map.1 h
    obtain ⟨q', hq', rfl⟩ := List.mem_map.1 h'
    have e1 := ((hp p' hp').byt k h1).2.2
    have e2 := ((hp q' hq').byt k h2).2.2
    show atV p' k = atV q' k
    rw [e1, e2]
  have hends : Ends (l.map newP) := by
    intro p h q h' h1 h2
    obtain ⟨p', hp', rfl⟩ := List.mem_map.1 h
    obtain ⟨q', hq', rfl⟩ := List.mem_map.1 h'
    show pcEnd p' = pcEnd q'
    rw [(hp p' hp').fin h1, (hp q' hq').fin h2]
  rw [run_char pol l [] (by simpa using hcons) (by simpa using hends) (fun p h => ⟨(hp p h).ask, (hp p h).ok⟩) (by simp) (no_four l [] hp (by simp)) (by simp [resB, toldM, allM])]
  rw [List.nil_append]
  obtain ⟨x, hx, hxm⟩ := he
  have htold : toldM (l.map newP) = B.length := by
    rw [told_mem hends (p := newP x) (List.mem_map.2 ⟨x, hx, rfl⟩) hxm]
    exact (hp x hx).fin hxm
  have hat : ∀ k : Nat, k < B.length → atB (l.map newP) pol k = some (byE.at B k) := by
    intro k hk
    obtain ⟨p, h1, h2⟩ := hc k hk
    rw [atB_mem hcons pol (p := newP p) (List.mem_map.2 ⟨p, h1, rfl⟩) h2]
    have := ((hp p h1).byt k h2).2.2
    show some (atV p k) = _
    rw [this]; rfl
  have hres : resB (l.map newP) pol = (B, true) := by
    unfold resB
    rw [htold]
    show (if allM (l.map newP) pol (B.length : Int).toNat = true then _ else _) = _
    rw [Int.toNat_natCast]
    have hall : allM (l.map newP) pol B.length = true := by
      unfold allM
      rw [List.all_eq_true]
      intro k hk
      rw [hat k (List.mem_range.1 hk)]; rfl
    rw [if_pos hall, decide_eq_true (by omega)]
    congr 1
    apply List.ext_getElem?
    intro k
    unfold bytM
    rw [List.getElem?_map]
    by_cases hk : k < B.length
    · rw [List.getElem?_range hk, byE.at_some hk]
      simp only [Option.map_some]
      rw [hat k hk]; rfl
    · rw [List.getElem?_eq_none (by simp; omega), List.getElem?_eq_none (by omega)]; rfl
  rw [hres, if_pos rfl]
end Go.Proofs.Ytdpdlobaabcjjab
/-
  That the pieces into which bytes are cut make the bytes in any order: the statement's function, walked. No statement of the seat stands here.
-/
namespace Go.Proofs.Ytdpdlobaabcjjab
open Go Go.An
set_option maxRecDepth 4000
set_option linter.unusedSimpArgs false
set_option linter.unusedVariables false

set_option maxHeartbeats 2000000 in
theorem fn7 {b b2 : Bool} {B : List UInt8} {order : List Int} (zI : Int) (hB : B.length ≤ 140737488355328) (hzI : Inx zI) (H : Hp) : callL Try.prog pr 7 [slV b byE B, .int .i64 zI, slV b2 inE order] H = some (.bool true, H) := by
  have h11 := known_call
  refine run7 (Nat.le_of_ble_eq_true rfl) ?_
  by_cases hbig : (32768 : Int) < B.length ∨ (32768 : Int) < order.length
  · by_cases h1 : (32768 : Int) < B.length
    · skip
      simp (disch := first | rfl | omega | exact byE_w | exact inE_w | exact boE_w | exact stE_w | exact pcE_w | exact celE_w | exact lt_new _ | assumption | (simp only [List.length_append, List.length_singleton, List.length_set, List.length_take, List.length_drop, List.length_map]; done) | (simp only [List.length_append, List.length_singleton, List.length_set, List.length_take, List.length_drop, List.length_map]; omega)) only [r7_0, r7_1, r7_2, r7_3, r7_4, r7_5, r7_6, r7_7, r7_8, r7_9, r7_10, r7_11, r7_12, r7_13, r7_14, r7_15, r7_16, r7_18, c7, rs7, gc7, h11, h1, decide_true, ↓reduceIte, go_sem, Nat.add_zero, Nat.zero_add, Nat.sub_zero, List.drop_zero, Nat.reduceLT, Nat.reduceEqDiff, Nat.reduceAdd, Nat.reduceMul, Nat.reduceSub, Int.reduceAdd, Int.reduceSub, Nat.reduceLeDiff, Int.reduceLT, Int.reduceLE, Int.reduceEq, Int.reduceNeg, Int.reduceToNat, IntWalk.i64_in, Bool.or_self, Bool.or_false, Bool.or_true, Bool.and_false, Bool.and_true, Bool.false_or, Bool.true_or, Bool.false_eq_true, Bool.true_eq_false]
      repeat' ((first | refine guardB_dec (fun hy => ?_) (fun hy => ?_) | refine guardB_bool (fun hy => ?_) (fun hy => ?_) | refine guardQ_ite (fun hy => ?_) (fun hy => ?_) | refine brQ_dec (fun hy => ?_) (fun hy => ?_) | refine brQ_bool (fun hy => ?_) (fun hy => ?_)) <;> (try simp only [Bool.not_eq_true', Bool.not_eq_false', Bool.and_eq_true, Bool.or_eq_false_iff, decide_eq_true_eq, decide_eq_false_iff_not] at hy) <;> simp (disch := first | rfl | omega | exact byE_w | exact inE_w | exact boE_w | exact stE_w | exact pcE_w | exact celE_w | exact lt_new _ | assumption | (simp only [List.length_append, List.length_singleton, List.length_set, List.length_take, List.length_drop, List.length_map]; done) | (simp only [List.length_append, List.length_singleton, List.length_set, List.length_take, List.length_drop, List.length_map]; omega)) only [r7_0, r7_1, r7_2, r7_3, r7_4, r7_5, r7_6, r7_7, r7_8, r7_9, r7_10, r7_11, r7_12, r7_13, r7_14, r7_15, r7_16, r7_18, c7, rs7, gc7, h11, h1, decide_true, ↓reduceIte, go_sem, Nat.add_zero, Nat.zero_add, Nat.sub_zero, List.drop_zero, Nat.reduceLT, Nat.reduceEqDiff, Nat.reduceAdd, Nat.reduceMul, Nat.reduceSub, Int.reduceAdd, Int.reduceSub, Nat.reduceLeDiff, Int.reduceLT, Int.reduceLE, Int.reduceEq, Int.reduceNeg, Int.reduceToNat, IntWalk.i64_in, Bool.or_self, Bool.or_false, Bool.or_true, Bool.and_false, Bool.and_true, Bool.false_or, Bool.true_or, Bool.false_eq_true, Bool.true_eq_false, hy])
      exact gcF_same rfl
    · have h2 : (32768 : Int) < order.length := by omega
      simp (disch := first | rfl | omega | exact byE_w | exact inE_w | exact boE_w | exact stE_w | exact pcE_w | exact celE_w | exact lt_new _ | assumption | (simp only [List.length_append, List.length_singleton, List.length_set, List.length_take, List.length_drop, List.length_map]; done) | (simp only [List.length_append, List.length_singleton, List.length_set, List.length_take, List.length_drop, List.length_map]; omega)) only [r7_0, r7_1, r7_2, r7_3, r7_4, r7_5, r7_6, r7_7, r7_8, r7_9, r7_10, r7_11, r7_12, r7_13, r7_14, r7_15, r7_16, r7_18, c7, rs7, gc7, h11, h1, h2, decide_true, decide_false, ↓reduceIte, go_sem, Nat.add_zero, Nat.zero_add, Nat.sub_zero, List.drop_zero, Nat.reduceLT, Nat.reduceEqDiff, Nat.reduceAdd, Nat.reduceMul, Nat.reduceSub, Int.reduceAdd, Int.reduceSub, Nat.reduceLeDiff, Int.reduceLT, Int.reduceLE, Int.reduceEq, Int.reduceNeg, Int.reduceToNat, IntWalk.i64_in, Bool.or_self, Bool.or_false, Bool.or_true, Bool.and_false, Bool.and_true, Bool.false_or, Bool.true_or, Bool.false_eq_true, Bool.true_eq_false]
      repeat' ((first | refine guardB_dec (fun hy => ?_) (fun hy => ?_) | refine guardB_bool (fun hy => ?_) (fun hy => ?_) | refine guardQ_ite (fun hy => ?_) (fun hy => ?_) | refine brQ_dec (fun hy => ?_) (fun hy => ?_) | refine brQ_bool (fun hy => ?_) (fun hy => ?_)) <;> (try simp only [Bool.not_eq_true', Bool.not_eq_false', Bool.and_eq_true, Bool.or_eq_false_iff, decide_eq_true_eq, decide_eq_false_iff_not] at hy) <;> simp (disch := first | rfl | omega | exact byE_w | exact inE_w | exact boE_w | exact stE_w | exact pcE_w | exact celE_w | exact lt_new _ | assumption | (simp only [List.length_append, List.length_singleton, List.length_set, List.length_take, List.length_drop, List.length_map]; done) | (simp only [List.length_append, List.length_singleton, List.length_set, List.length_take, List.length_drop, List.length_map]; omega)) only [r7_0, r7_1, r7_2, r7_3, r7_4, r7_5, r7_6, r7_7, r7_8, r7_9, r7_10, r7_11, r7_12, r7_13, r7_14, r7_15, r7_16, r7_18, c7, rs7, gc7, h11, h1, h2, decide_true, decide_false, ↓reduceIte, go_sem, Nat.add_zero, Nat.zero_add, Nat.sub_zero, List.drop_zero, Nat.reduceLT, Nat.reduceEqDiff, Nat.reduceAdd, Nat.reduceMul, Nat.reduceSub, Int.reduceAdd, Int.reduceSub, Nat.reduceLeDiff, Int.reduceLT, Int.reduceLE, Int.reduceEq, Int.reduceNeg, Int.reduceToNat, IntWalk.i64_in, Bool.or_self, Bool.or_false, Bool.or_true, Bool.and_false, Bool.and_true, Bool.false_or, Bool.true_or, Bool.false_eq_true, Bool.true_eq_false, hy])
      exact gcF_same rfl
  · have h1 : ¬ (32768 : Int) < B.length := by omega
    have h2 : ¬ (32768 : Int) < order.length := by omega
    obtain ⟨e, ps, h18, hparts⟩ := fn18 (b := b) (B := B) zI hB hzI H
    by_cases he : e = 0
    · subst he
      have hP := hparts rfl
      obtain ⟨k, hperm, h17⟩ := fn17 (b := true) (b2 := b2) (l := ps) (order := order) (by have := hP.num; omega) (by omega) H
      have hpl : k.length = ps.length := hperm.length_eq
      have hnum := hP.num
      have hps0 : 0 < ps.length := by
        obtain ⟨x, hx, _⟩ := hP.fin
        cases ps with
        | nil => cases hx
        | cons => simp
      have hps1 : ¬ (ps.length : Int) = 0 := by omega
      have hkm : ∀ p, p ∈ k ↔ p ∈ ps := fun p => hperm.mem_iff
      obtain ⟨n2, hn2⟩ : ∃ n2 : Nat, (ps.length : Int).tdiv 2 = n2 ∧ n2 ≤ ps.length := ⟨ps.length / 2, rfl, Nat.div_le_self _ _⟩
      obtain ⟨tw, htw⟩ : ∃ tw, k.take n2 ++ k = tw := ⟨_, rfl⟩
      have htm : ∀ p, p ∈ tw ↔ p ∈ ps := fun p => by
        rw [← htw, List.mem_append]
        constructor
        · rintro (h | h)
          · exact (hkm p).1 (List.mem_of_mem_take h)
          · exact (hkm p).1 h
        · intro h; exact .inr ((hkm p).2 h)
      have htl : tw.length ≤ 402 ∧ 0 < tw.length := by rw [← htw, List.length_append, List.length_take]; omega
      have mk1 : ∀ pol : Int, 0 ≤ pol ∧ pol ≤ 3 → fragWhole k pol = (B, 1, 0) := fun pol hp => makes hp (fun p h => hP.each p ((hkm p).1 h)) (fun j hj => by obtain ⟨p, h1, h2⟩ := hP.cov j hj; exact ⟨p, (hkm p).2 h1, h2⟩) (by obtain ⟨p, h1, h2⟩ := hP.fin; exact ⟨p, (hkm p).2 h1, h2⟩)
      have mk2 : ∀ pol : Int, 0 ≤ pol ∧ pol ≤ 3 → fragWhole tw pol = (B, 1, 0) := fun pol hp => makes hp (fun p h => hP.each p ((htm p).1 h)) (fun j hj => by obtain ⟨p, h1, h2⟩ := hP.cov j hj; exact ⟨p, (htm p).2 h1, h2⟩) (by obtain ⟨p, h1, h2⟩ := hP.fin; exact ⟨p, (htm p).2 h1, h2⟩)
      have hok1 : ∀ p ∈ k, PcOk p := fun p h => (hP.each p ((hkm p).1 h)).ok
      have hok2 : ∀ p ∈ tw, PcOk p := fun p h => (hP.each p ((htm p).1 h)).ok
      have hct : sliceV Try.prog 22 H (slV true pcE k) (some (.int .i64 0)) (some (.int .i64 n2)) = some (slV (true && decide (k.length = 0)) pcE (k.take n2)) := by
        have := ct22 (H := H) (E := pcE) (l := k) (b := true) (k := .i64) (k' := .i64) (lo := 0) (hi := n2) rfl (by have := hn2.2; omega)
        simpa using this
      have hn2b := hn2.2
      simp (disch := first | rfl | omega | exact byE_w | exact inE_w | exact boE_w | exact stE_w | exact pcE_w | exact celE_w | exact lt_new _ | assumption | (simp only [List.length_append, List.length_singleton, List.length_set, List.length_take, List.length_drop, List.length_map]; done) | (simp only [List.length_append, List.length_singleton, List.length_set, List.length_take, List.length_drop, List.length_map]; omega)) only [r7_0, r7_1, r7_2, r7_3, r7_4, r7_5, r7_6, r7_7, r7_8, r7_9, r7_10, r7_11, r7_12, r7_13, r7_14, r7_15, r7_16, r7_18, c7, rs7, gc7, h11, h1, h2, h18, h17, hps1, hpl, hn2.1, hct, decide_true, decide_false, htw, loadV_ptr, storeV_ptr, getRow_app', getRow_setS, getRow_setO, getRow_lastN, set_lastN, set_app, List.set_set, bl_nil, bl_all, getRow_bl, set_bl, ↓reduceIte, go_sem, Nat.add_zero, Nat.zero_add, Nat.sub_zero, List.drop_zero, Nat.reduceLT, Nat.reduceEqDiff, Nat.reduceAdd, Nat.reduceMul, Nat.reduceSub, Int.reduceAdd, Int.reduceSub, Nat.reduceLeDiff, Int.reduceLT, Int.reduceLE, Int.reduceEq, Int.reduceNeg, Int.reduceToNat, IntWalk.i64_in, Bool.or_self, Bool.or_false, Bool.or_true, Bool.and_false, Bool.and_true, Bool.false_or, Bool.true_or, Bool.false_eq_true, Bool.true_eq_false]
      repeat' ((first | refine guardB_dec (fun hy => ?_) (fun hy => ?_) | refine guardB_bool (fun hy => ?_) (fun hy => ?_) | refine guardQ_ite (fun hy => ?_) (fun hy => ?_) | refine brQ_dec (fun hy => ?_) (fun hy => ?_) | refine brQ_bool (fun hy => ?_) (fun hy => ?_)) <;> (try simp only [Bool.not_eq_true', Bool.not_eq_false', Bool.and_eq_true, Bool.or_eq_false_iff, decide_eq_true_eq, decide_eq_false_iff_not] at hy) <;> simp (disch := first | rfl | omega | exact byE_w | exact inE_w | exact boE_w | exact stE_w | exact pcE_w | exact celE_w | exact lt_new _ | assumption | (simp only [List.length_append, List.length_singleton, List.length_set, List.length_take, List.length_drop, List.length_map]; done) | (simp only [List.length_append, List.length_singleton, List.length_set, List.length_take, List.length_drop, List.length_map]; omega)) only [r7_0, r7_1, r7_2, r7_3, r7_4, r7_5, r7_6, r7_7, r7_8, r7_9, r7_10, r7_11, r7_12, r7_13, r7_14, r7_15, r7_16, r7_18, c7, rs7, gc7, h11, h1, h2, h18, h17, hps1, hpl, hn2.1, hct, decide_true, decide_false, htw, loadV_ptr, storeV_ptr, getRow_app', getRow_setS, getRow_setO, getRow_lastN, set_lastN, set_app, List.set_set, bl_nil, bl_all, getRow_bl, set_bl, ↓reduceIte, go_sem, Nat.add_zero, Nat.zero_add, Nat.sub_zero, List.drop_zero, Nat.reduceLT, Nat.reduceEqDiff, Nat.reduceAdd, Nat.reduceMul, Nat.reduceSub, Int.reduceAdd, Int.reduceSub, Nat.reduceLeDiff, Int.reduceLT, Int.reduceLE, Int.reduceEq, Int.reduceNeg, Int.reduceToNat, IntWalk.i64_in, Bool.or_self, Bool.or_false, Bool.or_true, Bool.and_false, Bool.and_true, Bool.false_or, Bool.true_or, Bool.false_eq_true, Bool.true_eq_false, hy])
      generalize (if k = [] then 0 else blG 0 (List.map pcE.f (List.take n2 k))) = g
      have hlst : LstE pcE (H ++ blH g (tw.map pcE.f)) (blV H.length g 5 (tw.map pcE.f)) tw := LstE.bl rfl rfl htl.2
      refine Wp_loop (fun m T D H' => ∃ pol : Nat, m = 4 - pol ∧ pol ≤ 4 ∧ D = [] ∧ H' = H ++ blH g (tw.map pcE.f) ∧ get T 0 = slV b byE B ∧ get T 9 = slV true pcE k ∧ get T 10 = blV H.length g 5 (tw.map pcE.f) ∧ get T 11 = .int .i64 pol) ?_ 4 _ _ _ ?_
      · rintro m T D H' ⟨pol, rfl, hpol, rfl, rfl, t0, t9, t10, t11⟩
        by_cases hlt : pol < 4
        · have hlt' : (pol : Int) ≤ 3 := by omega
          have r1 := fn12 (b := true) (pol : Int) hok1 (by omega) (H ++ blH g (tw.map pcE.f))
          have r2 := fn12L hlst (pol : Int) hok2 (by omega)
          rw [mk1 pol (by omega)] at r1
          rw [mk2 pol (by omega)] at r2
          simp only [outV] at r1 r2
          simp (disch := first | rfl | omega | exact byE_w | exact inE_w | exact boE_w | exact stE_w | exact pcE_w | exact celE_w | exact lt_new _ | assumption | (simp only [List.length_append, List.length_singleton, List.length_set, List.length_take, List.length_drop, List.length_map]; done) | (simp only [List.length_append, List.length_singleton, List.length_set, List.length_take, List.length_drop, List.length_map]; omega)) only [l7_17, r7_11, r7_12, r7_13, r7_14, r7_15, r7_16, ↓reduceIte, go_sem, Nat.add_zero, Nat.zero_add, Nat.sub_zero, List.drop_zero, Nat.reduceLT, Nat.reduceEqDiff, Nat.reduceAdd, Nat.reduceMul, Nat.reduceSub, Int.reduceAdd, Int.reduceSub, Nat.reduceLeDiff, Int.reduceLT, Int.reduceLE, Int.reduceEq, Int.reduceNeg, Int.reduceToNat, IntWalk.i64_in, Bool.or_self, Bool.or_false, Bool.or_true, Bool.and_false, Bool.and_true, Bool.false_or, Bool.true_or, Bool.false_eq_true, Bool.true_eq_false, t0, t9, t10, t11, hlt', decide_true, r1, r2, ne_eq, not_true_eq_false, decide_false]
          exact ⟨_, by omega, pol + 1, rfl, by omega, rfl⟩
        · obtain rfl : pol = 4 := by omega
          simp (disch := first | rfl | omega | exact byE_w | exact inE_w | exact boE_w | exact stE_w | exact pcE_w | exact celE_w | exact lt_new _ | assumption | (simp only [List.length_append, List.length_singleton, List.length_set, List.length_take, List.length_drop, List.length_map]; done) | (simp only [List.length_append, List.length_singleton, List.length_set, List.length_take, List.length_drop, List.length_map]; omega)) only [l7_17, r7_11, r7_18, rs7, gc7, ↓reduceIte, go_sem, Nat.add_zero, Nat.zero_add, Nat.sub_zero, List.drop_zero, Nat.reduceLT, Nat.reduceEqDiff, Nat.reduceAdd, Nat.reduceMul, Nat.reduceSub, Int.reduceAdd, Int.reduceSub, Nat.reduceLeDiff, Int.reduceLT, Int.reduceLE, Int.reduceEq, Int.reduceNeg, Int.reduceToNat, IntWalk.i64_in, Bool.or_self, Bool.or_false, Bool.or_true, Bool.and_false, Bool.and_true, Bool.false_or, Bool.true_or, Bool.false_eq_true, Bool.true_eq_false, t0, t9, t10, t11, decide_false, h11]
          refine finQ_app ?_
          simp only [↓reduceIte, go_sem, Nat.add_zero, Nat.zero_add, Nat.sub_zero, List.drop_zero, Nat.reduceLT, Nat.reduceEqDiff, Nat.reduceAdd, Nat.reduceMul, Nat.reduceSub, Int.reduceAdd, Int.reduceSub, Nat.reduceLeDiff, Int.reduceLT, Int.reduceLE, Int.reduceEq, Int.reduceNeg, Int.reduceToNat, IntWalk.i64_in, Bool.or_self, Bool.or_false, Bool.or_true, Bool.and_false, Bool.and_true, Bool.false_or, Bool.true_or, Bool.false_eq_true, Bool.true_eq_false]
      · exact ⟨0, by simp [go_sem]⟩
    · skip
      simp (disch := first | rfl | omega | exact byE_w | exact inE_w | exact boE_w | exact stE_w | exact pcE_w | exact celE_w | exact lt_new _ | assumption | (simp only [List.length_append, List.length_singleton, List.length_set, List.length_take, List.length_drop, List.length_map]; done) | (simp only [List.length_append, List.length_singleton, List.length_set, List.length_take, List.length_drop, List.length_map]; omega)) only [r7_0, r7_1, r7_2, r7_3, r7_4, r7_5, r7_6, r7_7, r7_8, r7_9, r7_10, r7_11, r7_12, r7_13, r7_14, r7_15, r7_16, r7_18, c7, rs7, gc7, h11, h1, h2, h18, he, decide_true, decide_false, ↓reduceIte, go_sem, Nat.add_zero, Nat.zero_add, Nat.sub_zero, List.drop_zero, Nat.reduceLT, Nat.reduceEqDiff, Nat.reduceAdd, Nat.reduceMul, Nat.reduceSub, Int.reduceAdd, Int.reduceSub, Nat.reduceLeDiff, Int.reduceLT, Int.reduceLE, Int.reduceEq, Int.reduceNeg, Int.reduceToNat, IntWalk.i64_in, Bool.or_self, Bool.or_false, Bool.or_true, Bool.and_false, Bool.and_true, Bool.false_or, Bool.true_or, Bool.false_eq_true, Bool.true_eq_false]
      repeat' ((first | refine guardB_dec (fun hy => ?_) (fun hy => ?_) | refine guardB_bool (fun hy => ?_) (fun hy => ?_) | refine guardQ_ite (fun hy => ?_) (fun hy => ?_) | refine brQ_dec (fun hy => ?_) (fun hy => ?_) | refine brQ_bool (fun hy => ?_) (fun hy => ?_)) <;> (try simp only [Bool.not_eq_true', Bool.not_eq_false', Bool.and_eq_true, Bool.or_eq_false_iff, decide_eq_true_eq, decide_eq_false_iff_not] at hy) <;> simp (disch := first | rfl | omega | exact byE_w | exact inE_w | exact boE_w | exact stE_w | exact pcE_w | exact celE_w | exact lt_new _ | assumption | (simp only [List.length_append, List.length_singleton, List.length_set, List.length_take, List.length_drop, List.length_map]; done) | (simp only [List.length_append, List.length_singleton, List.length_set, List.length_take, List.length_drop, List.length_map]; omega)) only [r7_0, r7_1, r7_2, r7_3, r7_4, r7_5, r7_6, r7_7, r7_8, r7_9, r7_10, r7_11, r7_12, r7_13, r7_14, r7_15, r7_16, r7_18, c7, rs7, gc7, h11, h1, h2, h18, he, decide_true, decide_false, ↓reduceIte, go_sem, Nat.add_zero, Nat.zero_add, Nat.sub_zero, List.drop_zero, Nat.reduceLT, Nat.reduceEqDiff, Nat.reduceAdd, Nat.reduceMul, Nat.reduceSub, Int.reduceAdd, Int.reduceSub, Nat.reduceLeDiff, Int.reduceLT, Int.reduceLE, Int.reduceEq, Int.reduceNeg, Int.reduceToNat, IntWalk.i64_in, Bool.or_self, Bool.or_false, Bool.or_true, Bool.and_false, Bool.and_true, Bool.false_or, Bool.true_or, Bool.false_eq_true, Bool.true_eq_false, hy])
      exact gcF_same rfl
end Go.Proofs.Ytdpdlobaabcjjab
