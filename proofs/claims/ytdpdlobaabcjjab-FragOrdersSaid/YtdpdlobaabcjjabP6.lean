/-
  Texts of this seat, laid together. No statement of the seat stands here.
-/
import Derived.Test.YtdpdlobaabcjjabP5
/-
  The reference's Put, walked. No statement of the seat stands here.
-/
namespace Go.Proofs.Ytdpdlobaabcjjab
open Go Go.An
set_option maxRecDepth 4000
set_option linter.unusedSimpArgs false
set_option linter.unusedVariables false

theorem near_of {p : Pc} (hp : PcOk p) (h : askedI p = 0) : Near p := by
  unfold askedI at h
  split at h
  · rename_i h1
    split at h
    · cases h
    · rename_i h2
      unfold isPieceB okTime at h1
      unfold isFarB pcEnd at h2
      simp only [Bool.and_eq_true, Bool.or_eq_true, decide_eq_true_eq] at h1 h2
      exact ⟨hp, by omega, by omega⟩
  · cases h
theorem toldM_le : ∀ {l : List Pc}, (∀ p ∈ l, Near p) → toldM l ≤ 4000
  | [], _ => by simp [toldM]
  | p :: l, h => by
    unfold toldM
    split
    · exact toldM_le fun q hq => h q (by simp [hq])
    · have := (h p (by simp)).hi
      unfold pcEnd; exact this
/-- Wholes that are in order. -/
def WsOk (ws : List Wh) : Prop := ws.length ≤ 900 ∧ ∀ w ∈ ws, w.l.length ≤ 900 ∧ ∀ p ∈ w.l, Near p
def nothB (p : Pc) : Bool := decide (p.data.length = 0) && p.more
/-- The whole of a piece. -/
def wsFor (ws : List Wh) (p : Pc) : List Wh := if findW ws p.id < 0 then ws ++ [⟨p.id, true, []⟩] else ws
def kFor (ws : List Wh) (p : Pc) : Nat := if findW ws p.id < 0 then ws.length else (findW ws p.id).toNat
def newP (p : Pc) : Pc := { p with nl := true }
def newsB (l : List Pc) (pol : Int) (p : Pc) : Bool := frM l pol p p.data.length || dfM l pol p p.data.length || (!p.more && decide (toldM l < 0))
/-- What becomes of a piece: bytes, kind, error; the wholes behind it. -/
def refPut (pol : Int) (ws : List Wh) (p : Pc) : (List UInt8 × Int × Int) × Option (List Wh) :=
  if askedI p ≠ 0 then (([], 0, askedI p), none) else
  if nothB p = true then (([], 2, 0), none) else
  if findW ws p.id < 0 ∧ 200 ≤ ws.length then (([], 0, 3), none) else
  let ws1 := wsFor ws p
  let k := kFor ws p
  let l := (whE.at ws1 k).l
  let cut := ws1.take k ++ ws1.drop (k + 1)
  if strM l p = true then (([], 4, 0), some cut) else
  if (decide (pol = 3) && dfM l pol p p.data.length) = true then (([], 3, 0), some cut) else
  if (resB (l ++ [newP p]) pol).2 = true then (((resB (l ++ [newP p]) pol).1, 1, 0), some cut) else
  (([], if newsB l pol p = true then 0 else 2, 0), some (ws1.set k ⟨(whE.at ws1 k).id, true, l ++ [newP p]⟩))
def outV (r : List UInt8 × Int × Int) : V := .tup [slV true byE r.1, .int .i64 r.2.1, .int .i64 r.2.2]
def tbH (H : Hp) (tb : Nat) (pol : Int) : Option (List Wh) → Hp
  | none => H
  | some ws => H.set tb (.row 0 (tbC pol true ws) true)
theorem pcE_s3 (p : Pc) : setAt (pcE.f p) 3 [slV true byE p.data] = pcE.f (newP p) := rfl
theorem findW_lt (ws : List Wh) (id : Int) : findW ws id < ws.length := by
  unfold findW
  have : ∀ (l : List Wh) (i : Int), 0 ≤ i → findI (fun w => decide (w.id = id)) l i < i + l.length ∨ l = [] := by
    intro l
    induction l with
    | nil => intro i _; exact .inr rfl
    | cons w l ih =>
      intro i hi
      left
      unfold findI
      split
      · simp; omega
      · rcases ih (i + 1) (by omega) with h | rfl
        · simp only [List.length_cons]; omega
        · simp [findI]; omega
  rcases this ws 0 (by omega) with h | rfl
  · simpa using h
  · simp [findI]
theorem kFor_lt (ws : List Wh) (p : Pc) : kFor ws p < (wsFor ws p).length := by
  unfold kFor wsFor
  have := findW_lt ws p.id
  split
  · simp
  · omega
/-- The only whole, just put there, let go. -/
theorem fn61z {tb n : Nat} {pol : Int} {H : Hp} {cs : List V} (ht : H[tb]? = some (.row 0 [.int .i64 pol, .slice n 0 0 1 2 .full] true)) (hn : getRow H n 0 = some (cs, true)) (hc : cs.length = 2) : callL Try.prog pr 61 [.ptr tb 0 0, .int .i64 0] H = some (.tup [], H.set tb (.row 0 (tbC pol true []) true)) := by
  have hr := getRow_of ht
  have hlt : tb < H.length := (List.getElem?_eq_some_iff.1 ht).1
  refine run61 (Nat.le_of_ble_eq_true rfl) ?_
  have e1 : ∀ (cp : Cap), srcCells H (.slice n 0 0 0 2 cp) = some ([], 0) := fun cp => by rw [src_sl hn (by omega)]; simp
  have e2 : ∀ (cp : Cap), srcCells H (.slice n 0 2 0 2 cp) = some ([], 0) := fun cp => by rw [src_sl hn (by omega)]; simp
  simp (disch := first | rfl | omega | exact byE_w | exact inE_w | exact boE_w | exact stE_w | exact pcE_w | exact whE_w | exact lt_new _ | assumption | (simp only [List.length_append, List.length_singleton, List.length_set, List.length_take, List.length_drop, List.length_map]; done) | (simp only [List.length_append, List.length_singleton, List.length_set, List.length_take, List.length_drop, List.length_map]; omega)) only [r61_0, c61, rs61, gc61, loadV_ptr, storeV_ptr, hr, cut_sl s103, hi_sl s103, app_nil0 (e1 _), app_nil0 (e2 _), Nat.zero_add, Nat.zero_mul, Nat.sub_self, ↓reduceIte, go_sem, Nat.add_zero, Nat.zero_add, Nat.sub_zero, List.drop_zero, Nat.reduceLT, Nat.reduceEqDiff, Nat.reduceAdd, Nat.reduceMul, Nat.reduceSub, Int.reduceAdd, Int.reduceSub, Nat.reduceLeDiff, Int.reduceLT, Int.reduceLE, Int.reduceEq, Int.reduceNeg, Int.reduceToNat, IntWalk.i64_in, Bool.or_self, Bool.or_false, Bool.or_true, Bool.and_false, Bool.and_true, Bool.false_or, Bool.true_or, Bool.false_eq_true, Bool.true_eq_false]
  repeat' ((first | refine guardB_dec (fun hy => ?_) (fun hy => ?_) | refine guardB_bool (fun hy => ?_) (fun hy => ?_) | refine guardQ_ite (fun hy => ?_) (fun hy => ?_) | refine brQ_dec (fun hy => ?_) (fun hy => ?_) | refine brQ_bool (fun hy => ?_) (fun hy => ?_)) <;> (try simp only [Bool.not_eq_true', Bool.not_eq_false', Bool.and_eq_true, Bool.or_eq_false_iff, decide_eq_true_eq, decide_eq_false_iff_not] at hy) <;> simp (disch := first | rfl | omega | exact byE_w | exact inE_w | exact boE_w | exact stE_w | exact pcE_w | exact whE_w | exact lt_new _ | assumption | (simp only [List.length_append, List.length_singleton, List.length_set, List.length_take, List.length_drop, List.length_map]; done) | (simp only [List.length_append, List.length_singleton, List.length_set, List.length_take, List.length_drop, List.length_map]; omega)) only [r61_0, c61, rs61, gc61, loadV_ptr, storeV_ptr, hr, cut_sl s103, hi_sl s103, app_nil0 (e1 _), app_nil0 (e2 _), Nat.zero_add, Nat.zero_mul, Nat.sub_self, ↓reduceIte, go_sem, Nat.add_zero, Nat.zero_add, Nat.sub_zero, List.drop_zero, Nat.reduceLT, Nat.reduceEqDiff, Nat.reduceAdd, Nat.reduceMul, Nat.reduceSub, Int.reduceAdd, Int.reduceSub, Nat.reduceLeDiff, Int.reduceLT, Int.reduceLE, Int.reduceEq, Int.reduceNeg, Int.reduceToNat, IntWalk.i64_in, Bool.or_self, Bool.or_false, Bool.or_true, Bool.and_false, Bool.and_true, Bool.false_or, Bool.true_or, Bool.false_eq_true, Bool.true_eq_false, hy])
  have hnl := getRow_lt hn
  refine gcF_set0 ht (by simp only [↓reduceIte, go_sem, Nat.add_zero, Nat.zero_add, Nat.sub_zero, List.drop_zero, Nat.reduceLT, Nat.reduceEqDiff, Nat.reduceAdd, Nat.reduceMul, Nat.reduceSub, Int.reduceAdd, Int.reduceSub, Nat.reduceLeDiff, Int.reduceLT, Int.reduceLE, Int.reduceEq, Int.reduceNeg, Int.reduceToNat, IntWalk.i64_in, Bool.or_self, Bool.or_false, Bool.or_true, Bool.and_false, Bool.and_true, Bool.false_or, Bool.true_or, Bool.false_eq_true, Bool.true_eq_false, inlC_old hnl]) ?_
  simp only [↓reduceIte, go_sem, Nat.add_zero, Nat.zero_add, Nat.sub_zero, List.drop_zero, Nat.reduceLT, Nat.reduceEqDiff, Nat.reduceAdd, Nat.reduceMul, Nat.reduceSub, Int.reduceAdd, Int.reduceSub, Nat.reduceLeDiff, Int.reduceLT, Int.reduceLE, Int.reduceEq, Int.reduceNeg, Int.reduceToNat, IntWalk.i64_in, Bool.or_self, Bool.or_false, Bool.or_true, Bool.and_false, Bool.and_true, Bool.false_or, Bool.true_or, Bool.false_eq_true, Bool.true_eq_false, tbC, slV_nil]
/-- Put of a piece whose whole is there. -/
theorem wsFor_in {ws : List Wh} {p : Pc} (h : 0 ≤ findW ws p.id) : wsFor ws p = ws ∧ kFor ws p = (findW ws p.id).toNat := by
  unfold wsFor kFor
  rw [if_neg (by omega), if_neg (by omega)]
  exact ⟨rfl, rfl⟩
set_option maxHeartbeats 2000000 in
theorem fn32in {tb : Nat} {pol : Int} {b : Bool} {ws : List Wh} {p : Pc} {H : Hp} (ht : H[tb]? = some (.row 0 (tbC pol b ws) true)) (hw : WsOk ws) (hp : PcOk p) (hin : 0 ≤ findW ws p.id) : callL Try.prog pr 32 [.ptr tb 0 0, .agg (pcE.f p)] H = some (outV (refPut pol ws p).1, tbH H tb pol (refPut pol ws p).2) := by
  have hr := getRow_of ht
  have hlt : tb < H.length := (List.getElem?_eq_some_iff.1 ht).1
  have hr2 := fun L => (getRow_app' (L := L) (g := 0) hlt).trans hr
  have h36 := fn36 p hp
  refine run32 (Nat.le_of_ble_eq_true rfl) ?_
  by_cases ha : askedI p = 0
  · have np := near_of hp ha
    have h58 := fun L => fn58 (H := H ++ L) (id := p.id) (by rw [List.getElem?_append_left hlt]; exact ht) (by have := hw.1; omega)
    obtain ⟨k, hk⟩ : ∃ k : Nat, findW ws p.id = k := ⟨(findW ws p.id).toNat, by omega⟩
    have hkl : k < ws.length := by have := findW_lt ws p.id; omega
    have hin' : ¬ ((k : Int) < 0) := by omega
    obtain ⟨w1, w2⟩ := wsFor_in hin
    rw [hk] at h58
    have w3 : kFor ws p = k := by omega
    have hwk := hw.2 _ (whE.at_mem hkl)
    by_cases hno : nothB p = true
    · have e : refPut pol ws p = (([], 2, 0), none) := by unfold refPut; rw [if_neg (by simp [ha]), if_pos hno]
      unfold nothB at hno
      simp only [Bool.and_eq_true, decide_eq_true_eq] at hno
      obtain ⟨hno1, hno2⟩ := hno
      have hno1 : (p.data.length : Int) = 0 := by omega
      rw [e]
      simp (disch := first | rfl | omega | exact byE_w | exact inE_w | exact boE_w | exact stE_w | exact pcE_w | exact whE_w | exact lt_new _ | assumption | (simp only [List.length_append, List.length_singleton, List.length_set, List.length_take, List.length_drop, List.length_map]; done) | (simp only [List.length_append, List.length_singleton, List.length_set, List.length_take, List.length_drop, List.length_map]; omega)) only [r32_0, r32_1, r32_2, r32_3, r32_4, r32_5, r32_6, r32_7, r32_8, r32_9, r32_10, r32_11, r32_12, r32_13, r32_14, r32_15, r32_16, r32_17, r32_18, r32_19, r32_20, r32_21, r32_22, r32_23, r32_24, r32_25, r32_26, r32_27, r32_28, r32_29, r32_30, r32_31, r32_32, c32, rs32, gc32, loadV_ptr, storeV_ptr, getRow_app', getRow_setS, getRow_setO, getRow_lastN, set_lastN, set_app, List.set_set, bl_nil, bl_all, getRow_bl, set_bl, ↓reduceIte, go_sem, Nat.add_zero, Nat.zero_add, Nat.sub_zero, List.drop_zero, Nat.reduceLT, Nat.reduceEqDiff, Nat.reduceAdd, Nat.reduceMul, Nat.reduceSub, Int.reduceAdd, Int.reduceSub, Nat.reduceLeDiff, Int.reduceLT, Int.reduceLE, Int.reduceEq, Int.reduceNeg, Int.reduceToNat, IntWalk.i64_in, Bool.or_self, Bool.or_false, Bool.or_true, Bool.and_false, Bool.and_true, Bool.false_or, Bool.true_or, Bool.false_eq_true, Bool.true_eq_false, *]
      repeat' ((first | refine guardB_dec (fun hy => ?_) (fun hy => ?_) | refine guardB_bool (fun hy => ?_) (fun hy => ?_) | refine guardQ_ite (fun hy => ?_) (fun hy => ?_) | refine brQ_dec (fun hy => ?_) (fun hy => ?_) | refine brQ_bool (fun hy => ?_) (fun hy => ?_)) <;> (try simp only [Bool.not_eq_true', Bool.not_eq_false', Bool.and_eq_true, Bool.or_eq_false_iff, decide_eq_true_eq, decide_eq_false_iff_not] at hy) <;> simp (disch := first | rfl | omega | exact byE_w | exact inE_w | exact boE_w | exact stE_w | exact pcE_w | exact whE_w | exact lt_new _ | assumption | (simp only [List.length_append, List.length_singleton, List.length_set, List.length_take, List.length_drop, List.length_map]; done) | (simp only [List.length_append, List.length_singleton, List.length_set, List.length_take, List.length_drop, List.length_map]; omega)) only [r32_0, r32_1, r32_2, r32_3, r32_4, r32_5, r32_6, r32_7, r32_8, r32_9, r32_10, r32_11, r32_12, r32_13, r32_14, r32_15, r32_16, r32_17, r32_18, r32_19, r32_20, r32_21, r32_22, r32_23, r32_24, r32_25, r32_26, r32_27, r32_28, r32_29, r32_30, r32_31, r32_32, c32, rs32, gc32, loadV_ptr, storeV_ptr, getRow_app', getRow_setS, getRow_setO, getRow_lastN, set_lastN, set_app, List.set_set, bl_nil, bl_all, getRow_bl, set_bl, ↓reduceIte, go_sem, Nat.add_zero, Nat.zero_add, Nat.sub_zero, List.drop_zero, Nat.reduceLT, Nat.reduceEqDiff, Nat.reduceAdd, Nat.reduceMul, Nat.reduceSub, Int.reduceAdd, Int.reduceSub, Nat.reduceLeDiff, Int.reduceLT, Int.reduceLE, Int.reduceEq, Int.reduceNeg, Int.reduceToNat, IntWalk.i64_in, Bool.or_self, Bool.or_false, Bool.or_true, Bool.and_false, Bool.and_true, Bool.false_or, Bool.true_or, Bool.false_eq_true, Bool.true_eq_false, *])
      all_goals (try ((first | refine finQ_same ?_ | refine finQ_app ?_ | (rw [List.append_assoc]; refine finQ_app ?_)) <;> simp (disch := first | rfl | omega | exact byE_w | exact inE_w | exact boE_w | exact stE_w | exact pcE_w | exact whE_w | exact lt_new _ | assumption | (simp only [List.length_append, List.length_singleton, List.length_set, List.length_take, List.length_drop, List.length_map]; done) | (simp only [List.length_append, List.length_singleton, List.length_set, List.length_take, List.length_drop, List.length_map]; omega)) only [outV, tbH, slV_nil, ↓reduceIte, go_sem, Nat.add_zero, Nat.zero_add, Nat.sub_zero, List.drop_zero, Nat.reduceLT, Nat.reduceEqDiff, Nat.reduceAdd, Nat.reduceMul, Nat.reduceSub, Int.reduceAdd, Int.reduceSub, Nat.reduceLeDiff, Int.reduceLT, Int.reduceLE, Int.reduceEq, Int.reduceNeg, Int.reduceToNat, IntWalk.i64_in, Bool.or_self, Bool.or_false, Bool.or_true, Bool.and_false, Bool.and_true, Bool.false_or, Bool.true_or, Bool.false_eq_true, Bool.true_eq_false, List.append_assoc, List.cons_append, List.nil_append, *]))
      all_goals (try first | rfl | (simp [*]; done) | grind)
    · have hno' : (decide ((p.data.length : Int) = 0) && p.more) = false := by
        rw [Bool.not_eq_true] at hno
        unfold nothB at hno
        rw [← hno]
        congr 2
        simp
      have h59 := fun H => fn59 (b := (whE.at ws k).nl) pol p hwk.2 np (by omega) H
      have h60 := fun H => fn60 (b := (whE.at ws k).nl) p hwk.2 np (by omega) H
      have h62 := fun H => fn62 (b := (whE.at ws k).nl) hwk.2 (by omega) H
      have np' : ∀ q ∈ (whE.at ws k).l ++ [newP p], Near q := by
        intro q hq
        rcases List.mem_append.1 hq with hq | hq
        · exact hwk.2 q hq
        · obtain rfl := List.mem_singleton.1 hq
          exact ⟨⟨np.ok.small, np.ok.rid, np.ok.rat, np.ok.rtime⟩, np.lo, np.hi⟩
      have ldw := fun (H : Hp) => ldW1 (H := H) hkl
      have h63 := fun (A : Hp) (n g : Nat) (hn : n = A.length) => fn63L (Lst.bl (A := A) (n := n) (g := g) (l := (whE.at ws k).l ++ [newP p]) hn (by simp)) pol np' (by simp; omega) (toldM_le np')
      have h61 := fun (L : Hp) => fn61 (H := H ++ L) (tb := tb) (pol := pol) (b := b) (ws := ws) (k := k) (by rw [List.getElem?_append_left hlt]; exact ht) (by have := hw.1; omega) hkl
      have hb1 : ∀ (A : Hp) (n g : Nat) (hn : n = A.length), appOf 5 56 (A ++ blH g ((whE.at ws k).l.map pcE.f)) (blV n g 5 ((whE.at ws k).l.map pcE.f)) (.isl (pcE.f (newP p)) 1 5) = _ := fun A n g hn => bl_one pcE _ _ hn rfl (by omega) (by omega)
      have hdl : p.data.length ≤ 4000 := by have := np.lo; have := np.hi; omega
      have hwl := hw.1
      have hwk1 := hwk.1
      obtain ⟨d3, hd3⟩ : ∃ d, decide (pol = 3) = d := ⟨_, rfl⟩
      have h61' := fun (L M : Hp) => fn61 (H := H ++ L ++ M) (tb := tb) (pol := pol) (b := b) (ws := ws) (k := k) (by rw [List.append_assoc, List.getElem?_append_left hlt]; exact ht) (by have := hw.1; omega) hkl
      have e : refPut pol ws p = if strM (whE.at ws k).l p = true then (([], 4, 0), some (ws.take k ++ ws.drop (k + 1))) else if (decide (pol = 3) && dfM (whE.at ws k).l pol p p.data.length) = true then (([], 3, 0), some (ws.take k ++ ws.drop (k + 1))) else if (resB ((whE.at ws k).l ++ [newP p]) pol).2 = true then (((resB ((whE.at ws k).l ++ [newP p]) pol).1, 1, 0), some (ws.take k ++ ws.drop (k + 1))) else (([], if newsB (whE.at ws k).l pol p = true then 0 else 2, 0), some (ws.set k ⟨(whE.at ws k).id, true, (whE.at ws k).l ++ [newP p]⟩)) := by
        unfold refPut
        rw [if_neg (by simp [ha]), if_neg hno, if_neg (by omega)]
        simp only [w1, w3]
      unfold newsB at e
      rw [e]
      have hws : 0 < ws.length := by omega
      have hfl : k * 2 + 1 + 1 ≤ (flatE whE ws).length := by rw [flatE_len]; show _ ≤ ws.length * 2; omega
      have hfin : ∀ (A0 : Hp) (g n m : Nat), n = A0.length → H.length ≤ A0.length → m = (A0 ++ blH g (((whE.at ws k).l ++ [newP p]).map pcE.f)).length → inlB H.length (A0 ++ blH g (((whE.at ws k).l ++ [newP p]).map pcE.f) ++ [.row 0 (setAt (flatE whE ws) (k * 2 + 1) [blV n g 5 (((whE.at ws k).l ++ [newP p]).map pcE.f)]) true]) 8 (.slice m 0 0 ws.length 2 .full) = some (slV true whE (ws.set k ⟨(whE.at ws k).id, true, (whE.at ws k).l ++ [newP p]⟩)) := by
        intro A0 g n m hn hA hm
        exact inlB_setAt (f := 6) (by rw [hm, List.length_append]; omega) hm rfl hkl (by decide) (inlB_bl hn (by omega) rfl) rfl
      have hbs := fun n => blV_some (E := whE) (g := 0) (n := n) (w := 2) hws
      simp (disch := first | rfl | omega | exact byE_w | exact inE_w | exact boE_w | exact stE_w | exact pcE_w | exact whE_w | exact lt_new _ | assumption | (simp only [List.length_append, List.length_singleton, List.length_set, List.length_take, List.length_drop, List.length_map]; done) | (simp only [List.length_append, List.length_singleton, List.length_set, List.length_take, List.length_drop, List.length_map]; omega)) only [r32_0, r32_1, r32_2, r32_3, r32_4, r32_5, r32_6, r32_7, r32_8, r32_9, r32_10, r32_11, r32_12, r32_13, r32_14, r32_15, r32_16, r32_17, r32_18, r32_19, r32_20, r32_21, r32_22, r32_23, r32_24, r32_25, r32_26, r32_27, r32_28, r32_29, r32_30, r32_31, r32_32, c32, rs32, gc32, loadV_ptr, storeV_ptr, getRow_app', getRow_setS, getRow_setO, getRow_lastN, set_lastN, set_app, List.set_set, bl_nil, bl_all, getRow_bl, set_bl, pcE_s3, ix_bl s103, ↓reduceIte, go_sem, Nat.add_zero, Nat.zero_add, Nat.sub_zero, List.drop_zero, Nat.reduceLT, Nat.reduceEqDiff, Nat.reduceAdd, Nat.reduceMul, Nat.reduceSub, Int.reduceAdd, Int.reduceSub, Nat.reduceLeDiff, Int.reduceLT, Int.reduceLE, Int.reduceEq, Int.reduceNeg, Int.reduceToNat, IntWalk.i64_in, Bool.or_self, Bool.or_false, Bool.or_true, Bool.and_false, Bool.and_true, Bool.false_or, Bool.true_or, Bool.false_eq_true, Bool.true_eq_false, *]
      repeat' ((first | refine guardB_dec (fun hy => ?_) (fun hy => ?_) | refine guardB_bool (fun hy => ?_) (fun hy => ?_) | refine guardQ_ite (fun hy => ?_) (fun hy => ?_) | refine brQ_dec (fun hy => ?_) (fun hy => ?_) | refine brQ_bool (fun hy => ?_) (fun hy => ?_)) <;> (try simp only [Bool.not_eq_true', Bool.not_eq_false', Bool.and_eq_true, Bool.or_eq_false_iff, decide_eq_true_eq, decide_eq_false_iff_not] at hy) <;> simp (disch := first | rfl | omega | exact byE_w | exact inE_w | exact boE_w | exact stE_w | exact pcE_w | exact whE_w | exact lt_new _ | assumption | (simp only [List.length_append, List.length_singleton, List.length_set, List.length_take, List.length_drop, List.length_map]; done) | (simp only [List.length_append, List.length_singleton, List.length_set, List.length_take, List.length_drop, List.length_map]; omega)) only [r32_0, r32_1, r32_2, r32_3, r32_4, r32_5, r32_6, r32_7, r32_8, r32_9, r32_10, r32_11, r32_12, r32_13, r32_14, r32_15, r32_16, r32_17, r32_18, r32_19, r32_20, r32_21, r32_22, r32_23, r32_24, r32_25, r32_26, r32_27, r32_28, r32_29, r32_30, r32_31, r32_32, c32, rs32, gc32, loadV_ptr, storeV_ptr, getRow_app', getRow_setS, getRow_setO, getRow_lastN, set_lastN, set_app, List.set_set, bl_nil, bl_all, getRow_bl, set_bl, pcE_s3, ix_bl s103, ↓reduceIte, go_sem, Nat.add_zero, Nat.zero_add, Nat.sub_zero, List.drop_zero, Nat.reduceLT, Nat.reduceEqDiff, Nat.reduceAdd, Nat.reduceMul, Nat.reduceSub, Int.reduceAdd, Int.reduceSub, Nat.reduceLeDiff, Int.reduceLT, Int.reduceLE, Int.reduceEq, Int.reduceNeg, Int.reduceToNat, IntWalk.i64_in, Bool.or_self, Bool.or_false, Bool.or_true, Bool.and_false, Bool.and_true, Bool.false_or, Bool.true_or, Bool.false_eq_true, Bool.true_eq_false, *])
      all_goals (try first | (exfalso; simp_all; done) | (refine gcF_set ht (by simp only [↓reduceIte, go_sem, Nat.add_zero, Nat.zero_add, Nat.sub_zero, List.drop_zero, Nat.reduceLT, Nat.reduceEqDiff, Nat.reduceAdd, Nat.reduceMul, Nat.reduceSub, Int.reduceAdd, Int.reduceSub, Nat.reduceLeDiff, Int.reduceLT, Int.reduceLE, Int.reduceEq, Int.reduceNeg, Int.reduceToNat, IntWalk.i64_in, Bool.or_self, Bool.or_false, Bool.or_true, Bool.and_false, Bool.and_true, Bool.false_or, Bool.true_or, Bool.false_eq_true, Bool.true_eq_false]) ?_; simp only [↓reduceIte, go_sem, Nat.add_zero, Nat.zero_add, Nat.sub_zero, List.drop_zero, Nat.reduceLT, Nat.reduceEqDiff, Nat.reduceAdd, Nat.reduceMul, Nat.reduceSub, Int.reduceAdd, Int.reduceSub, Nat.reduceLeDiff, Int.reduceLT, Int.reduceLE, Int.reduceEq, Int.reduceNeg, Int.reduceToNat, IntWalk.i64_in, Bool.or_self, Bool.or_false, Bool.or_true, Bool.and_false, Bool.and_true, Bool.false_or, Bool.true_or, Bool.false_eq_true, Bool.true_eq_false, outV, tbH, slV_nil]; done) | (refine gcF_set2 ht (by simp only [↓reduceIte, go_sem, Nat.add_zero, Nat.zero_add, Nat.sub_zero, List.drop_zero, Nat.reduceLT, Nat.reduceEqDiff, Nat.reduceAdd, Nat.reduceMul, Nat.reduceSub, Int.reduceAdd, Int.reduceSub, Nat.reduceLeDiff, Int.reduceLT, Int.reduceLE, Int.reduceEq, Int.reduceNeg, Int.reduceToNat, IntWalk.i64_in, Bool.or_self, Bool.or_false, Bool.or_true, Bool.and_false, Bool.and_true, Bool.false_or, Bool.true_or, Bool.false_eq_true, Bool.true_eq_false]) ?_; simp only [↓reduceIte, go_sem, Nat.add_zero, Nat.zero_add, Nat.sub_zero, List.drop_zero, Nat.reduceLT, Nat.reduceEqDiff, Nat.reduceAdd, Nat.reduceMul, Nat.reduceSub, Int.reduceAdd, Int.reduceSub, Nat.reduceLeDiff, Int.reduceLT, Int.reduceLE, Int.reduceEq, Int.reduceNeg, Int.reduceToNat, IntWalk.i64_in, Bool.or_self, Bool.or_false, Bool.or_true, Bool.and_false, Bool.and_true, Bool.false_or, Bool.true_or, Bool.false_eq_true, Bool.true_eq_false, outV, tbH, slV_nil]; done) | (refine gcF_set3 ht (by simp only [↓reduceIte, go_sem, Nat.add_zero, Nat.zero_add, Nat.sub_zero, List.drop_zero, Nat.reduceLT, Nat.reduceEqDiff, Nat.reduceAdd, Nat.reduceMul, Nat.reduceSub, Int.reduceAdd, Int.reduceSub, Nat.reduceLeDiff, Int.reduceLT, Int.reduceLE, Int.reduceEq, Int.reduceNeg, Int.reduceToNat, IntWalk.i64_in, Bool.or_self, Bool.or_false, Bool.or_true, Bool.and_false, Bool.and_true, Bool.false_or, Bool.true_or, Bool.false_eq_true, Bool.true_eq_false]) ?_; simp (disch := first | rfl | omega | exact byE_w | exact inE_w | exact boE_w | exact stE_w | exact pcE_w | exact whE_w | exact lt_new _ | assumption | (simp only [List.length_append, List.length_singleton, List.length_set, List.length_take, List.length_drop, List.length_map]; done) | (simp only [List.length_append, List.length_singleton, List.length_set, List.length_take, List.length_drop, List.length_map]; omega)) only [↓reduceIte, go_sem, Nat.add_zero, Nat.zero_add, Nat.sub_zero, List.drop_zero, Nat.reduceLT, Nat.reduceEqDiff, Nat.reduceAdd, Nat.reduceMul, Nat.reduceSub, Int.reduceAdd, Int.reduceSub, Nat.reduceLeDiff, Int.reduceLT, Int.reduceLE, Int.reduceEq, Int.reduceNeg, Int.reduceToNat, IntWalk.i64_in, Bool.or_self, Bool.or_false, Bool.or_true, Bool.and_false, Bool.and_true, Bool.false_or, Bool.true_or, Bool.false_eq_true, Bool.true_eq_false, outV, tbH, slV_nil, hfin, hbs, *]; done))
  · have e : refPut pol ws p = (([], 0, askedI p), none) := by unfold refPut; rw [if_pos ha]
    rw [e]
    simp (disch := first | rfl | omega | exact byE_w | exact inE_w | exact boE_w | exact stE_w | exact pcE_w | exact whE_w | exact lt_new _ | assumption | (simp only [List.length_append, List.length_singleton, List.length_set, List.length_take, List.length_drop, List.length_map]; done) | (simp only [List.length_append, List.length_singleton, List.length_set, List.length_take, List.length_drop, List.length_map]; omega)) only [r32_0, r32_1, r32_2, r32_3, r32_4, r32_5, r32_6, r32_7, r32_8, r32_9, r32_10, r32_11, r32_12, r32_13, r32_14, r32_15, r32_16, r32_17, r32_18, r32_19, r32_20, r32_21, r32_22, r32_23, r32_24, r32_25, r32_26, r32_27, r32_28, r32_29, r32_30, r32_31, r32_32, c32, rs32, gc32, loadV_ptr, storeV_ptr, getRow_app', getRow_setS, getRow_setO, getRow_lastN, set_lastN, set_app, List.set_set, bl_nil, bl_all, getRow_bl, set_bl, ↓reduceIte, go_sem, Nat.add_zero, Nat.zero_add, Nat.sub_zero, List.drop_zero, Nat.reduceLT, Nat.reduceEqDiff, Nat.reduceAdd, Nat.reduceMul, Nat.reduceSub, Int.reduceAdd, Int.reduceSub, Nat.reduceLeDiff, Int.reduceLT, Int.reduceLE, Int.reduceEq, Int.reduceNeg, Int.reduceToNat, IntWalk.i64_in, Bool.or_self, Bool.or_false, Bool.or_true, Bool.and_false, Bool.and_true, Bool.false_or, Bool.true_or, Bool.false_eq_true, Bool.true_eq_false, *]
    repeat' ((first | refine guardB_dec (fun hy => ?_) (fun hy => ?_) | refine guardB_bool (fun hy => ?_) (fun hy => ?_) | refine guardQ_ite (fun hy => ?_) (fun hy => ?_) | refine brQ_dec (fun hy => ?_) (fun hy => ?_) | refine brQ_bool (fun hy => ?_) (fun hy => ?_)) <;> (try simp only [Bool.not_eq_true', Bool.not_eq_false', Bool.and_eq_true, Bool.or_eq_false_iff, decide_eq_true_eq, decide_eq_false_iff_not] at hy) <;> simp (disch := first | rfl | omega | exact byE_w | exact inE_w | exact boE_w | exact stE_w | exact pcE_w | exact whE_w | exact lt_new _ | assumption | (simp only [List.length_append, List.length_singleton, List.length_set, List.length_take, List.length_drop, List.length_map]; done) | (simp only [List.length_append, List.length_singleton, List.length_set, List.length_take, List.length_drop, List.length_map]; omega)) only [r32_0, r32_1, r32_2, r32_3, r32_4, r32_5, r32_6, r32_7, r32_8, r32_9, r32_10, r32_11, r32_12, r32_13, r32_14, r32_15, r32_16, r32_17, r32_18, r32_19, r32_20, r32_21, r32_22, r32_23, r32_24, r32_25, r32_26, r32_27, r32_28, r32_29, r32_30, r32_31, r32_32, c32, rs32, gc32, loadV_ptr, storeV_ptr, getRow_app', getRow_setS, getRow_setO, getRow_lastN, set_lastN, set_app, List.set_set, bl_nil, bl_all, getRow_bl, set_bl, ↓reduceIte, go_sem, Nat.add_zero, Nat.zero_add, Nat.sub_zero, List.drop_zero, Nat.reduceLT, Nat.reduceEqDiff, Nat.reduceAdd, Nat.reduceMul, Nat.reduceSub, Int.reduceAdd, Int.reduceSub, Nat.reduceLeDiff, Int.reduceLT, Int.reduceLE, Int.reduceEq, Int.reduceNeg, Int.reduceToNat, IntWalk.i64_in, Bool.or_self, Bool.or_false, Bool.or_true, Bool.and_false, Bool.and_true, Bool.false_or, Bool.true_or, Bool.false_eq_true, Bool.true_eq_false, *])
    all_goals (try ((first | refine finQ_same ?_ | refine finQ_app ?_ | (rw [List.append_assoc]; refine finQ_app ?_)) <;> simp (disch := first | rfl | omega | exact byE_w | exact inE_w | exact boE_w | exact stE_w | exact pcE_w | exact whE_w | exact lt_new _ | assumption | (simp only [List.length_append, List.length_singleton, List.length_set, List.length_take, List.length_drop, List.length_map]; done) | (simp only [List.length_append, List.length_singleton, List.length_set, List.length_take, List.length_drop, List.length_map]; omega)) only [outV, tbH, slV_nil, ↓reduceIte, go_sem, Nat.add_zero, Nat.zero_add, Nat.sub_zero, List.drop_zero, Nat.reduceLT, Nat.reduceEqDiff, Nat.reduceAdd, Nat.reduceMul, Nat.reduceSub, Int.reduceAdd, Int.reduceSub, Nat.reduceLeDiff, Int.reduceLT, Int.reduceLE, Int.reduceEq, Int.reduceNeg, Int.reduceToNat, IntWalk.i64_in, Bool.or_self, Bool.or_false, Bool.or_true, Bool.and_false, Bool.and_true, Bool.false_or, Bool.true_or, Bool.false_eq_true, Bool.true_eq_false, List.append_assoc, List.cons_append, List.nil_append, *]))
    all_goals (try first | rfl | (simp [*]; done) | grind)
end Go.Proofs.Ytdpdlobaabcjjab
/-
  The reference's Put of the first piece; its New and Whole, walked. No statement of the seat stands here.
-/
namespace Go.Proofs.Ytdpdlobaabcjjab
open Go Go.An
set_option maxRecDepth 4000
set_option linter.unusedSimpArgs false
set_option linter.unusedVariables false

theorem fl_one (p : Pc) : flatE pcE [p] = pcE.f p := by simp [flatE]
theorem wsFor_nil (p : Pc) : wsFor [] p = [⟨p.id, true, []⟩] ∧ kFor [] p = 0 ∧ findW [] p.id = -1 := by
  simp [wsFor, kFor, findW, findI]
set_option maxHeartbeats 2000000 in
theorem fn32z {tb : Nat} {pol : Int} {b : Bool} {p : Pc} {H : Hp} (ht : H[tb]? = some (.row 0 (tbC pol b []) true)) (hp : PcOk p) : callL Try.prog pr 32 [.ptr tb 0 0, .agg (pcE.f p)] H = some (outV (refPut pol [] p).1, tbH H tb pol (refPut pol [] p).2) := by
  have hr := getRow_of ht
  have hlt : tb < H.length := (List.getElem?_eq_some_iff.1 ht).1
  have hr2 := fun L => (getRow_app' (L := L) (g := 0) hlt).trans hr
  have h36 := fn36 p hp
  refine run32 (Nat.le_of_ble_eq_true rfl) ?_
  by_cases ha : askedI p = 0
  · have np := near_of hp ha
    obtain ⟨w1, w2, w3⟩ := wsFor_nil p
    have h58 := fun L => fn58 (H := H ++ L) (id := p.id) (by rw [List.getElem?_append_left hlt]; exact ht) (by simp)
    rw [w3] at h58
    by_cases hno : nothB p = true
    · have e : refPut pol [] p = (([], 2, 0), none) := by unfold refPut; rw [if_neg (by simp [ha]), if_pos hno]
      unfold nothB at hno
      simp only [Bool.and_eq_true, decide_eq_true_eq] at hno
      obtain ⟨hno1, hno2⟩ := hno
      have hno1 : (p.data.length : Int) = 0 := by omega
      rw [e]
      simp (disch := first | rfl | omega | exact byE_w | exact inE_w | exact boE_w | exact stE_w | exact pcE_w | exact whE_w | exact lt_new _ | assumption | (simp only [List.length_append, List.length_singleton, List.length_set, List.length_take, List.length_drop, List.length_map]; done) | (simp only [List.length_append, List.length_singleton, List.length_set, List.length_take, List.length_drop, List.length_map]; omega)) only [r32_0, r32_1, r32_2, r32_3, r32_4, r32_5, r32_6, r32_7, r32_8, r32_9, r32_10, r32_11, r32_12, r32_13, r32_14, r32_15, r32_16, r32_17, r32_18, r32_19, r32_20, r32_21, r32_22, r32_23, r32_24, r32_25, r32_26, r32_27, r32_28, r32_29, r32_30, r32_31, r32_32, c32, rs32, gc32, loadV_ptr, storeV_ptr, getRow_app', getRow_setS, getRow_setO, getRow_lastN, set_lastN, set_app, List.set_set, bl_nil, bl_all, getRow_bl, set_bl, ↓reduceIte, go_sem, Nat.add_zero, Nat.zero_add, Nat.sub_zero, List.drop_zero, Nat.reduceLT, Nat.reduceEqDiff, Nat.reduceAdd, Nat.reduceMul, Nat.reduceSub, Int.reduceAdd, Int.reduceSub, Nat.reduceLeDiff, Int.reduceLT, Int.reduceLE, Int.reduceEq, Int.reduceNeg, Int.reduceToNat, IntWalk.i64_in, Bool.or_self, Bool.or_false, Bool.or_true, Bool.and_false, Bool.and_true, Bool.false_or, Bool.true_or, Bool.false_eq_true, Bool.true_eq_false, *]
      repeat' ((first | refine guardB_dec (fun hy => ?_) (fun hy => ?_) | refine guardB_bool (fun hy => ?_) (fun hy => ?_) | refine guardQ_ite (fun hy => ?_) (fun hy => ?_) | refine brQ_dec (fun hy => ?_) (fun hy => ?_) | refine brQ_bool (fun hy => ?_) (fun hy => ?_)) <;> (try simp only [Bool.not_eq_true', Bool.not_eq_false', Bool.and_eq_true, Bool.or_eq_false_iff, decide_eq_true_eq, decide_eq_false_iff_not] at hy) <;> simp (disch := first | rfl | omega | exact byE_w | exact inE_w | exact boE_w | exact stE_w | exact pcE_w | exact whE_w | exact lt_new _ | assumption | (simp only [List.length_append, List.length_singleton, List.length_set, List.length_take, List.length_drop, List.length_map]; done) | (simp only [List.length_append, List.length_singleton, List.length_set, List.length_take, List.length_drop, List.length_map]; omega)) only [r32_0, r32_1, r32_2, r32_3, r32_4, r32_5, r32_6, r32_7, r32_8, r32_9, r32_10, r32_11, r32_12, r32_13, r32_14, r32_15, r32_16, r32_17, r32_18, r32_19, r32_20, r32_21, r32_22, r32_23, r32_24, r32_25, r32_26, r32_27, r32_28, r32_29, r32_30, r32_31, r32_32, c32, rs32, gc32, loadV_ptr, storeV_ptr, getRow_app', getRow_setS, getRow_setO, getRow_lastN, set_lastN, set_app, List.set_set, bl_nil, bl_all, getRow_bl, set_bl, ↓reduceIte, go_sem, Nat.add_zero, Nat.zero_add, Nat.sub_zero, List.drop_zero, Nat.reduceLT, Nat.reduceEqDiff, Nat.reduceAdd, Nat.reduceMul, Nat.reduceSub, Int.reduceAdd, Int.reduceSub, Nat.reduceLeDiff, Int.reduceLT, Int.reduceLE, Int.reduceEq, Int.reduceNeg, Int.reduceToNat, IntWalk.i64_in, Bool.or_self, Bool.or_false, Bool.or_true, Bool.and_false, Bool.and_true, Bool.false_or, Bool.true_or, Bool.false_eq_true, Bool.true_eq_false, *])
      all_goals (try ((first | refine finQ_same ?_ | refine finQ_app ?_ | (rw [List.append_assoc]; refine finQ_app ?_)) <;> simp (disch := first | rfl | omega | exact byE_w | exact inE_w | exact boE_w | exact stE_w | exact pcE_w | exact whE_w | exact lt_new _ | assumption | (simp only [List.length_append, List.length_singleton, List.length_set, List.length_take, List.length_drop, List.length_map]; done) | (simp only [List.length_append, List.length_singleton, List.length_set, List.length_take, List.length_drop, List.length_map]; omega)) only [outV, tbH, slV_nil, ↓reduceIte, go_sem, Nat.add_zero, Nat.zero_add, Nat.sub_zero, List.drop_zero, Nat.reduceLT, Nat.reduceEqDiff, Nat.reduceAdd, Nat.reduceMul, Nat.reduceSub, Int.reduceAdd, Int.reduceSub, Nat.reduceLeDiff, Int.reduceLT, Int.reduceLE, Int.reduceEq, Int.reduceNeg, Int.reduceToNat, IntWalk.i64_in, Bool.or_self, Bool.or_false, Bool.or_true, Bool.and_false, Bool.and_true, Bool.false_or, Bool.true_or, Bool.false_eq_true, Bool.true_eq_false, List.append_assoc, List.cons_append, List.nil_append, *]))
      all_goals (try first | rfl | (simp [*]; done) | grind)
    · have hno' : (decide ((p.data.length : Int) = 0) && p.more) = false := by
        rw [Bool.not_eq_true] at hno
        unfold nothB at hno
        rw [← hno]
        congr 2
        simp
      have nn : ∀ q ∈ ([] : List Pc), Near q := by simp
      have h59 := fun H => fn59 (b := true) pol p nn np (by simp) H
      have h60 := fun H => fn60 (b := true) p nn np (by simp) H
      have h62 := fun H => fn62 (b := true) nn (by simp) H
      simp only [slV_nil] at h59 h60 h62
      have np' : ∀ q ∈ [newP p], Near q := by
        intro q hq
        obtain rfl := List.mem_singleton.1 hq
        exact ⟨⟨np.ok.small, np.ok.rid, np.ok.rat, np.ok.rtime⟩, np.lo, np.hi⟩
      have h63 := fun (A : Hp) (n : Nat) (hn : n = A.length) => fn63L (H := A ++ [.row 0 (pcE.f (newP p)) true]) (s := .slice n 0 0 1 5 .full) (l := [newP p]) (.inr ⟨n, 0, rfl, by rw [getRow_lastN hn, fl_one]⟩) pol np' (by simp) (toldM_le np')
      have ho2 : ∀ (A : Hp) (id : Int), appOf 2 32 A .nilslice (.isl [.int .i64 id, .nilslice] 1 2) = some (.slice A.length 0 0 1 2 .full, A ++ [.row 0 [.int .i64 id, .nilslice] true]) := fun A id => app_one rfl rfl (by omega)
      have ho5 : ∀ (A : Hp) (q : Pc), appOf 5 56 A .nilslice (.isl (pcE.f q) 1 5) = some (.slice A.length 0 0 1 5 .full, A ++ [.row 0 (pcE.f q) true]) := fun A q => app_one rfl (pcE.imm q) (by omega)
      have hnil : ∀ A : Hp, appOf 2 32 A .nilslice (slV b whE []) = some (.nilslice, A) := fun A => app_nil0 (by rw [src_slV]; rfl)
      have hn0 : ∀ A : Hp, appOf 5 56 A .nilslice .nilslice = some (.nilslice, A) := fun A => app_nil0 rfl
      obtain ⟨n, hn3⟩ : ∃ n, (H ++ [AB.row 0 (pcE.f p) true]).length = n := ⟨_, rfl⟩
      have hn' : H.length + 1 = n := by rw [← hn3]; simp
      have htk : List.take n (H ++ [AB.row 0 (pcE.f p) true]) = H ++ [AB.row 0 (pcE.f p) true] := by rw [← hn3, List.take_length]
      have gt : ∀ (R r1 w0 : AB) (L : Hp), (H.set tb R ++ [r1] ++ [w0] ++ L)[tb]? = some R := fun R r1 w0 L => by
        rw [List.append_assoc, List.append_assoc, List.getElem?_append_left (by simpa using hlt)]
        simp [hlt]
      have gn : ∀ (R r1 : AB) (cs : List V) (L : Hp), getRow (H.set tb R ++ [r1] ++ [.row 0 cs true] ++ L) n 0 = some (cs, true) := fun R r1 cs L => by
        rw [getRow_app' (by simp; omega), getRow_lastN (by simp; omega)]
      have h61 := fun (r1 : AB) (L : Hp) => fn61z (gt (.row 0 [.int .i64 pol, .slice n 0 0 1 2 .full] true) r1 (.row 0 [.int .i64 p.id, .nilslice] true) L) (gn _ r1 [.int .i64 p.id, .nilslice] L) rfl
      have h61' := fun (r1 : AB) => h61 r1 []
      simp only [List.append_nil] at h61'
      have hcp := fun (r1 : AB) (L : Hp) => app_row (w := 2) (by_ := 32) (cp := .full) (gn (.row 0 [.int .i64 pol, .slice n 0 0 1 2 .full] true) r1 [.int .i64 p.id, .nilslice] L) rfl rfl (by omega)
      have hdl : p.data.length ≤ 4000 := by have := np.lo; have := np.hi; omega
      obtain ⟨d3, hd3⟩ : ∃ d, decide (pol = 3) = d := ⟨_, rfl⟩
      have e : refPut pol [] p = if strM [] p = true then (([], 4, 0), some []) else if (decide (pol = 3) && dfM [] pol p p.data.length) = true then (([], 3, 0), some []) else if (resB [newP p] pol).2 = true then (((resB [newP p] pol).1, 1, 0), some []) else (([], if newsB [] pol p = true then 0 else 2, 0), some [⟨p.id, true, [newP p]⟩]) := by
        unfold refPut
        rw [if_neg (by simp [ha]), if_neg hno, if_neg (by simp)]
        simp only [w1, w2]
        rfl
      unfold newsB at e
      rw [e]
      have hfin : ∀ (R r1 w0 : AB), inlB H.length (H.set tb R ++ [r1] ++ [w0] ++ [.row 0 (pcE.f (newP p)) true] ++ [.row 0 [.int .i64 p.id, .slice (H.length + 1 + 1) 0 0 1 5 .full] true]) 8 (.slice (H.length + 1 + 1 + 1) 0 0 1 2 .full) = some (slV true whE [⟨p.id, true, [newP p]⟩]) := by
        intro R r1 w0
        have h1 : inlB H.length (H.set tb R ++ [r1] ++ [w0] ++ [.row 0 (pcE.f (newP p)) true] ++ [.row 0 [.int .i64 p.id, .slice (H.length + 1 + 1) 0 0 1 5 .full] true]) 7 (.slice (H.length + 1 + 1) 0 0 1 5 .full) = some (.isl (pcE.f (newP p)) 1 5) :=
          inlB_one (cs := pcE.f (newP p)) (by omega) (by rw [List.getElem?_append_left (by simp)]; exact get_last (by simp)) rfl (mapO_imm (pcE.imm _)) (pcE.imm _)
        have h2 := inlB_one (n := H.length) (H := H.set tb R ++ [r1] ++ [w0] ++ [.row 0 (pcE.f (newP p)) true] ++ [.row 0 [.int .i64 p.id, .slice (H.length + 1 + 1) 0 0 1 5 .full] true]) (f := 7) (id := H.length + 1 + 1 + 1) (g := 0) (w := 2) (cs := [.int .i64 p.id, .slice (H.length + 1 + 1) 0 0 1 5 .full]) (xs := [.int .i64 p.id, .isl (pcE.f (newP p)) 1 5]) (by omega) (get_last (by simp)) rfl (by simp only [mapO_cons, h1, inlB_int, Option.bind_some, Option.map_some, mapO_nil]) (by simp [immL, V.imm, pcE.imm])
        rw [h2, slV_some (by simp)]
        simp only [flatE, List.map_cons, List.map_nil, List.flatten_cons, List.flatten_nil, List.append_nil, whE_f, slV_some (E := pcE) (l := [newP p]) (b := true) (by simp)]
        rfl
      simp (disch := first | rfl | omega | exact byE_w | exact inE_w | exact boE_w | exact stE_w | exact pcE_w | exact whE_w | exact lt_new _ | assumption | (simp only [List.length_append, List.length_singleton, List.length_set, List.length_take, List.length_drop, List.length_map]; done) | (simp only [List.length_append, List.length_singleton, List.length_set, List.length_take, List.length_drop, List.length_map]; omega)) only [r32_0, r32_1, r32_2, r32_3, r32_4, r32_5, r32_6, r32_7, r32_8, r32_9, r32_10, r32_11, r32_12, r32_13, r32_14, r32_15, r32_16, r32_17, r32_18, r32_19, r32_20, r32_21, r32_22, r32_23, r32_24, r32_25, r32_26, r32_27, r32_28, r32_29, r32_30, r32_31, r32_32, c32, rs32, gc32, loadV_ptr, storeV_ptr, getRow_app', getRow_setS, getRow_setO, getRow_lastN, set_lastN, set_app, List.set_set, bl_nil, bl_all, getRow_bl, set_bl, pcE_s3, ↓reduceIte, go_sem, Nat.add_zero, Nat.zero_add, Nat.sub_zero, List.drop_zero, Nat.reduceLT, Nat.reduceEqDiff, Nat.reduceAdd, Nat.reduceMul, Nat.reduceSub, Int.reduceAdd, Int.reduceSub, Nat.reduceLeDiff, Int.reduceLT, Int.reduceLE, Int.reduceEq, Int.reduceNeg, Int.reduceToNat, IntWalk.i64_in, Bool.or_self, Bool.or_false, Bool.or_true, Bool.and_false, Bool.and_true, Bool.false_or, Bool.true_or, Bool.false_eq_true, Bool.true_eq_false, *]
      repeat' ((first | refine guardB_dec (fun hy => ?_) (fun hy => ?_) | refine guardB_bool (fun hy => ?_) (fun hy => ?_) | refine guardQ_ite (fun hy => ?_) (fun hy => ?_) | refine brQ_dec (fun hy => ?_) (fun hy => ?_) | refine brQ_bool (fun hy => ?_) (fun hy => ?_)) <;> (try simp only [Bool.not_eq_true', Bool.not_eq_false', Bool.and_eq_true, Bool.or_eq_false_iff, decide_eq_true_eq, decide_eq_false_iff_not] at hy) <;> simp (disch := first | rfl | omega | exact byE_w | exact inE_w | exact boE_w | exact stE_w | exact pcE_w | exact whE_w | exact lt_new _ | assumption | (simp only [List.length_append, List.length_singleton, List.length_set, List.length_take, List.length_drop, List.length_map]; done) | (simp only [List.length_append, List.length_singleton, List.length_set, List.length_take, List.length_drop, List.length_map]; omega)) only [r32_0, r32_1, r32_2, r32_3, r32_4, r32_5, r32_6, r32_7, r32_8, r32_9, r32_10, r32_11, r32_12, r32_13, r32_14, r32_15, r32_16, r32_17, r32_18, r32_19, r32_20, r32_21, r32_22, r32_23, r32_24, r32_25, r32_26, r32_27, r32_28, r32_29, r32_30, r32_31, r32_32, c32, rs32, gc32, loadV_ptr, storeV_ptr, getRow_app', getRow_setS, getRow_setO, getRow_lastN, set_lastN, set_app, List.set_set, bl_nil, bl_all, getRow_bl, set_bl, pcE_s3, ↓reduceIte, go_sem, Nat.add_zero, Nat.zero_add, Nat.sub_zero, List.drop_zero, Nat.reduceLT, Nat.reduceEqDiff, Nat.reduceAdd, Nat.reduceMul, Nat.reduceSub, Int.reduceAdd, Int.reduceSub, Nat.reduceLeDiff, Int.reduceLT, Int.reduceLE, Int.reduceEq, Int.reduceNeg, Int.reduceToNat, IntWalk.i64_in, Bool.or_self, Bool.or_false, Bool.or_true, Bool.and_false, Bool.and_true, Bool.false_or, Bool.true_or, Bool.false_eq_true, Bool.true_eq_false, *])
      all_goals (try first | (exfalso; simp_all; done) | (refine gcF_set2 ht (by simp only [↓reduceIte, go_sem, Nat.add_zero, Nat.zero_add, Nat.sub_zero, List.drop_zero, Nat.reduceLT, Nat.reduceEqDiff, Nat.reduceAdd, Nat.reduceMul, Nat.reduceSub, Int.reduceAdd, Int.reduceSub, Nat.reduceLeDiff, Int.reduceLT, Int.reduceLE, Int.reduceEq, Int.reduceNeg, Int.reduceToNat, IntWalk.i64_in, Bool.or_self, Bool.or_false, Bool.or_true, Bool.and_false, Bool.and_true, Bool.false_or, Bool.true_or, Bool.false_eq_true, Bool.true_eq_false]) ?_; simp only [↓reduceIte, go_sem, Nat.add_zero, Nat.zero_add, Nat.sub_zero, List.drop_zero, Nat.reduceLT, Nat.reduceEqDiff, Nat.reduceAdd, Nat.reduceMul, Nat.reduceSub, Int.reduceAdd, Int.reduceSub, Nat.reduceLeDiff, Int.reduceLT, Int.reduceLE, Int.reduceEq, Int.reduceNeg, Int.reduceToNat, IntWalk.i64_in, Bool.or_self, Bool.or_false, Bool.or_true, Bool.and_false, Bool.and_true, Bool.false_or, Bool.true_or, Bool.false_eq_true, Bool.true_eq_false, outV, tbH, tbC, slV_nil]; done) | (refine gcF_set3 ht (by simp only [↓reduceIte, go_sem, Nat.add_zero, Nat.zero_add, Nat.sub_zero, List.drop_zero, Nat.reduceLT, Nat.reduceEqDiff, Nat.reduceAdd, Nat.reduceMul, Nat.reduceSub, Int.reduceAdd, Int.reduceSub, Nat.reduceLeDiff, Int.reduceLT, Int.reduceLE, Int.reduceEq, Int.reduceNeg, Int.reduceToNat, IntWalk.i64_in, Bool.or_self, Bool.or_false, Bool.or_true, Bool.and_false, Bool.and_true, Bool.false_or, Bool.true_or, Bool.false_eq_true, Bool.true_eq_false]) ?_; simp only [↓reduceIte, go_sem, Nat.add_zero, Nat.zero_add, Nat.sub_zero, List.drop_zero, Nat.reduceLT, Nat.reduceEqDiff, Nat.reduceAdd, Nat.reduceMul, Nat.reduceSub, Int.reduceAdd, Int.reduceSub, Nat.reduceLeDiff, Int.reduceLT, Int.reduceLE, Int.reduceEq, Int.reduceNeg, Int.reduceToNat, IntWalk.i64_in, Bool.or_self, Bool.or_false, Bool.or_true, Bool.and_false, Bool.and_true, Bool.false_or, Bool.true_or, Bool.false_eq_true, Bool.true_eq_false, outV, tbH, tbC, slV_nil]; done) | (simp only [List.length_append, List.length_set, List.length_cons, List.length_nil, Nat.zero_add]; refine gcF_set4 ht (by simp only [↓reduceIte, go_sem, Nat.add_zero, Nat.zero_add, Nat.sub_zero, List.drop_zero, Nat.reduceLT, Nat.reduceEqDiff, Nat.reduceAdd, Nat.reduceMul, Nat.reduceSub, Int.reduceAdd, Int.reduceSub, Nat.reduceLeDiff, Int.reduceLT, Int.reduceLE, Int.reduceEq, Int.reduceNeg, Int.reduceToNat, IntWalk.i64_in, Bool.or_self, Bool.or_false, Bool.or_true, Bool.and_false, Bool.and_true, Bool.false_or, Bool.true_or, Bool.false_eq_true, Bool.true_eq_false]) ?_; simp (disch := first | rfl | omega | exact byE_w | exact inE_w | exact boE_w | exact stE_w | exact pcE_w | exact whE_w | exact lt_new _ | assumption | (simp only [List.length_append, List.length_singleton, List.length_set, List.length_take, List.length_drop, List.length_map]; done) | (simp only [List.length_append, List.length_singleton, List.length_set, List.length_take, List.length_drop, List.length_map]; omega)) only [↓reduceIte, go_sem, Nat.add_zero, Nat.zero_add, Nat.sub_zero, List.drop_zero, Nat.reduceLT, Nat.reduceEqDiff, Nat.reduceAdd, Nat.reduceMul, Nat.reduceSub, Int.reduceAdd, Int.reduceSub, Nat.reduceLeDiff, Int.reduceLT, Int.reduceLE, Int.reduceEq, Int.reduceNeg, Int.reduceToNat, IntWalk.i64_in, Bool.or_self, Bool.or_false, Bool.or_true, Bool.and_false, Bool.and_true, Bool.false_or, Bool.true_or, Bool.false_eq_true, Bool.true_eq_false, outV, tbH, tbC, slV_nil, hfin]; done))
  · have e : refPut pol [] p = (([], 0, askedI p), none) := by unfold refPut; rw [if_pos ha]
    rw [e]
    simp (disch := first | rfl | omega | exact byE_w | exact inE_w | exact boE_w | exact stE_w | exact pcE_w | exact whE_w | exact lt_new _ | assumption | (simp only [List.length_append, List.length_singleton, List.length_set, List.length_take, List.length_drop, List.length_map]; done) | (simp only [List.length_append, List.length_singleton, List.length_set, List.length_take, List.length_drop, List.length_map]; omega)) only [r32_0, r32_1, r32_2, r32_3, r32_4, r32_5, r32_6, r32_7, r32_8, r32_9, r32_10, r32_11, r32_12, r32_13, r32_14, r32_15, r32_16, r32_17, r32_18, r32_19, r32_20, r32_21, r32_22, r32_23, r32_24, r32_25, r32_26, r32_27, r32_28, r32_29, r32_30, r32_31, r32_32, c32, rs32, gc32, loadV_ptr, storeV_ptr, getRow_app', getRow_setS, getRow_setO, getRow_lastN, set_lastN, set_app, List.set_set, bl_nil, bl_all, getRow_bl, set_bl, ↓reduceIte, go_sem, Nat.add_zero, Nat.zero_add, Nat.sub_zero, List.drop_zero, Nat.reduceLT, Nat.reduceEqDiff, Nat.reduceAdd, Nat.reduceMul, Nat.reduceSub, Int.reduceAdd, Int.reduceSub, Nat.reduceLeDiff, Int.reduceLT, Int.reduceLE, Int.reduceEq, Int.reduceNeg, Int.reduceToNat, IntWalk.i64_in, Bool.or_self, Bool.or_false, Bool.or_true, Bool.and_false, Bool.and_true, Bool.false_or, Bool.true_or, Bool.false_eq_true, Bool.true_eq_false, *]
    repeat' ((first | refine guardB_dec (fun hy => ?_) (fun hy => ?_) | refine guardB_bool (fun hy => ?_) (fun hy => ?_) | refine guardQ_ite (fun hy => ?_) (fun hy => ?_) | refine brQ_dec (fun hy => ?_) (fun hy => ?_) | refine brQ_bool (fun hy => ?_) (fun hy => ?_)) <;> (try simp only [Bool.not_eq_true', Bool.not_eq_false', Bool.and_eq_true, Bool.or_eq_false_iff, decide_eq_true_eq, decide_eq_false_iff_not] at hy) <;> simp (disch := first | rfl | omega | exact byE_w | exact inE_w | exact boE_w | exact stE_w | exact pcE_w | exact whE_w | exact lt_new _ | assumption | (simp only [List.length_append, List.length_singleton, List.length_set, List.length_take, List.length_drop, List.length_map]; done) | (simp only [List.length_append, List.length_singleton, List.length_set, List.length_take, List.length_drop, List.length_map]; omega)) only [r32_0, r32_1, r32_2, r32_3, r32_4, r32_5, r32_6, r32_7, r32_8, r32_9, r32_10, r32_11, r32_12, r32_13, r32_14, r32_15, r32_16, r32_17, r32_18, r32_19, r32_20, r32_21, r32_22, r32_23, r32_24, r32_25, r32_26, r32_27, r32_28, r32_29, r32_30, r32_31, r32_32, c32, rs32, gc32, loadV_ptr, storeV_ptr, getRow_app', getRow_setS, getRow_setO, getRow_lastN, set_lastN, set_app, List.set_set, bl_nil, bl_all, getRow_bl, set_bl, ↓reduceIte, go_sem, Nat.add_zero, Nat.zero_add, Nat.sub_zero, List.drop_zero, Nat.reduceLT, Nat.reduceEqDiff, Nat.reduceAdd, Nat.reduceMul, Nat.reduceSub, Int.reduceAdd, Int.reduceSub, Nat.reduceLeDiff, Int.reduceLT, Int.reduceLE, Int.reduceEq, Int.reduceNeg, Int.reduceToNat, IntWalk.i64_in, Bool.or_self, Bool.or_false, Bool.or_true, Bool.and_false, Bool.and_true, Bool.false_or, Bool.true_or, Bool.false_eq_true, Bool.true_eq_false, *])
    all_goals (try ((first | refine finQ_same ?_ | refine finQ_app ?_ | (rw [List.append_assoc]; refine finQ_app ?_)) <;> simp (disch := first | rfl | omega | exact byE_w | exact inE_w | exact boE_w | exact stE_w | exact pcE_w | exact whE_w | exact lt_new _ | assumption | (simp only [List.length_append, List.length_singleton, List.length_set, List.length_take, List.length_drop, List.length_map]; done) | (simp only [List.length_append, List.length_singleton, List.length_set, List.length_take, List.length_drop, List.length_map]; omega)) only [outV, tbH, slV_nil, ↓reduceIte, go_sem, Nat.add_zero, Nat.zero_add, Nat.sub_zero, List.drop_zero, Nat.reduceLT, Nat.reduceEqDiff, Nat.reduceAdd, Nat.reduceMul, Nat.reduceSub, Int.reduceAdd, Int.reduceSub, Nat.reduceLeDiff, Int.reduceLT, Int.reduceLE, Int.reduceEq, Int.reduceNeg, Int.reduceToNat, IntWalk.i64_in, Bool.or_self, Bool.or_false, Bool.or_true, Bool.and_false, Bool.and_true, Bool.false_or, Bool.true_or, Bool.false_eq_true, Bool.true_eq_false, List.append_assoc, List.cons_append, List.nil_append, *]))
    all_goals (try first | rfl | (simp [*]; done) | grind)
end Go.Proofs.Ytdpdlobaabcjjab
/-
  The reference's Whole, walked. No statement of the seat stands here.
-/
namespace Go.Proofs.Ytdpdlobaabcjjab
open Go Go.An
set_option maxRecDepth 4000
set_option linter.unusedSimpArgs false
set_option linter.unusedVariables false

def wsOf (id : Int) (l : List Pc) : List Wh := if l = [] then [] else [⟨id, true, l⟩]
/-- What becomes of a piece of the only whole, whose pieces are these. -/
def refStep (pol : Int) (l : List Pc) (p : Pc) : (List UInt8 × Int × Int) × List Pc :=
  if askedI p ≠ 0 then (([], 0, askedI p), l) else
  if nothB p = true then (([], 2, 0), l) else
  if strM l p = true then (([], 4, 0), []) else
  if (decide (pol = 3) && dfM l pol p p.data.length) = true then (([], 3, 0), []) else
  if (resB (l ++ [newP p]) pol).2 = true then (((resB (l ++ [newP p]) pol).1, 1, 0), []) else
  (([], if newsB l pol p = true then 0 else 2, 0), l ++ [newP p])
theorem set_same {H : Hp} {k : Nat} {b : AB} (h : H[k]? = some b) : H.set k b = H := by
  apply List.ext_getElem?
  intro i
  rw [List.getElem?_set]
  split
  · rename_i e; subst e
    split
    · exact h.symm
    · rename_i hlt
      rw [List.getElem?_eq_none (by omega)]
  · rfl
theorem fn32s {tb : Nat} {pol : Int} {b : Bool} {p : Pc} {l : List Pc} {H : Hp} (ht : H[tb]? = some (.row 0 (tbC pol b (wsOf p.id l)) true)) (hp : PcOk p) (hl : l.length ≤ 900) (hn : ∀ q ∈ l, Near q) :
    ∃ b', callL Try.prog pr 32 [.ptr tb 0 0, .agg (pcE.f p)] H = some (outV (refStep pol l p).1, H.set tb (.row 0 (tbC pol b' (wsOf p.id (refStep pol l p).2)) true)) := by
  by_cases h0 : l = []
  · subst h0
    rw [show wsOf p.id [] = [] from rfl] at ht
    have := fn32z ht hp
    obtain ⟨w1, w2, w3⟩ := wsFor_nil p
    unfold refPut at this
    rw [w1, w2] at this
    rw [this]
    unfold refStep
    by_cases ha : askedI p ≠ 0
    · rw [if_pos ha, if_pos ha]
      exact ⟨b, by rw [show wsOf p.id [] = [] from rfl, set_same ht]; rfl⟩
    rw [if_neg ha, if_neg ha]
    by_cases hno : nothB p = true
    · rw [if_pos hno, if_pos hno]
      exact ⟨b, by rw [show wsOf p.id [] = [] from rfl, set_same ht]; rfl⟩
    rw [if_neg hno, if_neg hno, if_neg (by simp)]
    refine ⟨true, ?_⟩
    have ew : whE.at [⟨p.id, true, []⟩] 0 = ⟨p.id, true, []⟩ := rfl
    simp only [ew]
    by_cases h1 : strM [] p = true
    · simp only [if_pos h1]; rfl
    · simp only [if_neg h1]
      by_cases h2 : (decide (pol = 3) && dfM [] pol p p.data.length) = true
      · rw [if_pos h2, if_pos h2]; rfl
      · rw [if_neg h2, if_neg h2]
        by_cases h3 : (resB ([] ++ [newP p]) pol).2 = true
        · rw [if_pos h3, if_pos h3]; rfl
        · rw [if_neg h3, if_neg h3]; rfl
  · have e1 : wsOf p.id l = [⟨p.id, true, l⟩] := by unfold wsOf; rw [if_neg h0]
    rw [e1] at ht
    have hf : findW [⟨p.id, true, l⟩] p.id = 0 := by simp [findW, findI]
    have := fn32in ht ⟨by simp, by simp; exact ⟨hl, hn⟩⟩ hp (by omega)
    obtain ⟨w1, w2⟩ := wsFor_in (ws := [⟨p.id, true, l⟩]) (p := p) (by omega)
    unfold refPut at this
    rw [w1, w2, hf] at this
    rw [this]
    unfold refStep
    by_cases ha : askedI p ≠ 0
    · rw [if_pos ha, if_pos ha]
      exact ⟨b, by rw [e1, set_same ht]; rfl⟩
    rw [if_neg ha, if_neg ha]
    by_cases hno : nothB p = true
    · rw [if_pos hno, if_pos hno]
      exact ⟨b, by rw [e1, set_same ht]; rfl⟩
    rw [if_neg hno, if_neg hno, if_neg (by simp)]
    refine ⟨true, ?_⟩
    have ew : whE.at [⟨p.id, true, l⟩] (0 : Int).toNat = ⟨p.id, true, l⟩ := rfl
    simp only [ew]
    by_cases h1 : strM l p = true
    · simp only [if_pos h1]; rfl
    · simp only [if_neg h1]
      by_cases h2 : (decide (pol = 3) && dfM l pol p p.data.length) = true
      · rw [if_pos h2, if_pos h2]; rfl
      · rw [if_neg h2, if_neg h2]
        by_cases h3 : (resB (l ++ [newP p]) pol).2 = true
        · rw [if_pos h3, if_pos h3]; rfl
        · rw [if_neg h3, if_neg h3]
          have e2 : wsOf p.id (l ++ [newP p]) = [⟨p.id, true, l ++ [newP p]⟩] := by unfold wsOf; rw [if_neg (by simp)]
          rw [e2]; rfl
theorem fn31 (pol : Int) (H : Hp) : callL Try.prog pr 31 [.int .i64 pol] H = some (if pol < 0 ∨ 3 < pol then (.tup [.nilptr, .int .i64 1], H) else (.tup [.ptr H.length 0 0, .int .i64 0], H ++ [.row 0 (tbC pol true []) true])) := by
  refine run31 (Nat.le_of_ble_eq_true rfl) ?_
  simp (disch := first | rfl | omega | exact byE_w | exact inE_w | exact boE_w | exact stE_w | exact pcE_w | exact whE_w | exact lt_new _ | assumption | (simp only [List.length_append, List.length_singleton, List.length_set, List.length_take, List.length_drop, List.length_map]; done) | (simp only [List.length_append, List.length_singleton, List.length_set, List.length_take, List.length_drop, List.length_map]; omega)) only [r31_0, r31_1, r31_2, r31_3, c31, rs31, gc31, ↓reduceIte, go_sem, Nat.add_zero, Nat.zero_add, Nat.sub_zero, List.drop_zero, Nat.reduceLT, Nat.reduceEqDiff, Nat.reduceAdd, Nat.reduceMul, Nat.reduceSub, Int.reduceAdd, Int.reduceSub, Nat.reduceLeDiff, Int.reduceLT, Int.reduceLE, Int.reduceEq, Int.reduceNeg, Int.reduceToNat, IntWalk.i64_in, Bool.or_self, Bool.or_false, Bool.or_true, Bool.and_false, Bool.and_true, Bool.false_or, Bool.true_or, Bool.false_eq_true, Bool.true_eq_false]
  repeat' ((first | refine guardB_dec (fun hy => ?_) (fun hy => ?_) | refine guardB_bool (fun hy => ?_) (fun hy => ?_) | refine guardQ_ite (fun hy => ?_) (fun hy => ?_) | refine brQ_dec (fun hy => ?_) (fun hy => ?_) | refine brQ_bool (fun hy => ?_) (fun hy => ?_)) <;> (try simp only [Bool.not_eq_true', Bool.not_eq_false', Bool.and_eq_true, Bool.or_eq_false_iff, decide_eq_true_eq, decide_eq_false_iff_not] at hy) <;> simp (disch := first | rfl | omega | exact byE_w | exact inE_w | exact boE_w | exact stE_w | exact pcE_w | exact whE_w | exact lt_new _ | assumption | (simp only [List.length_append, List.length_singleton, List.length_set, List.length_take, List.length_drop, List.length_map]; done) | (simp only [List.length_append, List.length_singleton, List.length_set, List.length_take, List.length_drop, List.length_map]; omega)) only [r31_0, r31_1, r31_2, r31_3, c31, rs31, gc31, ↓reduceIte, go_sem, Nat.add_zero, Nat.zero_add, Nat.sub_zero, List.drop_zero, Nat.reduceLT, Nat.reduceEqDiff, Nat.reduceAdd, Nat.reduceMul, Nat.reduceSub, Int.reduceAdd, Int.reduceSub, Nat.reduceLeDiff, Int.reduceLT, Int.reduceLE, Int.reduceEq, Int.reduceNeg, Int.reduceToNat, IntWalk.i64_in, Bool.or_self, Bool.or_false, Bool.or_true, Bool.and_false, Bool.and_true, Bool.false_or, Bool.true_or, Bool.false_eq_true, Bool.true_eq_false, hy])
  all_goals simp_all [tbC, slV_nil]
/-- All pieces, one behind the other, up to the one that decides. -/
def refRun (pol : Int) : List Pc → List Pc → List UInt8 × Int × Int
  | _, [] => ([], 0, 0)
  | l, p :: ps =>
    if (refStep pol l p).1.2.2 ≠ 0 then ([], 0, (refStep pol l p).1.2.2) else
    if (refStep pol l p).1.2.1 = 1 ∨ (refStep pol l p).1.2.1 = 3 ∨ (refStep pol l p).1.2.1 = 4 then ((refStep pol l p).1.1, (refStep pol l p).1.2.1, 0) else
    refRun pol (refStep pol l p).2 ps
theorem refRun_cons (pol : Int) (l : List Pc) (p : Pc) (ps : List Pc) : refRun pol l (p :: ps) = if (refStep pol l p).1.2.2 ≠ 0 then ([], 0, (refStep pol l p).1.2.2) else
    if (refStep pol l p).1.2.1 = 1 ∨ (refStep pol l p).1.2.1 = 3 ∨ (refStep pol l p).1.2.1 = 4 then ((refStep pol l p).1.1, (refStep pol l p).1.2.1, 0) else
    refRun pol (refStep pol l p).2 ps := rfl
def notSame (l : List Pc) (p : Pc) : Bool := decide (p.id ≠ (pcE.at l 0).id)
def refWhole (l : List Pc) (pol : Int) : List UInt8 × Int × Int :=
  if pol < 0 ∨ 3 < pol then ([], 0, 1) else if l.any (notSame l) = true then ([], 0, 10) else refRun pol [] l
theorem refStep_ok {pol : Int} {l : List Pc} {p : Pc} (hp : PcOk p) (hn : ∀ q ∈ l, Near q) : (∀ q ∈ (refStep pol l p).2, Near q) ∧ (refStep pol l p).2.length ≤ l.length + 1 := by
  unfold refStep
  split
  · exact ⟨hn, by simp⟩
  rename_i ha
  split
  · exact ⟨hn, by simp⟩
  split
  · simp
  split
  · simp
  split
  · simp
  · refine ⟨fun q hq => ?_, by simp⟩
    rcases List.mem_append.1 hq with hq | hq
    · exact hn q hq
    · obtain rfl := List.mem_singleton.1 hq
      have np := near_of hp (by omega)
      exact ⟨⟨np.ok.small, np.ok.rid, np.ok.rat, np.ok.rtime⟩, np.lo, np.hi⟩
theorem any_first {α : Type} (E : Enc α) (q : α → Bool) {l : List α} {i : Nat} (h : i < l.length) : (l.drop i).any q = (q (E.at l i) || (l.drop (i + 1)).any q) := by
  rw [E.drop_at h]; rfl
set_option maxHeartbeats 1000000 in
theorem fn13 {b : Bool} {l : List Pc} (pol : Int) (hok : ∀ p ∈ l, PcOk p) (hlen : l.length ≤ 800) (H : Hp) : callL Try.prog pr 13 [slV b pcE l, .int .i64 pol] H = some (outV (refWhole l pol), H) := by
  have h31 := fn31 pol
  refine run13 (Nat.le_of_ble_eq_true rfl) ?_
  by_cases hpol : pol < 0 ∨ 3 < pol
  · have e : refWhole l pol = ([], 0, 1) := by unfold refWhole; rw [if_pos hpol]
    simp only [if_pos hpol] at h31
    rw [e]
    simp (disch := first | rfl | omega | exact byE_w | exact inE_w | exact boE_w | exact stE_w | exact pcE_w | exact whE_w | exact lt_new _ | assumption | (simp only [List.length_append, List.length_singleton, List.length_set, List.length_take, List.length_drop, List.length_map]; done) | (simp only [List.length_append, List.length_singleton, List.length_set, List.length_take, List.length_drop, List.length_map]; omega)) only [r13_0, r13_1, r13_2, r13_3, r13_4, r13_5, r13_6, r13_7, r13_8, r13_10, r13_11, r13_12, r13_13, r13_14, r13_15, r13_16, r13_17, r13_19, c13, rs13, gc13, h31, ↓reduceIte, go_sem, Nat.add_zero, Nat.zero_add, Nat.sub_zero, List.drop_zero, Nat.reduceLT, Nat.reduceEqDiff, Nat.reduceAdd, Nat.reduceMul, Nat.reduceSub, Int.reduceAdd, Int.reduceSub, Nat.reduceLeDiff, Int.reduceLT, Int.reduceLE, Int.reduceEq, Int.reduceNeg, Int.reduceToNat, IntWalk.i64_in, Bool.or_self, Bool.or_false, Bool.or_true, Bool.and_false, Bool.and_true, Bool.false_or, Bool.true_or, Bool.false_eq_true, Bool.true_eq_false]
    repeat' ((first | refine guardB_dec (fun hy => ?_) (fun hy => ?_) | refine guardB_bool (fun hy => ?_) (fun hy => ?_) | refine guardQ_ite (fun hy => ?_) (fun hy => ?_) | refine brQ_dec (fun hy => ?_) (fun hy => ?_) | refine brQ_bool (fun hy => ?_) (fun hy => ?_)) <;> (try simp only [Bool.not_eq_true', Bool.not_eq_false', Bool.and_eq_true, Bool.or_eq_false_iff, decide_eq_true_eq, decide_eq_false_iff_not] at hy) <;> simp (disch := first | rfl | omega | exact byE_w | exact inE_w | exact boE_w | exact stE_w | exact pcE_w | exact whE_w | exact lt_new _ | assumption | (simp only [List.length_append, List.length_singleton, List.length_set, List.length_take, List.length_drop, List.length_map]; done) | (simp only [List.length_append, List.length_singleton, List.length_set, List.length_take, List.length_drop, List.length_map]; omega)) only [r13_0, r13_1, r13_2, r13_3, r13_4, r13_5, r13_6, r13_7, r13_8, r13_10, r13_11, r13_12, r13_13, r13_14, r13_15, r13_16, r13_17, r13_19, c13, rs13, gc13, h31, ↓reduceIte, go_sem, Nat.add_zero, Nat.zero_add, Nat.sub_zero, List.drop_zero, Nat.reduceLT, Nat.reduceEqDiff, Nat.reduceAdd, Nat.reduceMul, Nat.reduceSub, Int.reduceAdd, Int.reduceSub, Nat.reduceLeDiff, Int.reduceLT, Int.reduceLE, Int.reduceEq, Int.reduceNeg, Int.reduceToNat, IntWalk.i64_in, Bool.or_self, Bool.or_false, Bool.or_true, Bool.and_false, Bool.and_true, Bool.false_or, Bool.true_or, Bool.false_eq_true, Bool.true_eq_false, hy])
    all_goals (try ((first | refine finQ_same ?_ | refine finQ_app ?_ | (rw [List.append_assoc]; refine finQ_app ?_)) <;> simp (disch := first | rfl | omega | exact byE_w | exact inE_w | exact boE_w | exact stE_w | exact pcE_w | exact whE_w | exact lt_new _ | assumption | (simp only [List.length_append, List.length_singleton, List.length_set, List.length_take, List.length_drop, List.length_map]; done) | (simp only [List.length_append, List.length_singleton, List.length_set, List.length_take, List.length_drop, List.length_map]; omega)) only [outV, slV_nil, ↓reduceIte, go_sem, Nat.add_zero, Nat.zero_add, Nat.sub_zero, List.drop_zero, Nat.reduceLT, Nat.reduceEqDiff, Nat.reduceAdd, Nat.reduceMul, Nat.reduceSub, Int.reduceAdd, Int.reduceSub, Nat.reduceLeDiff, Int.reduceLT, Int.reduceLE, Int.reduceEq, Int.reduceNeg, Int.reduceToNat, IntWalk.i64_in, Bool.or_self, Bool.or_false, Bool.or_true, Bool.and_false, Bool.and_true, Bool.false_or, Bool.true_or, Bool.false_eq_true, Bool.true_eq_false, List.append_assoc, List.cons_append, List.nil_append]))
    all_goals (try first | rfl | (simp [*]; done) | grind)
  · simp only [if_neg hpol] at h31
    simp (disch := first | rfl | omega | exact byE_w | exact inE_w | exact boE_w | exact stE_w | exact pcE_w | exact whE_w | exact lt_new _ | assumption | (simp only [List.length_append, List.length_singleton, List.length_set, List.length_take, List.length_drop, List.length_map]; done) | (simp only [List.length_append, List.length_singleton, List.length_set, List.length_take, List.length_drop, List.length_map]; omega)) only [r13_0, r13_1, r13_2, r13_3, r13_4, r13_5, r13_6, r13_7, r13_8, r13_10, r13_11, r13_12, r13_13, r13_14, r13_15, r13_16, r13_17, r13_19, c13, rs13, gc13, h31, ↓reduceIte, go_sem, Nat.add_zero, Nat.zero_add, Nat.sub_zero, List.drop_zero, Nat.reduceLT, Nat.reduceEqDiff, Nat.reduceAdd, Nat.reduceMul, Nat.reduceSub, Int.reduceAdd, Int.reduceSub, Nat.reduceLeDiff, Int.reduceLT, Int.reduceLE, Int.reduceEq, Int.reduceNeg, Int.reduceToNat, IntWalk.i64_in, Bool.or_self, Bool.or_false, Bool.or_true, Bool.and_false, Bool.and_true, Bool.false_or, Bool.true_or, Bool.false_eq_true, Bool.true_eq_false]
    repeat' ((first | refine guardB_dec (fun hy => ?_) (fun hy => ?_) | refine guardB_bool (fun hy => ?_) (fun hy => ?_) | refine guardQ_ite (fun hy => ?_) (fun hy => ?_) | refine brQ_dec (fun hy => ?_) (fun hy => ?_) | refine brQ_bool (fun hy => ?_) (fun hy => ?_)) <;> (try simp only [Bool.not_eq_true', Bool.not_eq_false', Bool.and_eq_true, Bool.or_eq_false_iff, decide_eq_true_eq, decide_eq_false_iff_not] at hy) <;> simp (disch := first | rfl | omega | exact byE_w | exact inE_w | exact boE_w | exact stE_w | exact pcE_w | exact whE_w | exact lt_new _ | assumption | (simp only [List.length_append, List.length_singleton, List.length_set, List.length_take, List.length_drop, List.length_map]; done) | (simp only [List.length_append, List.length_singleton, List.length_set, List.length_take, List.length_drop, List.length_map]; omega)) only [r13_0, r13_1, r13_2, r13_3, r13_4, r13_5, r13_6, r13_7, r13_8, r13_10, r13_11, r13_12, r13_13, r13_14, r13_15, r13_16, r13_17, r13_19, c13, rs13, gc13, h31, ↓reduceIte, go_sem, Nat.add_zero, Nat.zero_add, Nat.sub_zero, List.drop_zero, Nat.reduceLT, Nat.reduceEqDiff, Nat.reduceAdd, Nat.reduceMul, Nat.reduceSub, Int.reduceAdd, Int.reduceSub, Nat.reduceLeDiff, Int.reduceLT, Int.reduceLE, Int.reduceEq, Int.reduceNeg, Int.reduceToNat, IntWalk.i64_in, Bool.or_self, Bool.or_false, Bool.or_true, Bool.and_false, Bool.and_true, Bool.false_or, Bool.true_or, Bool.false_eq_true, Bool.true_eq_false, hy])
    refine Wp_loop (fun m T D H' => ∃ i, m = l.length - i ∧ i ≤ l.length ∧ D = [] ∧ H' = H ++ [.row 0 (tbC pol true []) true] ∧ get T 0 = slV b pcE l ∧ get T 1 = .int .i64 pol ∧ get T 7 = .ptr H.length 0 0 ∧ get T 9 = .int .i64 i ∧ l.any (notSame l) = (l.drop i).any (notSame l)) ?_ l.length _ _ _ ?_
    · rintro m T D H' ⟨i, rfl, hi, rfl, rfl, t0, t1, t7, t9, hany⟩
      by_cases hlt : i < l.length
      · have hlt' : (i : Int) < l.length := by omega
        have h0l : 0 < l.length := by omega
        have ld0 := ldP0 (H := H ++ [.row 0 (tbC pol true []) true]) h0l
        rw [any_first pcE (notSame l) hlt] at hany
        have hns : notSame l (pcE.at l i) = decide ((pcE.at l i).id ≠ (pcE.at l 0).id) := rfl
        simp (disch := first | rfl | omega | exact byE_w | exact inE_w | exact boE_w | exact stE_w | exact pcE_w | exact whE_w | exact lt_new _ | assumption | (simp only [List.length_append, List.length_singleton, List.length_set, List.length_take, List.length_drop, List.length_map]; done) | (simp only [List.length_append, List.length_singleton, List.length_set, List.length_take, List.length_drop, List.length_map]; omega)) only [l13_9, r13_5, r13_6, r13_7, r13_8, rs13, gc13, t0, t1, t7, t9, hlt', decide_true, ldP0 hlt, ld0, Nat.zero_mul, ↓reduceIte, go_sem, Nat.add_zero, Nat.zero_add, Nat.sub_zero, List.drop_zero, Nat.reduceLT, Nat.reduceEqDiff, Nat.reduceAdd, Nat.reduceMul, Nat.reduceSub, Int.reduceAdd, Int.reduceSub, Nat.reduceLeDiff, Int.reduceLT, Int.reduceLE, Int.reduceEq, Int.reduceNeg, Int.reduceToNat, IntWalk.i64_in, Bool.or_self, Bool.or_false, Bool.or_true, Bool.and_false, Bool.and_true, Bool.false_or, Bool.true_or, Bool.false_eq_true, Bool.true_eq_false]
        repeat' ((first | refine guardB_dec (fun hy => ?_) (fun hy => ?_) | refine guardB_bool (fun hy => ?_) (fun hy => ?_) | refine guardQ_ite (fun hy => ?_) (fun hy => ?_) | refine brQ_dec (fun hy => ?_) (fun hy => ?_) | refine brQ_bool (fun hy => ?_) (fun hy => ?_)) <;> (try simp only [Bool.not_eq_true', Bool.not_eq_false', Bool.and_eq_true, Bool.or_eq_false_iff, decide_eq_true_eq, decide_eq_false_iff_not] at hy) <;> simp (disch := first | rfl | omega | exact byE_w | exact inE_w | exact boE_w | exact stE_w | exact pcE_w | exact whE_w | exact lt_new _ | assumption | (simp only [List.length_append, List.length_singleton, List.length_set, List.length_take, List.length_drop, List.length_map]; done) | (simp only [List.length_append, List.length_singleton, List.length_set, List.length_take, List.length_drop, List.length_map]; omega)) only [l13_9, r13_5, r13_6, r13_7, r13_8, rs13, gc13, t0, t1, t7, t9, hlt', decide_true, ldP0 hlt, ld0, Nat.zero_mul, ↓reduceIte, go_sem, Nat.add_zero, Nat.zero_add, Nat.sub_zero, List.drop_zero, Nat.reduceLT, Nat.reduceEqDiff, Nat.reduceAdd, Nat.reduceMul, Nat.reduceSub, Int.reduceAdd, Int.reduceSub, Nat.reduceLeDiff, Int.reduceLT, Int.reduceLE, Int.reduceEq, Int.reduceNeg, Int.reduceToNat, IntWalk.i64_in, Bool.or_self, Bool.or_false, Bool.or_true, Bool.and_false, Bool.and_true, Bool.false_or, Bool.true_or, Bool.false_eq_true, Bool.true_eq_false, hy])
        · have e : refWhole l pol = ([], 0, 10) := by
            unfold refWhole
            rw [if_neg hpol, hany, hns, decide_eq_true hy]
            rfl
          rw [e]
          all_goals (try ((first | refine finQ_same ?_ | refine finQ_app ?_ | (rw [List.append_assoc]; refine finQ_app ?_)) <;> simp (disch := first | rfl | omega | exact byE_w | exact inE_w | exact boE_w | exact stE_w | exact pcE_w | exact whE_w | exact lt_new _ | assumption | (simp only [List.length_append, List.length_singleton, List.length_set, List.length_take, List.length_drop, List.length_map]; done) | (simp only [List.length_append, List.length_singleton, List.length_set, List.length_take, List.length_drop, List.length_map]; omega)) only [outV, slV_nil, ↓reduceIte, go_sem, Nat.add_zero, Nat.zero_add, Nat.sub_zero, List.drop_zero, Nat.reduceLT, Nat.reduceEqDiff, Nat.reduceAdd, Nat.reduceMul, Nat.reduceSub, Int.reduceAdd, Int.reduceSub, Nat.reduceLeDiff, Int.reduceLT, Int.reduceLE, Int.reduceEq, Int.reduceNeg, Int.reduceToNat, IntWalk.i64_in, Bool.or_self, Bool.or_false, Bool.or_true, Bool.and_false, Bool.and_true, Bool.false_or, Bool.true_or, Bool.false_eq_true, Bool.true_eq_false, List.append_assoc, List.cons_append, List.nil_append]))
          all_goals (try first | rfl | (simp [*]; done) | grind)
        · rw [hns, decide_eq_false (by simpa using hy), Bool.false_or] at hany
          exact ⟨_, by omega, i + 1, rfl, hlt, rfl, hany⟩
      · obtain rfl : i = l.length := by omega
        rw [List.drop_length, List.any_nil] at hany
        have e : refWhole l pol = refRun pol [] l := by
          unfold refWhole
          rw [if_neg hpol, hany]
          rfl
        have hid : ∀ i, i < l.length → (pcE.at l i).id = (pcE.at l 0).id := by
          intro i hi
          have := List.any_eq_false.1 hany _ (pcE.at_mem hi)
          simpa [notSame] using this
        rw [e]
        simp (disch := first | rfl | omega | exact byE_w | exact inE_w | exact boE_w | exact stE_w | exact pcE_w | exact whE_w | exact lt_new _ | assumption | (simp only [List.length_append, List.length_singleton, List.length_set, List.length_take, List.length_drop, List.length_map]; done) | (simp only [List.length_append, List.length_singleton, List.length_set, List.length_take, List.length_drop, List.length_map]; omega)) only [l13_9, r13_5, r13_6, r13_7, r13_8, r13_10, r13_19, rs13, gc13, t0, t1, t7, t9, Int.lt_irrefl, decide_false, ↓reduceIte, go_sem, Nat.add_zero, Nat.zero_add, Nat.sub_zero, List.drop_zero, Nat.reduceLT, Nat.reduceEqDiff, Nat.reduceAdd, Nat.reduceMul, Nat.reduceSub, Int.reduceAdd, Int.reduceSub, Nat.reduceLeDiff, Int.reduceLT, Int.reduceLE, Int.reduceEq, Int.reduceNeg, Int.reduceToNat, IntWalk.i64_in, Bool.or_self, Bool.or_false, Bool.or_true, Bool.and_false, Bool.and_true, Bool.false_or, Bool.true_or, Bool.false_eq_true, Bool.true_eq_false]
        repeat' ((first | refine guardB_dec (fun hy => ?_) (fun hy => ?_) | refine guardB_bool (fun hy => ?_) (fun hy => ?_) | refine guardQ_ite (fun hy => ?_) (fun hy => ?_) | refine brQ_dec (fun hy => ?_) (fun hy => ?_) | refine brQ_bool (fun hy => ?_) (fun hy => ?_)) <;> (try simp only [Bool.not_eq_true', Bool.not_eq_false', Bool.and_eq_true, Bool.or_eq_false_iff, decide_eq_true_eq, decide_eq_false_iff_not] at hy) <;> simp (disch := first | rfl | omega | exact byE_w | exact inE_w | exact boE_w | exact stE_w | exact pcE_w | exact whE_w | exact lt_new _ | assumption | (simp only [List.length_append, List.length_singleton, List.length_set, List.length_take, List.length_drop, List.length_map]; done) | (simp only [List.length_append, List.length_singleton, List.length_set, List.length_take, List.length_drop, List.length_map]; omega)) only [l13_9, r13_5, r13_6, r13_7, r13_8, r13_10, r13_19, rs13, gc13, t0, t1, t7, t9, Int.lt_irrefl, decide_false, ↓reduceIte, go_sem, Nat.add_zero, Nat.zero_add, Nat.sub_zero, List.drop_zero, Nat.reduceLT, Nat.reduceEqDiff, Nat.reduceAdd, Nat.reduceMul, Nat.reduceSub, Int.reduceAdd, Int.reduceSub, Nat.reduceLeDiff, Int.reduceLT, Int.reduceLE, Int.reduceEq, Int.reduceNeg, Int.reduceToNat, IntWalk.i64_in, Bool.or_self, Bool.or_false, Bool.or_true, Bool.and_false, Bool.and_true, Bool.false_or, Bool.true_or, Bool.false_eq_true, Bool.true_eq_false, hy])
        refine Wp_loop (fun m T D H' => ∃ i ls b2, m = l.length - i ∧ i ≤ l.length ∧ D = [] ∧ H' = H ++ [.row 0 (tbC pol b2 (wsOf (pcE.at l 0).id ls)) true] ∧ get T 0 = slV b pcE l ∧ get T 1 = .int .i64 pol ∧ get T 7 = .ptr H.length 0 0 ∧ get T 10 = .int .i64 i ∧ refRun pol [] l = refRun pol ls (l.drop i) ∧ (∀ q ∈ ls, Near q) ∧ ls.length ≤ i) ?_ l.length _ _ _ ?_
        · rintro m T D H' ⟨i, ls, b2, rfl, hi, rfl, rfl, t0, t1, t7, t10, hrun, hnl, hll⟩
          by_cases hlt : i < l.length
          · have hlt' : (i : Int) < l.length := by omega
            have hpo := hok _ (pcE.at_mem hlt)
            have hidi := hid i hlt
            have h32 := fn32s (tb := H.length) (pol := pol) (b := b2) (p := pcE.at l i) (l := ls) (H := H ++ [.row 0 (tbC pol b2 (wsOf (pcE.at l 0).id ls)) true]) (by rw [hidi]; exact get_last rfl) hpo (by omega) hnl
            obtain ⟨b3, h32⟩ := h32
            rw [set_lastN rfl, hidi] at h32
            have hso := refStep_ok (pol := pol) hpo hnl
            rw [pcE.drop_at hlt] at hrun
            rw [refRun_cons] at hrun
            obtain ⟨r, hr⟩ : ∃ r, refStep pol ls (pcE.at l i) = r := ⟨_, rfl⟩
            obtain ⟨⟨o1, o2, o3⟩, l2⟩ := r
            rw [hr] at h32 hso hrun
            simp only [outV] at h32 hso hrun
            simp (disch := first | rfl | omega | exact byE_w | exact inE_w | exact boE_w | exact stE_w | exact pcE_w | exact whE_w | exact lt_new _ | assumption | (simp only [List.length_append, List.length_singleton, List.length_set, List.length_take, List.length_drop, List.length_map]; done) | (simp only [List.length_append, List.length_singleton, List.length_set, List.length_take, List.length_drop, List.length_map]; omega)) only [l13_18, r13_11, r13_12, r13_13, r13_14, r13_15, r13_16, r13_17, rs13, gc13, t0, t1, t7, t10, hlt', decide_true, ldP hlt, h32, ↓reduceIte, go_sem, Nat.add_zero, Nat.zero_add, Nat.sub_zero, List.drop_zero, Nat.reduceLT, Nat.reduceEqDiff, Nat.reduceAdd, Nat.reduceMul, Nat.reduceSub, Int.reduceAdd, Int.reduceSub, Nat.reduceLeDiff, Int.reduceLT, Int.reduceLE, Int.reduceEq, Int.reduceNeg, Int.reduceToNat, IntWalk.i64_in, Bool.or_self, Bool.or_false, Bool.or_true, Bool.and_false, Bool.and_true, Bool.false_or, Bool.true_or, Bool.false_eq_true, Bool.true_eq_false]
            repeat' ((first | refine guardB_dec (fun hy => ?_) (fun hy => ?_) | refine guardB_bool (fun hy => ?_) (fun hy => ?_) | refine guardQ_ite (fun hy => ?_) (fun hy => ?_) | refine brQ_dec (fun hy => ?_) (fun hy => ?_) | refine brQ_bool (fun hy => ?_) (fun hy => ?_)) <;> (try simp only [Bool.not_eq_true', Bool.not_eq_false', Bool.and_eq_true, Bool.or_eq_false_iff, decide_eq_true_eq, decide_eq_false_iff_not] at hy) <;> simp (disch := first | rfl | omega | exact byE_w | exact inE_w | exact boE_w | exact stE_w | exact pcE_w | exact whE_w | exact lt_new _ | assumption | (simp only [List.length_append, List.length_singleton, List.length_set, List.length_take, List.length_drop, List.length_map]; done) | (simp only [List.length_append, List.length_singleton, List.length_set, List.length_take, List.length_drop, List.length_map]; omega)) only [l13_18, r13_11, r13_12, r13_13, r13_14, r13_15, r13_16, r13_17, rs13, gc13, t0, t1, t7, t10, hlt', decide_true, ldP hlt, h32, ↓reduceIte, go_sem, Nat.add_zero, Nat.zero_add, Nat.sub_zero, List.drop_zero, Nat.reduceLT, Nat.reduceEqDiff, Nat.reduceAdd, Nat.reduceMul, Nat.reduceSub, Int.reduceAdd, Int.reduceSub, Nat.reduceLeDiff, Int.reduceLT, Int.reduceLE, Int.reduceEq, Int.reduceNeg, Int.reduceToNat, IntWalk.i64_in, Bool.or_self, Bool.or_false, Bool.or_true, Bool.and_false, Bool.and_true, Bool.false_or, Bool.true_or, Bool.false_eq_true, Bool.true_eq_false, hy])
            all_goals (try simp only [Bool.or_eq_true, Bool.or_eq_false_iff, decide_eq_true_eq, decide_eq_false_iff_not] at hy)
            all_goals first | (rw [if_pos (by omega)] at hrun; rw [hrun]) | (rw [if_neg (by omega), if_pos (by omega)] at hrun; rw [hrun]) | (rw [if_neg (by omega), if_neg (by omega)] at hrun; exact ⟨_, by omega, i + 1, l2, b3, rfl, hlt, rfl, rfl, hrun, hso.1, by omega⟩)
            all_goals (try ((first | refine finQ_same ?_ | refine finQ_app ?_ | (rw [List.append_assoc]; refine finQ_app ?_)) <;> simp (disch := first | rfl | omega | exact byE_w | exact inE_w | exact boE_w | exact stE_w | exact pcE_w | exact whE_w | exact lt_new _ | assumption | (simp only [List.length_append, List.length_singleton, List.length_set, List.length_take, List.length_drop, List.length_map]; done) | (simp only [List.length_append, List.length_singleton, List.length_set, List.length_take, List.length_drop, List.length_map]; omega)) only [outV, slV_nil, ↓reduceIte, go_sem, Nat.add_zero, Nat.zero_add, Nat.sub_zero, List.drop_zero, Nat.reduceLT, Nat.reduceEqDiff, Nat.reduceAdd, Nat.reduceMul, Nat.reduceSub, Int.reduceAdd, Int.reduceSub, Nat.reduceLeDiff, Int.reduceLT, Int.reduceLE, Int.reduceEq, Int.reduceNeg, Int.reduceToNat, IntWalk.i64_in, Bool.or_self, Bool.or_false, Bool.or_true, Bool.and_false, Bool.and_true, Bool.false_or, Bool.true_or, Bool.false_eq_true, Bool.true_eq_false, List.append_assoc, List.cons_append, List.nil_append]))
            all_goals (try first | rfl | (simp [*]; done) | grind)
          · obtain rfl : i = l.length := by omega
            rw [List.drop_length] at hrun
            have e2 : refRun pol ls [] = ([], 0, 0) := rfl
            rw [hrun, e2]
            simp (disch := first | rfl | omega | exact byE_w | exact inE_w | exact boE_w | exact stE_w | exact pcE_w | exact whE_w | exact lt_new _ | assumption | (simp only [List.length_append, List.length_singleton, List.length_set, List.length_take, List.length_drop, List.length_map]; done) | (simp only [List.length_append, List.length_singleton, List.length_set, List.length_take, List.length_drop, List.length_map]; omega)) only [l13_18, r13_11, r13_12, r13_13, r13_14, r13_15, r13_16, r13_17, r13_19, rs13, gc13, t0, t1, t7, t10, Int.lt_irrefl, decide_false, ↓reduceIte, go_sem, Nat.add_zero, Nat.zero_add, Nat.sub_zero, List.drop_zero, Nat.reduceLT, Nat.reduceEqDiff, Nat.reduceAdd, Nat.reduceMul, Nat.reduceSub, Int.reduceAdd, Int.reduceSub, Nat.reduceLeDiff, Int.reduceLT, Int.reduceLE, Int.reduceEq, Int.reduceNeg, Int.reduceToNat, IntWalk.i64_in, Bool.or_self, Bool.or_false, Bool.or_true, Bool.and_false, Bool.and_true, Bool.false_or, Bool.true_or, Bool.false_eq_true, Bool.true_eq_false]
            repeat' ((first | refine guardB_dec (fun hy => ?_) (fun hy => ?_) | refine guardB_bool (fun hy => ?_) (fun hy => ?_) | refine guardQ_ite (fun hy => ?_) (fun hy => ?_) | refine brQ_dec (fun hy => ?_) (fun hy => ?_) | refine brQ_bool (fun hy => ?_) (fun hy => ?_)) <;> (try simp only [Bool.not_eq_true', Bool.not_eq_false', Bool.and_eq_true, Bool.or_eq_false_iff, decide_eq_true_eq, decide_eq_false_iff_not] at hy) <;> simp (disch := first | rfl | omega | exact byE_w | exact inE_w | exact boE_w | exact stE_w | exact pcE_w | exact whE_w | exact lt_new _ | assumption | (simp only [List.length_append, List.length_singleton, List.length_set, List.length_take, List.length_drop, List.length_map]; done) | (simp only [List.length_append, List.length_singleton, List.length_set, List.length_take, List.length_drop, List.length_map]; omega)) only [l13_18, r13_11, r13_12, r13_13, r13_14, r13_15, r13_16, r13_17, r13_19, rs13, gc13, t0, t1, t7, t10, Int.lt_irrefl, decide_false, ↓reduceIte, go_sem, Nat.add_zero, Nat.zero_add, Nat.sub_zero, List.drop_zero, Nat.reduceLT, Nat.reduceEqDiff, Nat.reduceAdd, Nat.reduceMul, Nat.reduceSub, Int.reduceAdd, Int.reduceSub, Nat.reduceLeDiff, Int.reduceLT, Int.reduceLE, Int.reduceEq, Int.reduceNeg, Int.reduceToNat, IntWalk.i64_in, Bool.or_self, Bool.or_false, Bool.or_true, Bool.and_false, Bool.and_true, Bool.false_or, Bool.true_or, Bool.false_eq_true, Bool.true_eq_false, hy])
            all_goals (try ((first | refine finQ_same ?_ | refine finQ_app ?_ | (rw [List.append_assoc]; refine finQ_app ?_)) <;> simp (disch := first | rfl | omega | exact byE_w | exact inE_w | exact boE_w | exact stE_w | exact pcE_w | exact whE_w | exact lt_new _ | assumption | (simp only [List.length_append, List.length_singleton, List.length_set, List.length_take, List.length_drop, List.length_map]; done) | (simp only [List.length_append, List.length_singleton, List.length_set, List.length_take, List.length_drop, List.length_map]; omega)) only [outV, slV_nil, ↓reduceIte, go_sem, Nat.add_zero, Nat.zero_add, Nat.sub_zero, List.drop_zero, Nat.reduceLT, Nat.reduceEqDiff, Nat.reduceAdd, Nat.reduceMul, Nat.reduceSub, Int.reduceAdd, Int.reduceSub, Nat.reduceLeDiff, Int.reduceLT, Int.reduceLE, Int.reduceEq, Int.reduceNeg, Int.reduceToNat, IntWalk.i64_in, Bool.or_self, Bool.or_false, Bool.or_true, Bool.and_false, Bool.and_true, Bool.false_or, Bool.true_or, Bool.false_eq_true, Bool.true_eq_false, List.append_assoc, List.cons_append, List.nil_append]))
            all_goals (try first | rfl | (simp [*]; done) | grind)
        · exact ⟨0, [], true, by simp [go_sem, wsOf, t0, t1, t7]⟩
    · exact ⟨0, by simp [go_sem]⟩
end Go.Proofs.Ytdpdlobaabcjjab
/-
  The table's New and Put, walked; the map of wholes. No statement of the seat stands here.
-/
namespace Go.Proofs.Ytdpdlobaabcjjab
open Go Go.An
set_option maxRecDepth 4000
set_option linter.unusedSimpArgs false
set_option linter.unusedVariables false

theorem getMap_of {H : Hp} {m : Nat} {kt : TypeId} {es : List (V × V)} (h : H[m]? = some (.map kt es)) : getMap H m = some (kt, es) := by simp [getMap, h]
theorem flat3 : flatT Try.prog 8 3 = some [.int .i64] := by kernel_rfl
theorem key3 (k : Int) : keyOk Try.prog 3 (.int .i64 k) = true := by simp [keyOk, flat3, z3, g3, ckOks, V.cells, ckOk]
theorem lk0 {H : Hp} {m : Nat} {k : Int} (h : getMap H m = some (3, [])) : lookupV Try.prog 80 H (.map m) (.int .i64 k) false = some .nilptr := by
  simp [lookupV, u80, h, key3, findM, o83]
theorem eqk (k : Int) : eqCells (V.int .i64 k).cells (V.int .i64 k).cells = true := by simp [eqCells, V.cells, eqCell]
theorem lk1 {H : Hp} {m : Nat} {k : Int} {v : V} (h : getMap H m = some (3, [(.int .i64 k, v)])) : lookupV Try.prog 80 H (.map m) (.int .i64 k) false = some v := by
  simp [lookupV, u80, h, key3, findM, eqk]
theorem up0 {H : Hp} {m w : Nat} {k : Int} (h : getMap H m = some (3, [])) : updateV Try.prog 80 H (.map m) (.int .i64 k) (.ptr w 0 0) = some (H.set m (.map 3 [(.int .i64 k, .ptr w 0 0)])) := by
  simp [updateV, u80, h, key3, findM, elemOk, V.isCell]
theorem de1 {H : Hp} {m : Nat} {k : Int} {v : V} (h : getMap H m = some (3, [(.int .i64 k, v)])) : deleteV Try.prog 80 H (.map m) (.int .i64 k) = some (H.set m (.map 3 [])) := by
  simp [deleteV, u80, h, key3, findM, eqk]
theorem lnm {H : Hp} {m : Nat} {es : List (V × V)} (h : getMap H m = some (3, es)) (hl : es.length ≤ 1) : lenV Try.prog 80 H (.map m) = some (.int .i64 es.length) := by
  simp [lenV, u80, h]; omega
/-- The map's operations, out of what it holds. -/
noncomputable def lookE (q : TypeId × List (V × V)) (k : V) : Option V := lookupV Try.prog 80 [.map q.1 q.2] (.map 0) k false
open Classical in
noncomputable def updE (H : Hp) (m : Nat) (q : TypeId × List (V × V)) (k v : V) : Option Hp := if q = (3, []) then (if keyOk Try.prog 3 k = true ∧ elemOk v = true then some (H.set m (.map 3 [(k, v)])) else none) else updateV Try.prog 80 H (.map m) k v
open Classical in
noncomputable def delE (H : Hp) (m : Nat) (q : TypeId × List (V × V)) (k : V) : Option Hp := match q with
  | (3, [(k', v)]) => if k' = k ∧ keyOk Try.prog 3 k = true ∧ eqCells k.cells k.cells = true then some (H.set m (.map 3 [])) else deleteV Try.prog 80 H (.map m) k
  | _ => deleteV Try.prog 80 H (.map m) k
theorem lkM (H : Hp) (m : Nat) (k : V) : lookupV Try.prog 80 H (.map m) k false = (getMap H m).bind fun q => lookE q k := by
  cases h : getMap H m with
  | none => simp [lookupV, u80, h]
  | some q =>
    have h2 : getMap [.map q.1 q.2] 0 = some q := by simp [getMap]
    simp only [Option.bind_some, lookE, lookupV, u80, h, h2]
theorem lookE0 (k : Int) : lookE (3, []) (.int .i64 k) = some .nilptr := lk0 (by simp [getMap])
theorem lookE1 (k : Int) (v : V) : lookE (3, [(.int .i64 k, v)]) (.int .i64 k) = some v := lk1 (by simp [getMap])
theorem upM (H : Hp) (m : Nat) (k v : V) : updateV Try.prog 80 H (.map m) k v = (getMap H m).bind fun q => updE H m q k v := by
  cases h : getMap H m with
  | none => simp [updateV, u80, h]
  | some q =>
    simp only [Option.bind_some, updE]
    split
    · rename_i e
      subst e
      simp only [updateV, u80, h, Option.bind_some, true_and, findM, List.findIdx?_nil, List.nil_append]
    · rfl
theorem updE0 (H : Hp) (m : Nat) (k : Int) (w : Nat) : updE H m (3, []) (.int .i64 k) (.ptr w 0 0) = some (H.set m (.map 3 [(.int .i64 k, .ptr w 0 0)])) := by simp [updE, key3, elemOk, V.isCell]
theorem deM (H : Hp) (m : Nat) (k : V) (hk : keyOk Try.prog 3 k = true) : deleteV Try.prog 80 H (.map m) k = (getMap H m).bind fun q => delE H m q k := by
  cases h : getMap H m with
  | none => simp [deleteV, u80, h, hk]
  | some q =>
    simp only [Option.bind_some]
    unfold delE
    split
    · split
      · rename_i k' v e
        obtain ⟨rfl, e2, e3⟩ := e
        simp [deleteV, u80, h, hk, findM, e3]
      · rfl
    · rfl
theorem delE1 (H : Hp) (m : Nat) (k : Int) (v : V) : delE H m (3, [(.int .i64 k, v)]) (.int .i64 k) = some (H.set m (.map 3 [])) := by simp [delE, key3, eqk]
noncomputable def lenE (q : TypeId × List (V × V)) : Option V := if q.2.length ≤ 2 ^ 62 then some (.int .i64 q.2.length) else none
theorem lnM (H : Hp) (m : Nat) : lenV Try.prog 80 H (.map m) = (getMap H m).bind lenE := by
  simp only [lenV, u80]; rfl
theorem lenE0 : lenE (3, []) = some (.int .i64 0) := by simp [lenE]
theorem lenE1 (x : V × V) : lenE (3, [x]) = some (.int .i64 1) := by simp [lenE]
theorem lock_call (a : List V) (H : Hp) : callL Try.prog pr 42 a H = wordV 0 1 a H := by rw [callL_eq]; rfl
theorem unlock_dfr : pr.dfr 43 = some fun a H => (wordV 1 0 a H).map (·.2) := rfl
theorem wordV_ptr (x y : Int) (id g off : Nat) (H : Hp) : wordV x y [.ptr id g off] H = (getRow H id g).bind fun r => match r.1[off]? with
    | some (.int .i32 n) => if n = x ∧ r.2 = true then some (.tup [], H.set id (.row g (setAt r.1 off [.int .i32 y]) true)) else none
    | _ => none := rfl
theorem dfrs_cons (d : Nat × List V) (D : Dfr) (H : Hp) : dfrs pr (d :: D) H = (pr.dfr d.1).bind fun p => (p d.2 H).bind (dfrs pr D) := rfl
theorem getMap_app {H L : Hp} {m : Nat} (h : m < H.length) : getMap (H ++ L) m = getMap H m := by simp [getMap, List.getElem?_append_left h]
theorem getMap_setS {H : Hp} {m : Nat} {kt : TypeId} {es : List (V × V)} (h : m < H.length) : getMap (H.set m (.map kt es)) m = some (kt, es) := by simp [getMap, h]
theorem getMap_setO {H : Hp} {j m : Nat} {b : AB} (h : j ≠ m) : getMap (H.set j b) m = getMap H m := by simp [getMap, h]
theorem s_mm {cl : CallT} {T : Fr} {D : Dfr} {H : Hp} : stepW Try.prog cl (.makeMap 80 none) false T D H = some (.map H.length, D, H ++ [.map 3 []]) := by
  simp [stepW, opF, opB, u80]
theorem b_del (m k : V) (H : Hp) : builtinV Try.prog .delete #[80, 3] [m, k] H = (deleteV Try.prog 80 H m k).map fun H' => (.tup [], H') := rfl
abbrev taC (pol : Int) (m : Nat) : List V := [.int .i32 0, .int .u32 0, .int .i64 pol, .map m]
theorem fn27 (pol : Int) (H : Hp) : callL Try.prog pr 27 [.int .i64 pol] H = some (if pol < 0 ∨ 3 < pol then (.tup [.nilptr, .int .i64 1], H) else (.tup [.ptr (H.length + 1) 0 0, .int .i64 0], H ++ [.map 3 []] ++ [.row 0 (taC pol H.length) true])) := by
  refine run27 (Nat.le_of_ble_eq_true rfl) ?_
  simp (disch := first | rfl | omega | exact byE_w | exact inE_w | exact boE_w | exact stE_w | exact pcE_w | exact celE_w | exact lt_new _ | assumption | (simp only [List.length_append, List.length_singleton, List.length_set, List.length_take, List.length_drop, List.length_map]; done) | (simp only [List.length_append, List.length_singleton, List.length_set, List.length_take, List.length_drop, List.length_map]; omega)) only [r27_0, r27_1, r27_2, r27_3, c27, rs27, gc27, s_mm, ↓reduceIte, go_sem, Nat.add_zero, Nat.zero_add, Nat.sub_zero, List.drop_zero, Nat.reduceLT, Nat.reduceEqDiff, Nat.reduceAdd, Nat.reduceMul, Nat.reduceSub, Int.reduceAdd, Int.reduceSub, Nat.reduceLeDiff, Int.reduceLT, Int.reduceLE, Int.reduceEq, Int.reduceNeg, Int.reduceToNat, IntWalk.i64_in, Bool.or_self, Bool.or_false, Bool.or_true, Bool.and_false, Bool.and_true, Bool.false_or, Bool.true_or, Bool.false_eq_true, Bool.true_eq_false]
  repeat' ((first | refine guardB_dec (fun hy => ?_) (fun hy => ?_) | refine guardB_bool (fun hy => ?_) (fun hy => ?_) | refine guardQ_ite (fun hy => ?_) (fun hy => ?_) | refine brQ_dec (fun hy => ?_) (fun hy => ?_) | refine brQ_bool (fun hy => ?_) (fun hy => ?_)) <;> (try simp only [Bool.not_eq_true', Bool.not_eq_false', Bool.and_eq_true, Bool.or_eq_false_iff, decide_eq_true_eq, decide_eq_false_iff_not] at hy) <;> simp (disch := first | rfl | omega | exact byE_w | exact inE_w | exact boE_w | exact stE_w | exact pcE_w | exact celE_w | exact lt_new _ | assumption | (simp only [List.length_append, List.length_singleton, List.length_set, List.length_take, List.length_drop, List.length_map]; done) | (simp only [List.length_append, List.length_singleton, List.length_set, List.length_take, List.length_drop, List.length_map]; omega)) only [r27_0, r27_1, r27_2, r27_3, c27, rs27, gc27, s_mm, ↓reduceIte, go_sem, Nat.add_zero, Nat.zero_add, Nat.sub_zero, List.drop_zero, Nat.reduceLT, Nat.reduceEqDiff, Nat.reduceAdd, Nat.reduceMul, Nat.reduceSub, Int.reduceAdd, Int.reduceSub, Nat.reduceLeDiff, Int.reduceLT, Int.reduceLE, Int.reduceEq, Int.reduceNeg, Int.reduceToNat, IntWalk.i64_in, Bool.or_self, Bool.or_false, Bool.or_true, Bool.and_false, Bool.and_true, Bool.false_or, Bool.true_or, Bool.false_eq_true, Bool.true_eq_false, hy])
  all_goals simp_all [taC]
/-- The table in memory: nothing, or one whole with its cells and its end. -/
structure Tm (n0 : Nat) (H : Hp) (tb m : Nat) (pol id : Int) (st : Option (List Cl × Int)) : Prop where
  tb0 : n0 ≤ tb
  m0 : n0 ≤ m
  ne : tb ≠ m
  row : H[tb]? = some (.row 0 (taC pol m) true)
  st : match st with
    | none => H[m]? = some (.map 3 [])
    | some (cs, tot) => ∃ w cv beg, H[m]? = some (.map 3 [(.int .i64 id, .ptr w 0 0)]) ∧ Wm H w cv cs tot beg ∧ n0 ≤ w ∧ w ≠ tb ∧ w ≠ m ∧ ∀ j, At cv j → n0 ≤ j ∧ j ≠ tb ∧ j ≠ m
/-- The whole behind a piece: its cells, its end, whether something is new, whether something is unlike. -/
def newCs (pol : Int) (cs : List Cl) (p : Pc) : List Cl := putC pol p (growC cs p) p.data.length
def newTot (tot : Int) (p : Pc) : Int := if endB tot p = true then pcEnd p else tot
def newSome (cs : List Cl) (tot : Int) (p : Pc) : Bool := anyN p (growC cs p) p.data.length || endB tot p
def newUnl (cs : List Cl) (p : Pc) : Bool := anyD p (growC cs p) p.data.length
def fragIn (pol : Int) (cs : List Cl) (tot : Int) (p : Pc) : (List UInt8 × Int × Int) × Option (List Cl × Int) :=
  if fitsB cs.length tot p = false then (([], 4, 0), none) else
  if (newUnl cs p && decide (pol = 3)) = true then (([], 3, 0), none) else
  if fullB (newCs pol cs p) (newTot tot p) = true then (((newCs pol cs p).map (·.b), 1, 0), none) else
  (([], if newSome cs tot p = true then 0 else 2, 0), some (newCs pol cs p, newTot tot p))
def fragStep (pol : Int) (st : Option (List Cl × Int)) (p : Pc) : (List UInt8 × Int × Int) × Option (List Cl × Int) :=
  if askedI p ≠ 0 then (([], 0, askedI p), st) else
  if nothB p = true then (([], 2, 0), st) else
  fragIn pol (st.getD ([], -1)).1 (st.getD ([], -1)).2 p
/-- What Put leaves. -/
def PutR (n0 : Nat) (H : Hp) (tb m : Nat) (pol id : Int) (o : (List UInt8 × Int × Int) × Option (List Cl × Int)) (r : V × Hp) : Prop := r.1 = outV o.1 ∧ Tm n0 r.2 tb m pol id o.2 ∧ (∀ j, j < n0 → r.2[j]? = H[j]?) ∧ H.length ≤ r.2.length
set_option maxHeartbeats 4000000 in
theorem fn22a {n0 tb m : Nat} {pol : Int} {p : Pc} {cs : List Cl} {tot : Int} {H : Hp} (ht : Tm n0 H tb m pol p.id (some (cs, tot))) (np : Near p) (ha : askedI p = 0) (hno : nothB p = false) (hcs : cs.length ≤ 4000) : ∃ r, callL Try.prog pr 22 [.ptr tb 0 0, .agg (pcE.f p)] H = some r ∧ PutR n0 H tb m pol p.id (fragIn pol cs tot p) r := by
  obtain ⟨w, cv, beg, hmm, hwm, hw0, hwt, hwm2, hcv⟩ := ht.st
  have hr := getRow_of ht.row
  have hm := getMap_of hmm
  have hlt : tb < H.length := (List.getElem?_eq_some_iff.1 ht.row).1
  have hltm : m < H.length := (List.getElem?_eq_some_iff.1 hmm).1
  have hltw := hwm.lt
  have hne := ht.ne
  have hpi : isPieceB p = true ∧ isFarB p = false := by
    unfold askedI at ha
    split at ha
    · rename_i h1
      split at ha
      · cases ha
      · rename_i h2; exact ⟨h1, by simpa using h2⟩
    · cases ha
  have h34 := fun H => fn34 p H
  have h35 := fun H => fn35 p np.ok H
  rw [hpi.1] at h34
  rw [hpi.2] at h35
  have hno' : (decide ((p.data.length : Int) = 0) && p.more) = false := by
    unfold nothB at hno
    rw [← hno]
    congr 2
    simp
  refine ex22 (Nat.le_of_ble_eq_true rfl) ?_
  obtain ⟨X, hX⟩ : ∃ X, H.set tb (.row 0 [.int .i32 1, .int .u32 0, .int .i64 pol, .map m] true) ++ [.row 0 (pcE.f p) true] = X := ⟨_, rfl⟩
  have xw : Wm X w cv cs tot beg := by
    rw [← hX]
    refine Wm.app (hwm.frame (by rw [List.getElem?_set_ne (fun e => hwt e.symm)]) fun j hj => ?_)
    rw [List.getElem?_set_ne (fun e => (hcv j hj).2.1 e.symm)]
  have h44 := fn44 xw np (by omega)
  obtain ⟨H2, cv2, h45, w45, f45, a45⟩ := fn45 xw np hcs pol
  have xt : X[tb]? = some (.row 0 [.int .i32 1, .int .u32 0, .int .i64 pol, .map m] true) := by
    rw [← hX, List.getElem?_append_left (by simpa using hlt), List.getElem?_set_self hlt]
  have xm : X[m]? = some (.map 3 [(.int .i64 p.id, .ptr w 0 0)]) := by
    rw [← hX, List.getElem?_append_left (by simpa using hltm), List.getElem?_set_ne hne]; exact hmm
  have xl : X.length = H.length + 1 := by rw [← hX]; simp
  have h2t : H2[tb]? = some (.row 0 [.int .i32 1, .int .u32 0, .int .i64 pol, .map m] true) := by
    rw [f45.2 tb (by omega) (fun e => hwt e.symm) (fun h => (hcv tb h).2.1 rfl)]; exact xt
  have h2m : H2[m]? = some (.map 3 [(.int .i64 p.id, .ptr w 0 0)]) := by
    rw [f45.2 m (by omega) (fun e => hwm2 e.symm) (fun h => (hcv m h).2.2 rfl)]; exact xm
  have hr2 := getRow_of h2t
  have hm2 := getMap_of h2m
  have hlt2 : tb < H2.length := by have := f45.1; omega
  have hltm2 : m < H2.length := by have := f45.1; omega
  have h2p : H2[H.length]? = some (.row 0 (pcE.f p) true) := by
    rw [f45.2 H.length (by omega) (by omega) (fun h => by have := hwm.own.lt h; omega), ← hX]
    exact get_last (by simp)
  have hp2 := getRow_of h2p
  have hX0 : ∀ j, j < n0 → X[j]? = H[j]? := fun j hj => by
    have h1 := ht.tb0
    have h2 := ht.m0
    rw [← hX, List.getElem?_append_left (by simp; omega), List.getElem?_set_ne (by omega)]
  have h20 : ∀ j, j < n0 → H2[j]? = H[j]? := fun j hj => by
    have h1 := ht.tb0
    rw [f45.2 j (by omega) (by omega) (fun h => by have := (hcv j h).1; omega), hX0 j hj]
  have h2l : H.length ≤ H2.length := by have := f45.1; omega
  have hlo := np.lo
  have hhi := np.hi
  have hcl2 : (putC pol p (growC cs p) p.data.length).length ≤ 4000 := by
    rw [putC_len, grow_len cs p np]; split <;> omega
  have hcv2 : ∀ j, At cv2 j → n0 ≤ j ∧ j ≠ tb ∧ j ≠ m := fun j hj => by
    rcases a45 j hj with h | h
    · exact hcv j h
    · have := ht.tb0; exact ⟨by omega, by omega, by omega⟩
  have w45' : Wm (H2.set m (.map 3 [])) w cv2 (putC pol p (growC cs p) p.data.length) (if endB tot p = true then pcEnd p else tot) beg := w45.frame (by rw [List.getElem?_set_ne (fun e => hwm2 e.symm)]) fun j hj => by rw [List.getElem?_set_ne (fun e => (hcv2 j hj).2.2 e.symm)]
  have h46 := fn46 w45 (by omega)
  have h47 := fn47 w45' (by omega)
  rw [← hX] at h44 h45
  obtain ⟨d3, hd3⟩ : ∃ d, decide (pol = 3) = d := ⟨_, rfl⟩
  have e : fragIn pol cs tot p = if fitsB cs.length tot p = false then (([], 4, 0), none) else if (anyD p (growC cs p) p.data.length && decide (pol = 3)) = true then (([], 3, 0), none) else if fullB (putC pol p (growC cs p) p.data.length) (if endB tot p = true then pcEnd p else tot) = true then (((putC pol p (growC cs p) p.data.length).map (·.b), 1, 0), none) else (([], if (anyN p (growC cs p) p.data.length || endB tot p) = true then 0 else 2, 0), some (putC pol p (growC cs p) p.data.length, if endB tot p = true then pcEnd p else tot)) := rfl
  rw [e, hd3]
  have fin1 : ∀ (a b c : Int), PutR n0 H tb m pol p.id (([], b, c), none) (.tup [.nilslice, .int .i64 b, .int .i64 c], ((H.set tb (.row 0 [.int .i32 1, .int .u32 0, .int .i64 pol, .map m] true)).set m (.map 3 [])).set tb (.row 0 [.int .i32 0, .int .u32 0, .int .i64 pol, .map m] true) ++ [.row 0 (pcE.f p) true]) := fun a b c => by
    have h1 := ht.tb0
    have h2 := ht.m0
    refine ⟨by simp [outV, slV_nil], ⟨h1, h2, hne, ?_, ?_⟩, fun j hj => ?_, by simp⟩
    · rw [List.getElem?_append_left (by simpa using hlt), List.getElem?_set_self (by simpa using hlt)]
    · show (_ : Hp)[m]? = _
      rw [List.getElem?_append_left (by simpa using hltm), List.getElem?_set_ne hne, List.getElem?_set_self (by simpa using hltm)]
    · show (_ : Hp)[j]? = _
      rw [List.getElem?_append_left (by simp; omega), List.getElem?_set_ne (by omega), List.getElem?_set_ne (by omega), List.getElem?_set_ne (by omega)]
  have fin2 : ∀ (l : List UInt8) (v : V) (b c : Int), v = slV true byE l → PutR n0 H tb m pol p.id ((l, b, c), none) (.tup [v, .int .i64 b, .int .i64 c], (H2.set m (.map 3 [])).set tb (.row 0 [.int .i32 0, .int .u32 0, .int .i64 pol, .map m] true)) := fun l v b c hv => by
    have h1 := ht.tb0
    have h2 := ht.m0
    refine ⟨by simp [outV, hv], ⟨h1, h2, hne, ?_, ?_⟩, fun j hj => ?_, by simpa using h2l⟩
    · rw [List.getElem?_set_self (by simpa using hlt2)]
    · show (_ : Hp)[m]? = _
      rw [List.getElem?_set_ne hne, List.getElem?_set_self (by simpa using hltm2)]
    · show (_ : Hp)[j]? = _
      rw [List.getElem?_set_ne (by omega), List.getElem?_set_ne (by omega)]
      exact h20 j hj
  have fin3 : ∀ (tt : Int) (b c : Int), tt = (if endB tot p = true then pcEnd p else tot) → PutR n0 H tb m pol p.id (([], b, c), some (putC pol p (growC cs p) p.data.length, tt)) (.tup [.nilslice, .int .i64 b, .int .i64 c], H2.set tb (.row 0 [.int .i32 0, .int .u32 0, .int .i64 pol, .map m] true)) := fun tt b c htt => by
    subst htt
    have h1 := ht.tb0
    have h2 := ht.m0
    refine ⟨by simp [outV, slV_nil], ⟨h1, h2, hne, ?_, ?_⟩, fun j hj => ?_, by simpa using h2l⟩
    · rw [List.getElem?_set_self hlt2]
    · refine ⟨w, cv2, beg, ?_, w45.frame (by rw [List.getElem?_set_ne (fun e => hwt e.symm)]) (fun j hj => by rw [List.getElem?_set_ne (fun e => (hcv2 j hj).2.1 e.symm)]), hw0, hwt, hwm2, hcv2⟩
      rw [List.getElem?_set_ne hne]; exact h2m
    · show (_ : Hp)[j]? = _
      rw [List.getElem?_set_ne (by omega)]
      exact h20 j hj
  simp (disch := first | rfl | omega | exact byE_w | exact inE_w | exact boE_w | exact stE_w | exact pcE_w | exact celE_w | exact lt_new _ | assumption | (simp only [List.length_append, List.length_singleton, List.length_set, List.length_take, List.length_drop, List.length_map]; done) | (simp only [List.length_append, List.length_singleton, List.length_set, List.length_take, List.length_drop, List.length_map]; omega)) only [r22_0, r22_1, r22_2, r22_3, r22_4, r22_5, r22_6, r22_7, r22_8, r22_9, r22_10, r22_11, r22_12, r22_13, r22_14, r22_15, r22_16, r22_17, r22_18, r22_19, r22_20, r22_21, r22_22, r22_23, r22_24, r22_25, r22_26, r22_27, r22_28, r22_29, c22, rs22, gc22, loadV_ptr, storeV_ptr, getRow_app', getRow_setS, getRow_setO, getRow_lastN, set_lastN, set_app, List.set_set, bl_nil, bl_all, getRow_bl, set_bl, hr, hr2, hm2, hp2, h34, h35, lock_call, wordV_ptr, hno', getMap_app, getMap_setO, getMap_setS, hm, lkM, lookE0, lookE1, upM, updE0, deM _ _ _ (key3 _), delE1, lnM, lenE0, lenE1, h44, h45, h46, h47, b_del, dfrs_cons, unlock_dfr, hd3, ↓reduceIte, go_sem, Nat.add_zero, Nat.zero_add, Nat.sub_zero, List.drop_zero, Nat.reduceLT, Nat.reduceEqDiff, Nat.reduceAdd, Nat.reduceMul, Nat.reduceSub, Int.reduceAdd, Int.reduceSub, Nat.reduceLeDiff, Int.reduceLT, Int.reduceLE, Int.reduceEq, Int.reduceNeg, Int.reduceToNat, IntWalk.i64_in, Bool.or_self, Bool.or_false, Bool.or_true, Bool.and_false, Bool.and_true, Bool.false_or, Bool.true_or, Bool.false_eq_true, Bool.true_eq_false]
  repeat' ((first | refine guardB_dec (fun hy => ?_) (fun hy => ?_) | refine guardB_bool (fun hy => ?_) (fun hy => ?_) | refine guardQ_ite (fun hy => ?_) (fun hy => ?_) | refine brQ_dec (fun hy => ?_) (fun hy => ?_) | refine brQ_bool (fun hy => ?_) (fun hy => ?_)) <;> (try simp only [Bool.not_eq_true', Bool.not_eq_false', Bool.and_eq_true, Bool.or_eq_false_iff, decide_eq_true_eq, decide_eq_false_iff_not] at hy) <;> simp (disch := first | rfl | omega | exact byE_w | exact inE_w | exact boE_w | exact stE_w | exact pcE_w | exact celE_w | exact lt_new _ | assumption | (simp only [List.length_append, List.length_singleton, List.length_set, List.length_take, List.length_drop, List.length_map]; done) | (simp only [List.length_append, List.length_singleton, List.length_set, List.length_take, List.length_drop, List.length_map]; omega)) only [r22_0, r22_1, r22_2, r22_3, r22_4, r22_5, r22_6, r22_7, r22_8, r22_9, r22_10, r22_11, r22_12, r22_13, r22_14, r22_15, r22_16, r22_17, r22_18, r22_19, r22_20, r22_21, r22_22, r22_23, r22_24, r22_25, r22_26, r22_27, r22_28, r22_29, c22, rs22, gc22, loadV_ptr, storeV_ptr, getRow_app', getRow_setS, getRow_setO, getRow_lastN, set_lastN, set_app, List.set_set, bl_nil, bl_all, getRow_bl, set_bl, hr, hr2, hm2, hp2, h34, h35, lock_call, wordV_ptr, hno', getMap_app, getMap_setO, getMap_setS, hm, lkM, lookE0, lookE1, upM, updE0, deM _ _ _ (key3 _), delE1, lnM, lenE0, lenE1, h44, h45, h46, h47, b_del, dfrs_cons, unlock_dfr, hd3, ↓reduceIte, go_sem, Nat.add_zero, Nat.zero_add, Nat.sub_zero, List.drop_zero, Nat.reduceLT, Nat.reduceEqDiff, Nat.reduceAdd, Nat.reduceMul, Nat.reduceSub, Int.reduceAdd, Int.reduceSub, Nat.reduceLeDiff, Int.reduceLT, Int.reduceLE, Int.reduceEq, Int.reduceNeg, Int.reduceToNat, IntWalk.i64_in, Bool.or_self, Bool.or_false, Bool.or_true, Bool.and_false, Bool.and_true, Bool.false_or, Bool.true_or, Bool.false_eq_true, Bool.true_eq_false, hy])
  all_goals (try (exfalso; simp_all; done))
  all_goals first | exact fin1 0 _ _ | exact fin2 [] _ _ _ (slV_nil byE).symm | exact fin2 _ _ _ _ rfl | exact fin3 _ _ _ rfl | exact fin3 _ _ _ (by simp_all)
end Go.Proofs.Ytdpdlobaabcjjab
/-
  The table's Put of a first piece, walked. No statement of the seat stands here.
-/
namespace Go.Proofs.Ytdpdlobaabcjjab
open Go Go.An
set_option maxRecDepth 4000
set_option linter.unusedSimpArgs false
set_option linter.unusedVariables false

set_option maxHeartbeats 4000000 in
theorem fn22z {n0 tb m : Nat} {pol : Int} {p : Pc} {H : Hp} (ht : Tm n0 H tb m pol p.id none) (np : Near p) (ha : askedI p = 0) (hno : nothB p = false) (hl0 : n0 ≤ H.length) : ∃ r, callL Try.prog pr 22 [.ptr tb 0 0, .agg (pcE.f p)] H = some r ∧ PutR n0 H tb m pol p.id (fragIn pol [] (-1) p) r := by
  have hmm : H[m]? = some (.map 3 []) := ht.st
  have hr := getRow_of ht.row
  have hm := getMap_of hmm
  have hlt : tb < H.length := (List.getElem?_eq_some_iff.1 ht.row).1
  have hltm : m < H.length := (List.getElem?_eq_some_iff.1 hmm).1
  have hne := ht.ne
  have hpi : isPieceB p = true ∧ isFarB p = false := by
    unfold askedI at ha
    split at ha
    · rename_i h1
      split at ha
      · cases ha
      · rename_i h2; exact ⟨h1, by simpa using h2⟩
    · cases ha
  have h34 := fun H => fn34 p H
  have h35 := fun H => fn35 p np.ok H
  rw [hpi.1] at h34
  rw [hpi.2] at h35
  have hno' : (decide ((p.data.length : Int) = 0) && p.more) = false := by
    unfold nothB at hno
    rw [← hno]
    congr 2
    simp
  refine ex22 (Nat.le_of_ble_eq_true rfl) ?_
  obtain ⟨w, hwe⟩ : ∃ w, (H ++ [AB.row 0 (pcE.f p) true]).length = w := ⟨_, rfl⟩
  have hwe2 : (H.set tb (AB.row 0 [.int .i32 1, .int .u32 0, .int .i64 pol, .map m] true) ++ [AB.row 0 (pcE.f p) true]).length = w := by rw [← hwe]; simp
  have hwl : H.length + 1 = w := by rw [← hwe]; simp
  obtain ⟨X, hX⟩ : ∃ X : Hp, (H.set tb (.row 0 [.int .i32 1, .int .u32 0, .int .i64 pol, .map m] true)).set m (.map 3 [(.int .i64 p.id, .ptr w 0 0)]) ++ [.row 0 (pcE.f p) true] ++ [.row 0 [.nilslice, .int .i64 (-1), .int .i64 p.time] true] = X := ⟨_, rfl⟩
  have hwt : w ≠ tb := by omega
  have hwm2 : w ≠ m := by omega
  have hcv : ∀ j, At V.nilslice j → n0 ≤ j ∧ j ≠ tb ∧ j ≠ m := fun j h => by obtain ⟨_, _, _, _, _, e⟩ := h; cases e
  have hnA : ∀ j, ¬ At V.nilslice j := fun j h => by obtain ⟨_, _, _, _, _, e⟩ := h; cases e
  have xw : Wm X w .nilslice [] (-1) p.time := ⟨by rw [← hX]; exact get_last (by simp; omega), ownE_nil _ _, hnA w⟩
  have hw0 : n0 ≤ w := by omega
  have h44 := fn44 xw np (by simp)
  obtain ⟨H2, cv2, h45, w45, f45, a45⟩ := fn45 xw np (by simp) pol
  have xt : X[tb]? = some (.row 0 [.int .i32 1, .int .u32 0, .int .i64 pol, .map m] true) := by
    rw [← hX, List.getElem?_append_left (by simp; omega), List.getElem?_append_left (by simpa using hlt), List.getElem?_set_ne hne.symm, List.getElem?_set_self hlt]
  have xm : X[m]? = some (.map 3 [(.int .i64 p.id, .ptr w 0 0)]) := by
    rw [← hX, List.getElem?_append_left (by simp; omega), List.getElem?_append_left (by simpa using hltm), List.getElem?_set_self (by simpa using hltm)]
  have xl : X.length = H.length + 2 := by rw [← hX]; simp
  have h2t : H2[tb]? = some (.row 0 [.int .i32 1, .int .u32 0, .int .i64 pol, .map m] true) := by
    rw [f45.2 tb (by omega) (fun e => hwt e.symm) (fun h => (hcv tb h).2.1 rfl)]; exact xt
  have h2m : H2[m]? = some (.map 3 [(.int .i64 p.id, .ptr w 0 0)]) := by
    rw [f45.2 m (by omega) (fun e => hwm2 e.symm) (fun h => (hcv m h).2.2 rfl)]; exact xm
  have hr2 := getRow_of h2t
  have hm2 := getMap_of h2m
  have hlt2 : tb < H2.length := by have := f45.1; omega
  have hltm2 : m < H2.length := by have := f45.1; omega
  have h2p : H2[H.length]? = some (.row 0 (pcE.f p) true) := by
    rw [f45.2 H.length (by omega) (by omega) (hnA _), ← hX, List.getElem?_append_left (by simp)]
    exact get_last (by simp)
  have hp2 := getRow_of h2p
  have hX0 : ∀ j, j < n0 → X[j]? = H[j]? := fun j hj => by
    have h1 := ht.tb0
    have h2 := ht.m0
    rw [← hX, List.getElem?_append_left (by simp; omega), List.getElem?_append_left (by simp; omega), List.getElem?_set_ne (by omega), List.getElem?_set_ne (by omega)]
  have h20 : ∀ j, j < n0 → H2[j]? = H[j]? := fun j hj => by
    have h1 := ht.tb0
    rw [f45.2 j (by omega) (by omega) (hnA _), hX0 j hj]
  have h2l : H.length ≤ H2.length := by have := f45.1; omega
  have hlo := np.lo
  have hhi := np.hi
  have hcl2 : (putC pol p (growC [] p) p.data.length).length ≤ 4000 := by
    rw [putC_len, grow_len [] p np]; split <;> simp <;> omega
  have hcv2 : ∀ j, At cv2 j → n0 ≤ j ∧ j ≠ tb ∧ j ≠ m := fun j hj => by
    rcases a45 j hj with h | h
    · exact hcv j h
    · have := ht.tb0; exact ⟨by omega, by omega, by omega⟩
  have w45' : Wm (H2.set m (.map 3 [])) w cv2 (putC pol p (growC [] p) p.data.length) (if endB (-1) p = true then pcEnd p else -1) p.time := w45.frame (by rw [List.getElem?_set_ne (fun e => hwm2 e.symm)]) fun j hj => by rw [List.getElem?_set_ne (fun e => (hcv2 j hj).2.2 e.symm)]
  have h46 := fn46 w45 (by omega)
  have h47 := fn47 w45' (by omega)
  rw [← hX] at h44 h45
  obtain ⟨d3, hd3⟩ : ∃ d, decide (pol = 3) = d := ⟨_, rfl⟩
  have e : fragIn pol [] (-1) p = if fitsB 0 (-1) p = false then (([], 4, 0), none) else if (anyD p (growC [] p) p.data.length && decide (pol = 3)) = true then (([], 3, 0), none) else if fullB (putC pol p (growC [] p) p.data.length) (if endB (-1) p = true then pcEnd p else -1) = true then (((putC pol p (growC [] p) p.data.length).map (·.b), 1, 0), none) else (([], if (anyN p (growC [] p) p.data.length || endB (-1) p) = true then 0 else 2, 0), some (putC pol p (growC [] p) p.data.length, if endB (-1) p = true then pcEnd p else -1)) := rfl
  rw [e, hd3]
  have fin1 : ∀ (a b c : Int), PutR n0 H tb m pol p.id (([], b, c), none) (.tup [.nilslice, .int .i64 b, .int .i64 c], ((H.set tb (.row 0 [.int .i32 1, .int .u32 0, .int .i64 pol, .map m] true)).set m (.map 3 [])).set tb (.row 0 [.int .i32 0, .int .u32 0, .int .i64 pol, .map m] true) ++ [.row 0 (pcE.f p) true] ++ [.row 0 [.nilslice, .int .i64 (-1), .int .i64 p.time] true]) := fun a b c => by
    have h1 := ht.tb0
    have h2 := ht.m0
    refine ⟨by simp [outV, slV_nil], ⟨h1, h2, hne, ?_, ?_⟩, fun j hj => ?_, by simp⟩
    · rw [List.getElem?_append_left (by simp; omega), List.getElem?_append_left (by simpa using hlt), List.getElem?_set_self (by simpa using hlt)]
    · show (_ : Hp)[m]? = _
      rw [List.getElem?_append_left (by simp; omega), List.getElem?_append_left (by simpa using hltm), List.getElem?_set_ne hne, List.getElem?_set_self (by simpa using hltm)]
    · show (_ : Hp)[j]? = _
      rw [List.getElem?_append_left (by simp; omega), List.getElem?_append_left (by simp; omega), List.getElem?_set_ne (by omega), List.getElem?_set_ne (by omega), List.getElem?_set_ne (by omega)]
  have fin2 : ∀ (l : List UInt8) (v : V) (b c : Int), v = slV true byE l → PutR n0 H tb m pol p.id ((l, b, c), none) (.tup [v, .int .i64 b, .int .i64 c], (H2.set m (.map 3 [])).set tb (.row 0 [.int .i32 0, .int .u32 0, .int .i64 pol, .map m] true)) := fun l v b c hv => by
    have h1 := ht.tb0
    have h2 := ht.m0
    refine ⟨by simp [outV, hv], ⟨h1, h2, hne, ?_, ?_⟩, fun j hj => ?_, by simpa using h2l⟩
    · rw [List.getElem?_set_self (by simpa using hlt2)]
    · show (_ : Hp)[m]? = _
      rw [List.getElem?_set_ne hne, List.getElem?_set_self (by simpa using hltm2)]
    · show (_ : Hp)[j]? = _
      rw [List.getElem?_set_ne (by omega), List.getElem?_set_ne (by omega)]
      exact h20 j hj
  have fin3 : ∀ (tt : Int) (b c : Int), tt = (if endB (-1) p = true then pcEnd p else -1) → PutR n0 H tb m pol p.id (([], b, c), some (putC pol p (growC [] p) p.data.length, tt)) (.tup [.nilslice, .int .i64 b, .int .i64 c], H2.set tb (.row 0 [.int .i32 0, .int .u32 0, .int .i64 pol, .map m] true)) := fun tt b c htt => by
    subst htt
    have h1 := ht.tb0
    have h2 := ht.m0
    refine ⟨by simp [outV, slV_nil], ⟨h1, h2, hne, ?_, ?_⟩, fun j hj => ?_, by simpa using h2l⟩
    · rw [List.getElem?_set_self hlt2]
    · refine ⟨w, cv2, p.time, ?_, w45.frame (by rw [List.getElem?_set_ne (fun e => hwt e.symm)]) (fun j hj => by rw [List.getElem?_set_ne (fun e => (hcv2 j hj).2.1 e.symm)]), hw0, hwt, hwm2, hcv2⟩
      rw [List.getElem?_set_ne hne]; exact h2m
    · show (_ : Hp)[j]? = _
      rw [List.getElem?_set_ne (by omega)]
      exact h20 j hj
  simp (disch := first | rfl | omega | exact byE_w | exact inE_w | exact boE_w | exact stE_w | exact pcE_w | exact celE_w | exact lt_new _ | assumption | (simp only [List.length_append, List.length_singleton, List.length_set, List.length_take, List.length_drop, List.length_map]; done) | (simp only [List.length_append, List.length_singleton, List.length_set, List.length_take, List.length_drop, List.length_map]; omega)) only [r22_0, r22_1, r22_2, r22_3, r22_4, r22_5, r22_6, r22_7, r22_8, r22_9, r22_10, r22_11, r22_12, r22_13, r22_14, r22_15, r22_16, r22_17, r22_18, r22_19, r22_20, r22_21, r22_22, r22_23, r22_24, r22_25, r22_26, r22_27, r22_28, r22_29, c22, rs22, gc22, loadV_ptr, storeV_ptr, getRow_app', getRow_setS, getRow_setO, getRow_lastN, set_lastN, set_app, List.set_set, bl_nil, bl_all, getRow_bl, set_bl, hr, hr2, hm2, hp2, h34, h35, lock_call, wordV_ptr, hno', getMap_app, getMap_setO, getMap_setS, hm, lkM, lookE0, lookE1, upM, updE0, deM _ _ _ (key3 _), delE1, lnM, lenE0, lenE1, h44, h45, h46, h47, b_del, dfrs_cons, unlock_dfr, hd3, hwe, hwe2, ↓reduceIte, go_sem, Nat.add_zero, Nat.zero_add, Nat.sub_zero, List.drop_zero, Nat.reduceLT, Nat.reduceEqDiff, Nat.reduceAdd, Nat.reduceMul, Nat.reduceSub, Int.reduceAdd, Int.reduceSub, Nat.reduceLeDiff, Int.reduceLT, Int.reduceLE, Int.reduceEq, Int.reduceNeg, Int.reduceToNat, IntWalk.i64_in, Bool.or_self, Bool.or_false, Bool.or_true, Bool.and_false, Bool.and_true, Bool.false_or, Bool.true_or, Bool.false_eq_true, Bool.true_eq_false]
  repeat' ((first | refine guardB_dec (fun hy => ?_) (fun hy => ?_) | refine guardB_bool (fun hy => ?_) (fun hy => ?_) | refine guardQ_ite (fun hy => ?_) (fun hy => ?_) | refine brQ_dec (fun hy => ?_) (fun hy => ?_) | refine brQ_bool (fun hy => ?_) (fun hy => ?_)) <;> (try simp only [Bool.not_eq_true', Bool.not_eq_false', Bool.and_eq_true, Bool.or_eq_false_iff, decide_eq_true_eq, decide_eq_false_iff_not] at hy) <;> simp (disch := first | rfl | omega | exact byE_w | exact inE_w | exact boE_w | exact stE_w | exact pcE_w | exact celE_w | exact lt_new _ | assumption | (simp only [List.length_append, List.length_singleton, List.length_set, List.length_take, List.length_drop, List.length_map]; done) | (simp only [List.length_append, List.length_singleton, List.length_set, List.length_take, List.length_drop, List.length_map]; omega)) only [r22_0, r22_1, r22_2, r22_3, r22_4, r22_5, r22_6, r22_7, r22_8, r22_9, r22_10, r22_11, r22_12, r22_13, r22_14, r22_15, r22_16, r22_17, r22_18, r22_19, r22_20, r22_21, r22_22, r22_23, r22_24, r22_25, r22_26, r22_27, r22_28, r22_29, c22, rs22, gc22, loadV_ptr, storeV_ptr, getRow_app', getRow_setS, getRow_setO, getRow_lastN, set_lastN, set_app, List.set_set, bl_nil, bl_all, getRow_bl, set_bl, hr, hr2, hm2, hp2, h34, h35, lock_call, wordV_ptr, hno', getMap_app, getMap_setO, getMap_setS, hm, lkM, lookE0, lookE1, upM, updE0, deM _ _ _ (key3 _), delE1, lnM, lenE0, lenE1, h44, h45, h46, h47, b_del, dfrs_cons, unlock_dfr, hd3, hwe, hwe2, ↓reduceIte, go_sem, Nat.add_zero, Nat.zero_add, Nat.sub_zero, List.drop_zero, Nat.reduceLT, Nat.reduceEqDiff, Nat.reduceAdd, Nat.reduceMul, Nat.reduceSub, Int.reduceAdd, Int.reduceSub, Nat.reduceLeDiff, Int.reduceLT, Int.reduceLE, Int.reduceEq, Int.reduceNeg, Int.reduceToNat, IntWalk.i64_in, Bool.or_self, Bool.or_false, Bool.or_true, Bool.and_false, Bool.and_true, Bool.false_or, Bool.true_or, Bool.false_eq_true, Bool.true_eq_false, hy])
  all_goals (try (exfalso; simp_all; done))
  all_goals first | exact fin1 0 _ _ | exact fin2 [] _ _ _ (slV_nil byE).symm | exact fin2 _ _ _ _ rfl | exact fin3 _ _ _ rfl | exact fin3 _ _ _ (by simp_all)
end Go.Proofs.Ytdpdlobaabcjjab
/-
  The table's Whole, walked. No statement of the seat stands here.
-/
namespace Go.Proofs.Ytdpdlobaabcjjab
open Go Go.An
set_option maxRecDepth 4000
set_option linter.unusedSimpArgs false
set_option linter.unusedVariables false

theorem Tm.keep {n0 tb m : Nat} {pol id : Int} {st : Option (List Cl × Int)} {H H' : Hp} (h : Tm n0 H tb m pol id st) (hk : ∀ j, j < H.length → H'[j]? = H[j]?) : Tm n0 H' tb m pol id st := by
  have hlt : tb < H.length := (List.getElem?_eq_some_iff.1 h.row).1
  refine ⟨h.tb0, h.m0, h.ne, by rw [hk tb hlt]; exact h.row, ?_⟩
  have hst := h.st
  cases st with
  | none =>
    have hst' : H[m]? = some (.map 3 []) := hst
    have hm : m < H.length := (List.getElem?_eq_some_iff.1 hst').1
    show H'[m]? = _
    rw [hk m hm]; exact hst'
  | some s =>
    obtain ⟨w, cv, beg, h1, h2, h3⟩ := hst
    have hm : m < H.length := (List.getElem?_eq_some_iff.1 h1).1
    exact ⟨w, cv, beg, by rw [hk m hm]; exact h1, h2.frame (hk w h2.lt) fun j hj => hk j (h2.own.lt hj), h3⟩
set_option maxHeartbeats 1000000 in
theorem fn22e {n0 tb m : Nat} {pol id : Int} {p : Pc} {st : Option (List Cl × Int)} {H : Hp} (ht : Tm n0 H tb m pol id st) (hp : PcOk p) (h : askedI p ≠ 0 ∨ nothB p = true) : ∃ r, callL Try.prog pr 22 [.ptr tb 0 0, .agg (pcE.f p)] H = some r ∧ PutR n0 H tb m pol id (if askedI p ≠ 0 then (([], 0, askedI p), st) else (([], 2, 0), st)) r := by
  have hr := getRow_of ht.row
  have hlt : tb < H.length := (List.getElem?_eq_some_iff.1 ht.row).1
  have h34 := fun H => fn34 p H
  have h35 := fun H => fn35 p hp H
  have hset : H.set tb (.row 0 [.int .i32 0, .int .u32 0, .int .i64 pol, .map m] true) = H := set_same ht.row
  have fin : ∀ (b c : Int), PutR n0 H tb m pol id (([], b, c), st) (.tup [.nilslice, .int .i64 b, .int .i64 c], H.set tb (.row 0 [.int .i32 0, .int .u32 0, .int .i64 pol, .map m] true) ++ [.row 0 (pcE.f p) true]) := fun b c => by
    rw [hset]
    exact ⟨by simp [outV, slV_nil], ht.keep fun j hj => List.getElem?_append_left hj, fun j hj => List.getElem?_append_left (by have := ht.tb0; omega), by simp⟩
  refine ex22 (Nat.le_of_ble_eq_true rfl) ?_
  unfold askedI at h ⊢
  by_cases h1 : isPieceB p = true
  · rw [if_pos h1] at h ⊢
    by_cases h2 : isFarB p = true
    · rw [if_pos h2] at h ⊢
      rw [h1] at h34
      rw [h2] at h35
      simp (disch := first | rfl | omega | exact byE_w | exact inE_w | exact boE_w | exact stE_w | exact pcE_w | exact celE_w | exact lt_new _ | assumption | (simp only [List.length_append, List.length_singleton, List.length_set, List.length_take, List.length_drop, List.length_map]; done) | (simp only [List.length_append, List.length_singleton, List.length_set, List.length_take, List.length_drop, List.length_map]; omega)) only [r22_0, r22_1, r22_2, r22_3, r22_4, r22_5, r22_6, r22_7, r22_8, r22_9, r22_10, r22_11, r22_12, r22_13, r22_14, r22_15, r22_16, r22_17, r22_18, r22_19, r22_20, r22_21, r22_22, r22_23, r22_24, r22_25, r22_26, r22_27, r22_28, r22_29, c22, rs22, gc22, loadV_ptr, storeV_ptr, getRow_app', getRow_setS, getRow_setO, getRow_lastN, set_lastN, set_app, List.set_set, bl_nil, bl_all, getRow_bl, set_bl, hr, h34, h35, lock_call, wordV_ptr, dfrs_cons, unlock_dfr, ↓reduceIte, go_sem, Nat.add_zero, Nat.zero_add, Nat.sub_zero, List.drop_zero, Nat.reduceLT, Nat.reduceEqDiff, Nat.reduceAdd, Nat.reduceMul, Nat.reduceSub, Int.reduceAdd, Int.reduceSub, Nat.reduceLeDiff, Int.reduceLT, Int.reduceLE, Int.reduceEq, Int.reduceNeg, Int.reduceToNat, IntWalk.i64_in, Bool.or_self, Bool.or_false, Bool.or_true, Bool.and_false, Bool.and_true, Bool.false_or, Bool.true_or, Bool.false_eq_true, Bool.true_eq_false]
      repeat' ((first | refine guardB_dec (fun hy => ?_) (fun hy => ?_) | refine guardB_bool (fun hy => ?_) (fun hy => ?_) | refine guardQ_ite (fun hy => ?_) (fun hy => ?_) | refine brQ_dec (fun hy => ?_) (fun hy => ?_) | refine brQ_bool (fun hy => ?_) (fun hy => ?_)) <;> (try simp only [Bool.not_eq_true', Bool.not_eq_false', Bool.and_eq_true, Bool.or_eq_false_iff, decide_eq_true_eq, decide_eq_false_iff_not] at hy) <;> simp (disch := first | rfl | omega | exact byE_w | exact inE_w | exact boE_w | exact stE_w | exact pcE_w | exact celE_w | exact lt_new _ | assumption | (simp only [List.length_append, List.length_singleton, List.length_set, List.length_take, List.length_drop, List.length_map]; done) | (simp only [List.length_append, List.length_singleton, List.length_set, List.length_take, List.length_drop, List.length_map]; omega)) only [r22_0, r22_1, r22_2, r22_3, r22_4, r22_5, r22_6, r22_7, r22_8, r22_9, r22_10, r22_11, r22_12, r22_13, r22_14, r22_15, r22_16, r22_17, r22_18, r22_19, r22_20, r22_21, r22_22, r22_23, r22_24, r22_25, r22_26, r22_27, r22_28, r22_29, c22, rs22, gc22, loadV_ptr, storeV_ptr, getRow_app', getRow_setS, getRow_setO, getRow_lastN, set_lastN, set_app, List.set_set, bl_nil, bl_all, getRow_bl, set_bl, hr, h34, h35, lock_call, wordV_ptr, dfrs_cons, unlock_dfr, ↓reduceIte, go_sem, Nat.add_zero, Nat.zero_add, Nat.sub_zero, List.drop_zero, Nat.reduceLT, Nat.reduceEqDiff, Nat.reduceAdd, Nat.reduceMul, Nat.reduceSub, Int.reduceAdd, Int.reduceSub, Nat.reduceLeDiff, Int.reduceLT, Int.reduceLE, Int.reduceEq, Int.reduceNeg, Int.reduceToNat, IntWalk.i64_in, Bool.or_self, Bool.or_false, Bool.or_true, Bool.and_false, Bool.and_true, Bool.false_or, Bool.true_or, Bool.false_eq_true, Bool.true_eq_false, hy])
      exact fin 0 3
    · rw [if_neg h2] at h ⊢
      rw [Bool.not_eq_true] at h2
      rw [h1] at h34
      rw [h2] at h35
      have hno : nothB p = true := h.resolve_left (by simp)
      unfold nothB at hno
      simp only [Bool.and_eq_true, decide_eq_true_eq] at hno
      obtain ⟨hno1, hno2⟩ := hno
      have hno1 : (p.data.length : Int) = 0 := by omega
      simp (disch := first | rfl | omega | exact byE_w | exact inE_w | exact boE_w | exact stE_w | exact pcE_w | exact celE_w | exact lt_new _ | assumption | (simp only [List.length_append, List.length_singleton, List.length_set, List.length_take, List.length_drop, List.length_map]; done) | (simp only [List.length_append, List.length_singleton, List.length_set, List.length_take, List.length_drop, List.length_map]; omega)) only [r22_0, r22_1, r22_2, r22_3, r22_4, r22_5, r22_6, r22_7, r22_8, r22_9, r22_10, r22_11, r22_12, r22_13, r22_14, r22_15, r22_16, r22_17, r22_18, r22_19, r22_20, r22_21, r22_22, r22_23, r22_24, r22_25, r22_26, r22_27, r22_28, r22_29, c22, rs22, gc22, loadV_ptr, storeV_ptr, getRow_app', getRow_setS, getRow_setO, getRow_lastN, set_lastN, set_app, List.set_set, bl_nil, bl_all, getRow_bl, set_bl, hr, h34, h35, lock_call, wordV_ptr, dfrs_cons, unlock_dfr, hno1, hno2, decide_true, ↓reduceIte, go_sem, Nat.add_zero, Nat.zero_add, Nat.sub_zero, List.drop_zero, Nat.reduceLT, Nat.reduceEqDiff, Nat.reduceAdd, Nat.reduceMul, Nat.reduceSub, Int.reduceAdd, Int.reduceSub, Nat.reduceLeDiff, Int.reduceLT, Int.reduceLE, Int.reduceEq, Int.reduceNeg, Int.reduceToNat, IntWalk.i64_in, Bool.or_self, Bool.or_false, Bool.or_true, Bool.and_false, Bool.and_true, Bool.false_or, Bool.true_or, Bool.false_eq_true, Bool.true_eq_false]
      repeat' ((first | refine guardB_dec (fun hy => ?_) (fun hy => ?_) | refine guardB_bool (fun hy => ?_) (fun hy => ?_) | refine guardQ_ite (fun hy => ?_) (fun hy => ?_) | refine brQ_dec (fun hy => ?_) (fun hy => ?_) | refine brQ_bool (fun hy => ?_) (fun hy => ?_)) <;> (try simp only [Bool.not_eq_true', Bool.not_eq_false', Bool.and_eq_true, Bool.or_eq_false_iff, decide_eq_true_eq, decide_eq_false_iff_not] at hy) <;> simp (disch := first | rfl | omega | exact byE_w | exact inE_w | exact boE_w | exact stE_w | exact pcE_w | exact celE_w | exact lt_new _ | assumption | (simp only [List.length_append, List.length_singleton, List.length_set, List.length_take, List.length_drop, List.length_map]; done) | (simp only [List.length_append, List.length_singleton, List.length_set, List.length_take, List.length_drop, List.length_map]; omega)) only [r22_0, r22_1, r22_2, r22_3, r22_4, r22_5, r22_6, r22_7, r22_8, r22_9, r22_10, r22_11, r22_12, r22_13, r22_14, r22_15, r22_16, r22_17, r22_18, r22_19, r22_20, r22_21, r22_22, r22_23, r22_24, r22_25, r22_26, r22_27, r22_28, r22_29, c22, rs22, gc22, loadV_ptr, storeV_ptr, getRow_app', getRow_setS, getRow_setO, getRow_lastN, set_lastN, set_app, List.set_set, bl_nil, bl_all, getRow_bl, set_bl, hr, h34, h35, lock_call, wordV_ptr, dfrs_cons, unlock_dfr, hno1, hno2, decide_true, ↓reduceIte, go_sem, Nat.add_zero, Nat.zero_add, Nat.sub_zero, List.drop_zero, Nat.reduceLT, Nat.reduceEqDiff, Nat.reduceAdd, Nat.reduceMul, Nat.reduceSub, Int.reduceAdd, Int.reduceSub, Nat.reduceLeDiff, Int.reduceLT, Int.reduceLE, Int.reduceEq, Int.reduceNeg, Int.reduceToNat, IntWalk.i64_in, Bool.or_self, Bool.or_false, Bool.or_true, Bool.and_false, Bool.and_true, Bool.false_or, Bool.true_or, Bool.false_eq_true, Bool.true_eq_false, hy])
      exact fin 2 0
  · rw [if_neg h1]
    rw [Bool.not_eq_true] at h1
    rw [h1] at h34
    simp (disch := first | rfl | omega | exact byE_w | exact inE_w | exact boE_w | exact stE_w | exact pcE_w | exact celE_w | exact lt_new _ | assumption | (simp only [List.length_append, List.length_singleton, List.length_set, List.length_take, List.length_drop, List.length_map]; done) | (simp only [List.length_append, List.length_singleton, List.length_set, List.length_take, List.length_drop, List.length_map]; omega)) only [r22_0, r22_1, r22_2, r22_3, r22_4, r22_5, r22_6, r22_7, r22_8, r22_9, r22_10, r22_11, r22_12, r22_13, r22_14, r22_15, r22_16, r22_17, r22_18, r22_19, r22_20, r22_21, r22_22, r22_23, r22_24, r22_25, r22_26, r22_27, r22_28, r22_29, c22, rs22, gc22, loadV_ptr, storeV_ptr, getRow_app', getRow_setS, getRow_setO, getRow_lastN, set_lastN, set_app, List.set_set, bl_nil, bl_all, getRow_bl, set_bl, hr, h34, h35, lock_call, wordV_ptr, dfrs_cons, unlock_dfr, ↓reduceIte, go_sem, Nat.add_zero, Nat.zero_add, Nat.sub_zero, List.drop_zero, Nat.reduceLT, Nat.reduceEqDiff, Nat.reduceAdd, Nat.reduceMul, Nat.reduceSub, Int.reduceAdd, Int.reduceSub, Nat.reduceLeDiff, Int.reduceLT, Int.reduceLE, Int.reduceEq, Int.reduceNeg, Int.reduceToNat, IntWalk.i64_in, Bool.or_self, Bool.or_false, Bool.or_true, Bool.and_false, Bool.and_true, Bool.false_or, Bool.true_or, Bool.false_eq_true, Bool.true_eq_false]
    repeat' ((first | refine guardB_dec (fun hy => ?_) (fun hy => ?_) | refine guardB_bool (fun hy => ?_) (fun hy => ?_) | refine guardQ_ite (fun hy => ?_) (fun hy => ?_) | refine brQ_dec (fun hy => ?_) (fun hy => ?_) | refine brQ_bool (fun hy => ?_) (fun hy => ?_)) <;> (try simp only [Bool.not_eq_true', Bool.not_eq_false', Bool.and_eq_true, Bool.or_eq_false_iff, decide_eq_true_eq, decide_eq_false_iff_not] at hy) <;> simp (disch := first | rfl | omega | exact byE_w | exact inE_w | exact boE_w | exact stE_w | exact pcE_w | exact celE_w | exact lt_new _ | assumption | (simp only [List.length_append, List.length_singleton, List.length_set, List.length_take, List.length_drop, List.length_map]; done) | (simp only [List.length_append, List.length_singleton, List.length_set, List.length_take, List.length_drop, List.length_map]; omega)) only [r22_0, r22_1, r22_2, r22_3, r22_4, r22_5, r22_6, r22_7, r22_8, r22_9, r22_10, r22_11, r22_12, r22_13, r22_14, r22_15, r22_16, r22_17, r22_18, r22_19, r22_20, r22_21, r22_22, r22_23, r22_24, r22_25, r22_26, r22_27, r22_28, r22_29, c22, rs22, gc22, loadV_ptr, storeV_ptr, getRow_app', getRow_setS, getRow_setO, getRow_lastN, set_lastN, set_app, List.set_set, bl_nil, bl_all, getRow_bl, set_bl, hr, h34, h35, lock_call, wordV_ptr, dfrs_cons, unlock_dfr, ↓reduceIte, go_sem, Nat.add_zero, Nat.zero_add, Nat.sub_zero, List.drop_zero, Nat.reduceLT, Nat.reduceEqDiff, Nat.reduceAdd, Nat.reduceMul, Nat.reduceSub, Int.reduceAdd, Int.reduceSub, Nat.reduceLeDiff, Int.reduceLT, Int.reduceLE, Int.reduceEq, Int.reduceNeg, Int.reduceToNat, IntWalk.i64_in, Bool.or_self, Bool.or_false, Bool.or_true, Bool.and_false, Bool.and_true, Bool.false_or, Bool.true_or, Bool.false_eq_true, Bool.true_eq_false, hy])
    exact fin 0 1
theorem fn22 {n0 tb m : Nat} {pol : Int} {p : Pc} {st : Option (List Cl × Int)} {H : Hp} (ht : Tm n0 H tb m pol p.id st) (hp : PcOk p) (hl : ∀ s, st = some s → s.1.length ≤ 4000) (hn : n0 ≤ H.length) : ∃ r, callL Try.prog pr 22 [.ptr tb 0 0, .agg (pcE.f p)] H = some r ∧ PutR n0 H tb m pol p.id (fragStep pol st p) r := by
  unfold fragStep
  by_cases ha : askedI p ≠ 0
  · have := fn22e ht hp (.inl ha)
    rw [if_pos ha] at this ⊢
    exact this
  · by_cases hno : nothB p = true
    · have := fn22e ht hp (.inr hno)
      rw [if_neg ha] at this ⊢
      rw [if_pos hno]
      exact this
    · rw [if_neg ha, if_neg hno]
      have np := near_of hp (by omega)
      rw [Bool.not_eq_true] at hno
      cases st with
      | none => exact fn22z ht np (by omega) hno hn
      | some s => exact fn22a (cs := s.1) (tot := s.2) ht np (by omega) hno (hl s rfl)
theorem fragStep_len {pol : Int} {st : Option (List Cl × Int)} {p : Pc} (hp : PcOk p) (hl : ∀ s, st = some s → s.1.length ≤ 4000) : ∀ s, (fragStep pol st p).2 = some s → s.1.length ≤ 4000 := by
  intro s hs
  unfold fragStep at hs
  split at hs
  · exact hl s hs
  rename_i ha
  split at hs
  · exact hl s hs
  have np := near_of hp (by omega)
  have hlo := np.lo
  have hhi := np.hi
  unfold fragIn at hs
  split at hs
  · cases hs
  split at hs
  · cases hs
  split at hs
  · cases hs
  · injection hs with hs
    subst hs
    show (putC _ _ _ _).length ≤ _
    rw [putC_len, grow_len _ _ np]
    cases st with
    | none => simp; split <;> omega
    | some s => have := hl s rfl; simp only [Option.getD_some]; split <;> omega
/-- All pieces, one behind the other, up to the one that decides. -/
def fragRun (pol : Int) : Option (List Cl × Int) → List Pc → List UInt8 × Int × Int
  | _, [] => ([], 0, 0)
  | st, p :: ps => if (fragStep pol st p).1.2.2 ≠ 0 ∨ ((fragStep pol st p).1.2.1 ≠ 0 ∧ (fragStep pol st p).1.2.1 ≠ 2) then (fragStep pol st p).1 else fragRun pol (fragStep pol st p).2 ps
theorem fragRun_cons (pol : Int) (st : Option (List Cl × Int)) (p : Pc) (ps : List Pc) : fragRun pol st (p :: ps) = if (fragStep pol st p).1.2.2 ≠ 0 ∨ ((fragStep pol st p).1.2.1 ≠ 0 ∧ (fragStep pol st p).1.2.1 ≠ 2) then (fragStep pol st p).1 else fragRun pol (fragStep pol st p).2 ps := rfl
def fragWhole (l : List Pc) (pol : Int) : List UInt8 × Int × Int :=
  if pol < 0 ∨ 3 < pol then ([], 0, 1) else if l.any (notSame l) = true then ([], 0, 10) else fragRun pol none l
theorem fn30 {l : List Pc} {s : V} {p : Pc} {bx : Nat} {H : Hp} (hs : LstE pcE H s l) (hb : getRow H bx 0 = some ([s], true)) (hl : 0 < l.length) : callL Try.prog pr 30 [.agg (pcE.f p), .ptr bx 0 0] H = some (.bool (notSame l p), H) := by
  refine run30 (Nat.le_of_ble_eq_true rfl) ?_
  unfold notSame
  have hs' : (∃ b, s = slV b pcE l) ∨ ∃ id g, s = .slice id g 0 l.length 5 .full ∧ getRow H id g = some (flatE pcE l, true) := hs
  have hq0 := lq_cell0 (w := 5) (P := Try.prog) (E := pcE) g3 rfl hl
  rcases hs' with ⟨b, rfl⟩ | ⟨id, g, rfl, hr⟩
  ·
    simp (disch := first | rfl | omega | exact byE_w | exact inE_w | exact boE_w | exact stE_w | exact pcE_w | exact celE_w | exact lt_new _ | assumption | (simp only [List.length_append, List.length_singleton, List.length_set, List.length_take, List.length_drop, List.length_map]; done) | (simp only [List.length_append, List.length_singleton, List.length_set, List.length_take, List.length_drop, List.length_map]; omega)) only [r30_0, r30_1, c30, rs30, gc30, ldP0 hl, Nat.zero_mul, loadV_ptr, hb, ↓reduceIte, go_sem, Nat.add_zero, Nat.zero_add, Nat.sub_zero, List.drop_zero, Nat.reduceLT, Nat.reduceEqDiff, Nat.reduceAdd, Nat.reduceMul, Nat.reduceSub, Int.reduceAdd, Int.reduceSub, Nat.reduceLeDiff, Int.reduceLT, Int.reduceLE, Int.reduceEq, Int.reduceNeg, Int.reduceToNat, IntWalk.i64_in, Bool.or_self, Bool.or_false, Bool.or_true, Bool.and_false, Bool.and_true, Bool.false_or, Bool.true_or, Bool.false_eq_true, Bool.true_eq_false]
    repeat' ((first | refine guardB_dec (fun hy => ?_) (fun hy => ?_) | refine guardB_bool (fun hy => ?_) (fun hy => ?_) | refine guardQ_ite (fun hy => ?_) (fun hy => ?_) | refine brQ_dec (fun hy => ?_) (fun hy => ?_) | refine brQ_bool (fun hy => ?_) (fun hy => ?_)) <;> (try simp only [Bool.not_eq_true', Bool.not_eq_false', Bool.and_eq_true, Bool.or_eq_false_iff, decide_eq_true_eq, decide_eq_false_iff_not] at hy) <;> simp (disch := first | rfl | omega | exact byE_w | exact inE_w | exact boE_w | exact stE_w | exact pcE_w | exact celE_w | exact lt_new _ | assumption | (simp only [List.length_append, List.length_singleton, List.length_set, List.length_take, List.length_drop, List.length_map]; done) | (simp only [List.length_append, List.length_singleton, List.length_set, List.length_take, List.length_drop, List.length_map]; omega)) only [r30_0, r30_1, c30, rs30, gc30, ldP0 hl, Nat.zero_mul, loadV_ptr, hb, ↓reduceIte, go_sem, Nat.add_zero, Nat.zero_add, Nat.sub_zero, List.drop_zero, Nat.reduceLT, Nat.reduceEqDiff, Nat.reduceAdd, Nat.reduceMul, Nat.reduceSub, Int.reduceAdd, Int.reduceSub, Nat.reduceLeDiff, Int.reduceLT, Int.reduceLE, Int.reduceEq, Int.reduceNeg, Int.reduceToNat, IntWalk.i64_in, Bool.or_self, Bool.or_false, Bool.or_true, Bool.and_false, Bool.and_true, Bool.false_or, Bool.true_or, Bool.false_eq_true, Bool.true_eq_false, hy])
    refine finQ_same ?_
    simp [go_sem]
  · rw [Nat.zero_mul] at hq0
    skip
    simp (disch := first | rfl | omega | exact byE_w | exact inE_w | exact boE_w | exact stE_w | exact pcE_w | exact celE_w | exact lt_new _ | assumption | (simp only [List.length_append, List.length_singleton, List.length_set, List.length_take, List.length_drop, List.length_map]; done) | (simp only [List.length_append, List.length_singleton, List.length_set, List.length_take, List.length_drop, List.length_map]; omega)) only [r30_0, r30_1, c30, rs30, gc30, Nat.zero_mul, loadV_ptr, hb, hr, hq0, ↓reduceIte, go_sem, Nat.add_zero, Nat.zero_add, Nat.sub_zero, List.drop_zero, Nat.reduceLT, Nat.reduceEqDiff, Nat.reduceAdd, Nat.reduceMul, Nat.reduceSub, Int.reduceAdd, Int.reduceSub, Nat.reduceLeDiff, Int.reduceLT, Int.reduceLE, Int.reduceEq, Int.reduceNeg, Int.reduceToNat, IntWalk.i64_in, Bool.or_self, Bool.or_false, Bool.or_true, Bool.and_false, Bool.and_true, Bool.false_or, Bool.true_or, Bool.false_eq_true, Bool.true_eq_false]
    repeat' ((first | refine guardB_dec (fun hy => ?_) (fun hy => ?_) | refine guardB_bool (fun hy => ?_) (fun hy => ?_) | refine guardQ_ite (fun hy => ?_) (fun hy => ?_) | refine brQ_dec (fun hy => ?_) (fun hy => ?_) | refine brQ_bool (fun hy => ?_) (fun hy => ?_)) <;> (try simp only [Bool.not_eq_true', Bool.not_eq_false', Bool.and_eq_true, Bool.or_eq_false_iff, decide_eq_true_eq, decide_eq_false_iff_not] at hy) <;> simp (disch := first | rfl | omega | exact byE_w | exact inE_w | exact boE_w | exact stE_w | exact pcE_w | exact celE_w | exact lt_new _ | assumption | (simp only [List.length_append, List.length_singleton, List.length_set, List.length_take, List.length_drop, List.length_map]; done) | (simp only [List.length_append, List.length_singleton, List.length_set, List.length_take, List.length_drop, List.length_map]; omega)) only [r30_0, r30_1, c30, rs30, gc30, Nat.zero_mul, loadV_ptr, hb, hr, hq0, ↓reduceIte, go_sem, Nat.add_zero, Nat.zero_add, Nat.sub_zero, List.drop_zero, Nat.reduceLT, Nat.reduceEqDiff, Nat.reduceAdd, Nat.reduceMul, Nat.reduceSub, Int.reduceAdd, Int.reduceSub, Nat.reduceLeDiff, Int.reduceLT, Int.reduceLE, Int.reduceEq, Int.reduceNeg, Int.reduceToNat, IntWalk.i64_in, Bool.or_self, Bool.or_false, Bool.or_true, Bool.and_false, Bool.and_true, Bool.false_or, Bool.true_or, Bool.false_eq_true, Bool.true_eq_false, hy])
    refine finQ_same ?_
    simp [go_sem]
theorem pcE_sa (p : Pc) : setAt [.int .i64 0, .int .i64 0, .bool false, .nilslice, .int .i64 0] 0 (pcE.f p) = pcE.f p := rfl
set_option maxHeartbeats 2000000 in
theorem fn12L {l : List Pc} {s : V} {H : Hp} (hs : LstE pcE H s l) (pol : Int) (hok : ∀ p ∈ l, PcOk p) (hlen : l.length ≤ 800) : callL Try.prog pr 12 [s, .int .i64 pol] H = some (outV (fragWhole l pol), H) := by
  have h27 := fn27 pol
  have hs' : (∃ b, s = slV b pcE l) ∨ ∃ id g, s = .slice id g 0 l.length 5 .full ∧ getRow H id g = some (flatE pcE l, true) := hs
  have hln : ∀ H', lenV Try.prog 22 H' s = some (.int .i64 l.length) := fun H' => by
    rcases hs' with ⟨b, rfl⟩ | ⟨id, g, rfl, hr⟩
    · exact ns22 b pcE l
    · exact n22 ..
  have hce : eqA s s = true ∧ s.isTup = false ∧ s.isCell = true ∧ s.cells = [s] := by
    rcases hs' with ⟨b, rfl⟩ | ⟨id, g, rfl, hr⟩
    · exact ⟨slV_eqA b pcE l, slV_nt b pcE l, slV_cell b pcE l, slV_cells b pcE l⟩
    · exact ⟨eqA_slice .., rfl, rfl, rfl⟩
  have hbx : ∀ L : Hp, getRow (H ++ [.row 0 [s] true] ++ L) H.length 0 = some ([s], true) := fun L => by
    rw [getRow_app' (by simp), getRow_lastN rfl]
  refine run12 (Nat.le_of_ble_eq_true rfl) ?_
  by_cases hpol : pol < 0 ∨ 3 < pol
  · have e : fragWhole l pol = ([], 0, 1) := by unfold fragWhole; rw [if_pos hpol]
    simp only [if_pos hpol] at h27
    rw [e]
    simp (disch := first | rfl | omega | exact byE_w | exact inE_w | exact boE_w | exact stE_w | exact pcE_w | exact celE_w | exact lt_new _ | assumption | (simp only [List.length_append, List.length_singleton, List.length_set, List.length_take, List.length_drop, List.length_map]; done) | (simp only [List.length_append, List.length_singleton, List.length_set, List.length_take, List.length_drop, List.length_map]; omega)) only [r12_0, r12_1, r12_2, r12_3, r12_4, r12_5, r12_6, r12_7, r12_8, r12_9, r12_10, r12_11, r12_12, r12_14, c12, rs12, gc12, h27, hce, ↓reduceIte, go_sem, Nat.add_zero, Nat.zero_add, Nat.sub_zero, List.drop_zero, Nat.reduceLT, Nat.reduceEqDiff, Nat.reduceAdd, Nat.reduceMul, Nat.reduceSub, Int.reduceAdd, Int.reduceSub, Nat.reduceLeDiff, Int.reduceLT, Int.reduceLE, Int.reduceEq, Int.reduceNeg, Int.reduceToNat, IntWalk.i64_in, Bool.or_self, Bool.or_false, Bool.or_true, Bool.and_false, Bool.and_true, Bool.false_or, Bool.true_or, Bool.false_eq_true, Bool.true_eq_false]
    repeat' ((first | refine guardB_dec (fun hy => ?_) (fun hy => ?_) | refine guardB_bool (fun hy => ?_) (fun hy => ?_) | refine guardQ_ite (fun hy => ?_) (fun hy => ?_) | refine brQ_dec (fun hy => ?_) (fun hy => ?_) | refine brQ_bool (fun hy => ?_) (fun hy => ?_)) <;> (try simp only [Bool.not_eq_true', Bool.not_eq_false', Bool.and_eq_true, Bool.or_eq_false_iff, decide_eq_true_eq, decide_eq_false_iff_not] at hy) <;> simp (disch := first | rfl | omega | exact byE_w | exact inE_w | exact boE_w | exact stE_w | exact pcE_w | exact celE_w | exact lt_new _ | assumption | (simp only [List.length_append, List.length_singleton, List.length_set, List.length_take, List.length_drop, List.length_map]; done) | (simp only [List.length_append, List.length_singleton, List.length_set, List.length_take, List.length_drop, List.length_map]; omega)) only [r12_0, r12_1, r12_2, r12_3, r12_4, r12_5, r12_6, r12_7, r12_8, r12_9, r12_10, r12_11, r12_12, r12_14, c12, rs12, gc12, h27, hce, ↓reduceIte, go_sem, Nat.add_zero, Nat.zero_add, Nat.sub_zero, List.drop_zero, Nat.reduceLT, Nat.reduceEqDiff, Nat.reduceAdd, Nat.reduceMul, Nat.reduceSub, Int.reduceAdd, Int.reduceSub, Nat.reduceLeDiff, Int.reduceLT, Int.reduceLE, Int.reduceEq, Int.reduceNeg, Int.reduceToNat, IntWalk.i64_in, Bool.or_self, Bool.or_false, Bool.or_true, Bool.and_false, Bool.and_true, Bool.false_or, Bool.true_or, Bool.false_eq_true, Bool.true_eq_false, hy])
    all_goals (try ((first | refine finQ_same ?_ | refine finQ_app ?_ | (rw [List.append_assoc]; refine finQ_app ?_)) <;> simp (disch := first | rfl | omega | exact byE_w | exact inE_w | exact boE_w | exact stE_w | exact pcE_w | exact celE_w | exact lt_new _ | assumption | (simp only [List.length_append, List.length_singleton, List.length_set, List.length_take, List.length_drop, List.length_map]; done) | (simp only [List.length_append, List.length_singleton, List.length_set, List.length_take, List.length_drop, List.length_map]; omega)) only [outV, slV_nil, ↓reduceIte, go_sem, Nat.add_zero, Nat.zero_add, Nat.sub_zero, List.drop_zero, Nat.reduceLT, Nat.reduceEqDiff, Nat.reduceAdd, Nat.reduceMul, Nat.reduceSub, Int.reduceAdd, Int.reduceSub, Nat.reduceLeDiff, Int.reduceLT, Int.reduceLE, Int.reduceEq, Int.reduceNeg, Int.reduceToNat, IntWalk.i64_in, Bool.or_self, Bool.or_false, Bool.or_true, Bool.and_false, Bool.and_true, Bool.false_or, Bool.true_or, Bool.false_eq_true, Bool.true_eq_false, List.append_assoc, List.cons_append, List.nil_append]))
    all_goals (try first | rfl | (simp [*]; done) | grind)
  · simp only [if_neg hpol] at h27
    have h29 := fun L : Hp => fn29L (H := H ++ [.row 0 [s] true] ++ L) (((hs.app [.row 0 [s] true]).app L)) rfl (by omega) (notSame l) 30 [] [.ptr H.length 0 0] (fun x hx => fn30 ((hs.app [.row 0 [s] true]).app L) (hbx L) (by cases l with | nil => cases hx | cons => simp))
    have h29 := fun L M : Hp => h29 (L ++ M)
    simp only [← List.append_assoc] at h29
    have hb2 : ∀ L M : Hp, getRow (H ++ [.row 0 [s] true] ++ L ++ M) H.length 0 = some ([s], true) := fun L M => by rw [List.append_assoc]; exact hbx (L ++ M)
    by_cases hany : l.any (notSame l) = true
    · have e : fragWhole l pol = ([], 0, 10) := by unfold fragWhole; rw [if_neg hpol, if_pos hany]
      rw [hany] at h29
      rw [e]
      simp (disch := first | rfl | omega | exact byE_w | exact inE_w | exact boE_w | exact stE_w | exact pcE_w | exact celE_w | exact lt_new _ | assumption | (simp only [List.length_append, List.length_singleton, List.length_set, List.length_take, List.length_drop, List.length_map]; done) | (simp only [List.length_append, List.length_singleton, List.length_set, List.length_take, List.length_drop, List.length_map]; omega)) only [r12_0, r12_1, r12_2, r12_3, r12_4, r12_5, r12_6, r12_7, r12_8, r12_9, r12_10, r12_11, r12_12, r12_14, c12, rs12, gc12, h27, h29, hce, hln, loadV_ptr, hb2, hbx, ↓reduceIte, go_sem, Nat.add_zero, Nat.zero_add, Nat.sub_zero, List.drop_zero, Nat.reduceLT, Nat.reduceEqDiff, Nat.reduceAdd, Nat.reduceMul, Nat.reduceSub, Int.reduceAdd, Int.reduceSub, Nat.reduceLeDiff, Int.reduceLT, Int.reduceLE, Int.reduceEq, Int.reduceNeg, Int.reduceToNat, IntWalk.i64_in, Bool.or_self, Bool.or_false, Bool.or_true, Bool.and_false, Bool.and_true, Bool.false_or, Bool.true_or, Bool.false_eq_true, Bool.true_eq_false]
      repeat' ((first | refine guardB_dec (fun hy => ?_) (fun hy => ?_) | refine guardB_bool (fun hy => ?_) (fun hy => ?_) | refine guardQ_ite (fun hy => ?_) (fun hy => ?_) | refine brQ_dec (fun hy => ?_) (fun hy => ?_) | refine brQ_bool (fun hy => ?_) (fun hy => ?_)) <;> (try simp only [Bool.not_eq_true', Bool.not_eq_false', Bool.and_eq_true, Bool.or_eq_false_iff, decide_eq_true_eq, decide_eq_false_iff_not] at hy) <;> simp (disch := first | rfl | omega | exact byE_w | exact inE_w | exact boE_w | exact stE_w | exact pcE_w | exact celE_w | exact lt_new _ | assumption | (simp only [List.length_append, List.length_singleton, List.length_set, List.length_take, List.length_drop, List.length_map]; done) | (simp only [List.length_append, List.length_singleton, List.length_set, List.length_take, List.length_drop, List.length_map]; omega)) only [r12_0, r12_1, r12_2, r12_3, r12_4, r12_5, r12_6, r12_7, r12_8, r12_9, r12_10, r12_11, r12_12, r12_14, c12, rs12, gc12, h27, h29, hce, hln, loadV_ptr, hb2, hbx, ↓reduceIte, go_sem, Nat.add_zero, Nat.zero_add, Nat.sub_zero, List.drop_zero, Nat.reduceLT, Nat.reduceEqDiff, Nat.reduceAdd, Nat.reduceMul, Nat.reduceSub, Int.reduceAdd, Int.reduceSub, Nat.reduceLeDiff, Int.reduceLT, Int.reduceLE, Int.reduceEq, Int.reduceNeg, Int.reduceToNat, IntWalk.i64_in, Bool.or_self, Bool.or_false, Bool.or_true, Bool.and_false, Bool.and_true, Bool.false_or, Bool.true_or, Bool.false_eq_true, Bool.true_eq_false, hy])
      refine gcF_of (fun j hj => by rw [List.append_assoc, List.append_assoc, List.getElem?_append_left hj]) ?_
      simp only [↓reduceIte, go_sem, Nat.add_zero, Nat.zero_add, Nat.sub_zero, List.drop_zero, Nat.reduceLT, Nat.reduceEqDiff, Nat.reduceAdd, Nat.reduceMul, Nat.reduceSub, Int.reduceAdd, Int.reduceSub, Nat.reduceLeDiff, Int.reduceLT, Int.reduceLE, Int.reduceEq, Int.reduceNeg, Int.reduceToNat, IntWalk.i64_in, Bool.or_self, Bool.or_false, Bool.or_true, Bool.and_false, Bool.and_true, Bool.false_or, Bool.true_or, Bool.false_eq_true, Bool.true_eq_false, outV, slV_nil]
    · have e : fragWhole l pol = fragRun pol none l := by unfold fragWhole; rw [if_neg hpol, if_neg hany]
      rw [Bool.not_eq_true] at hany
      have hid : ∀ i, i < l.length → (pcE.at l i).id = (pcE.at l 0).id := by
        intro i hi
        have := List.any_eq_false.1 hany _ (pcE.at_mem hi)
        simpa [notSame] using this
      rw [hany] at h29
      rw [e]
      simp (disch := first | rfl | omega | exact byE_w | exact inE_w | exact boE_w | exact stE_w | exact pcE_w | exact celE_w | exact lt_new _ | assumption | (simp only [List.length_append, List.length_singleton, List.length_set, List.length_take, List.length_drop, List.length_map]; done) | (simp only [List.length_append, List.length_singleton, List.length_set, List.length_take, List.length_drop, List.length_map]; omega)) only [r12_0, r12_1, r12_2, r12_3, r12_4, r12_5, r12_6, r12_7, r12_8, r12_9, r12_10, r12_11, r12_12, r12_14, c12, rs12, gc12, h27, h29, hce, hln, loadV_ptr, hb2, hbx, ↓reduceIte, go_sem, Nat.add_zero, Nat.zero_add, Nat.sub_zero, List.drop_zero, Nat.reduceLT, Nat.reduceEqDiff, Nat.reduceAdd, Nat.reduceMul, Nat.reduceSub, Int.reduceAdd, Int.reduceSub, Nat.reduceLeDiff, Int.reduceLT, Int.reduceLE, Int.reduceEq, Int.reduceNeg, Int.reduceToNat, IntWalk.i64_in, Bool.or_self, Bool.or_false, Bool.or_true, Bool.and_false, Bool.and_true, Bool.false_or, Bool.true_or, Bool.false_eq_true, Bool.true_eq_false]
      repeat' ((first | refine guardB_dec (fun hy => ?_) (fun hy => ?_) | refine guardB_bool (fun hy => ?_) (fun hy => ?_) | refine guardQ_ite (fun hy => ?_) (fun hy => ?_) | refine brQ_dec (fun hy => ?_) (fun hy => ?_) | refine brQ_bool (fun hy => ?_) (fun hy => ?_)) <;> (try simp only [Bool.not_eq_true', Bool.not_eq_false', Bool.and_eq_true, Bool.or_eq_false_iff, decide_eq_true_eq, decide_eq_false_iff_not] at hy) <;> simp (disch := first | rfl | omega | exact byE_w | exact inE_w | exact boE_w | exact stE_w | exact pcE_w | exact celE_w | exact lt_new _ | assumption | (simp only [List.length_append, List.length_singleton, List.length_set, List.length_take, List.length_drop, List.length_map]; done) | (simp only [List.length_append, List.length_singleton, List.length_set, List.length_take, List.length_drop, List.length_map]; omega)) only [r12_0, r12_1, r12_2, r12_3, r12_4, r12_5, r12_6, r12_7, r12_8, r12_9, r12_10, r12_11, r12_12, r12_14, c12, rs12, gc12, h27, h29, hce, hln, loadV_ptr, hb2, hbx, ↓reduceIte, go_sem, Nat.add_zero, Nat.zero_add, Nat.sub_zero, List.drop_zero, Nat.reduceLT, Nat.reduceEqDiff, Nat.reduceAdd, Nat.reduceMul, Nat.reduceSub, Int.reduceAdd, Int.reduceSub, Nat.reduceLeDiff, Int.reduceLT, Int.reduceLE, Int.reduceEq, Int.reduceNeg, Int.reduceToNat, IntWalk.i64_in, Bool.or_self, Bool.or_false, Bool.or_true, Bool.and_false, Bool.and_true, Bool.false_or, Bool.true_or, Bool.false_eq_true, Bool.true_eq_false, hy])
      refine Wp_loop (fun m T D H' => ∃ i st, m = l.length - i ∧ i ≤ l.length ∧ D = [] ∧ Tm H.length H' (H.length + 2) (H.length + 1) pol (pcE.at l 0).id st ∧ (∀ j, j < H.length → H'[j]? = H[j]?) ∧ H.length ≤ H'.length ∧ get T 7 = .ptr (H.length + 2) 0 0 ∧ get T 25 = s ∧ get T 26 = .int .i64 l.length ∧ get T 27 = .int .i64 i ∧ fragRun pol none l = fragRun pol st (l.drop i) ∧ ∀ s, st = some s → s.1.length ≤ 4000) ?_ l.length _ _ _ ?_
      · rintro m T D H' ⟨i, st, rfl, hi, rfl, htm, hfr, hle, t7, t25, t26, t27, hrun, hsl⟩
        by_cases hlt : i < l.length
        · have hlt' : (i : Int) < l.length := by omega
          have hpo := hok _ (pcE.at_mem hlt)
          have hidi := hid i hlt
          have htm' : Tm H.length (H' ++ [.row 0 (pcE.f (pcE.at l i)) true]) (H.length + 2) (H.length + 1) pol (pcE.at l i).id st := by
            rw [hidi]; exact htm.keep fun j hj => List.getElem?_append_left hj
          obtain ⟨⟨v, H2⟩, h22, ⟨hv, htm2, hfr2, hle2⟩⟩ := fn22 htm' hpo hsl (by simp; omega)
          have hsl2 := fragStep_len (pol := pol) hpo hsl
          rw [pcE.drop_at hlt, fragRun_cons] at hrun
          obtain ⟨r, hr⟩ : ∃ r, fragStep pol st (pcE.at l i) = r := ⟨_, rfl⟩
          obtain ⟨⟨o1, o2, o3⟩, st2⟩ := r
          rw [hr] at hv htm2 hrun hsl2
          simp only [outV] at hv
          subst hv
          rw [hidi] at htm2
          have hfr3 : ∀ j, j < H.length → H2[j]? = H[j]? := fun j hj => by
            have := hfr2 j hj
            rw [this, List.getElem?_append_left (by omega)]
            exact hfr j hj
          simp at hle2
          have hlq := lq_agg (w := 5) (P := Try.prog) (E := pcE) g37 z37 rfl hlt
          have hix : ∃ a, (∀ kk, indexAddrV Try.prog 22 s (.int kk (i : Int)) = some a) ∧ loadV Try.prog 37 H' a = some (.agg (pcE.f (pcE.at l i))) ∧ eqA a a = true ∧ a.isTup = false := by
            rcases hs' with ⟨b, rfl⟩ | ⟨id, g, rfl, hr⟩
            · exact ⟨.ipt (flatE pcE l) (i * 5), fun kk => is22 rfl (by omega), ldP hlt, eqA_ipt .., rfl⟩
            · refine ⟨.ptr id g (0 + i * 5), fun kk => i22 (by omega), ?_, eqA_ptr .., rfl⟩
              have hid := getRow_lt hr
              have hr' : getRow H' id g = some (flatE pcE l, true) := by
                unfold getRow at hr ⊢
                rw [hfr id hid]; exact hr
              rw [loadV_ptr, hr', Nat.zero_add]
              exact hlq
          obtain ⟨ad, hix1, hix2, hix3⟩ := hix
          simp (disch := first | rfl | omega | exact byE_w | exact inE_w | exact boE_w | exact stE_w | exact pcE_w | exact celE_w | exact lt_new _ | assumption | (simp only [List.length_append, List.length_singleton, List.length_set, List.length_take, List.length_drop, List.length_map]; done) | (simp only [List.length_append, List.length_singleton, List.length_set, List.length_take, List.length_drop, List.length_map]; omega)) only [l12_13, r12_7, r12_8, r12_9, r12_10, r12_11, r12_12, rs12, gc12, t7, t25, t26, t27, hlt', decide_true, hix1, hix2, hix3, pcE_sa, h22, loadV_ptr, storeV_ptr, getRow_app', getRow_setS, getRow_setO, getRow_lastN, set_lastN, set_app, List.set_set, bl_nil, bl_all, getRow_bl, set_bl, ↓reduceIte, go_sem, Nat.add_zero, Nat.zero_add, Nat.sub_zero, List.drop_zero, Nat.reduceLT, Nat.reduceEqDiff, Nat.reduceAdd, Nat.reduceMul, Nat.reduceSub, Int.reduceAdd, Int.reduceSub, Nat.reduceLeDiff, Int.reduceLT, Int.reduceLE, Int.reduceEq, Int.reduceNeg, Int.reduceToNat, IntWalk.i64_in, Bool.or_self, Bool.or_false, Bool.or_true, Bool.and_false, Bool.and_true, Bool.false_or, Bool.true_or, Bool.false_eq_true, Bool.true_eq_false]
          repeat' ((first | refine guardB_dec (fun hy => ?_) (fun hy => ?_) | refine guardB_bool (fun hy => ?_) (fun hy => ?_) | refine guardQ_ite (fun hy => ?_) (fun hy => ?_) | refine brQ_dec (fun hy => ?_) (fun hy => ?_) | refine brQ_bool (fun hy => ?_) (fun hy => ?_)) <;> (try simp only [Bool.not_eq_true', Bool.not_eq_false', Bool.and_eq_true, Bool.or_eq_false_iff, decide_eq_true_eq, decide_eq_false_iff_not] at hy) <;> simp (disch := first | rfl | omega | exact byE_w | exact inE_w | exact boE_w | exact stE_w | exact pcE_w | exact celE_w | exact lt_new _ | assumption | (simp only [List.length_append, List.length_singleton, List.length_set, List.length_take, List.length_drop, List.length_map]; done) | (simp only [List.length_append, List.length_singleton, List.length_set, List.length_take, List.length_drop, List.length_map]; omega)) only [l12_13, r12_7, r12_8, r12_9, r12_10, r12_11, r12_12, rs12, gc12, t7, t25, t26, t27, hlt', decide_true, hix1, hix2, hix3, pcE_sa, h22, loadV_ptr, storeV_ptr, getRow_app', getRow_setS, getRow_setO, getRow_lastN, set_lastN, set_app, List.set_set, bl_nil, bl_all, getRow_bl, set_bl, ↓reduceIte, go_sem, Nat.add_zero, Nat.zero_add, Nat.sub_zero, List.drop_zero, Nat.reduceLT, Nat.reduceEqDiff, Nat.reduceAdd, Nat.reduceMul, Nat.reduceSub, Int.reduceAdd, Int.reduceSub, Nat.reduceLeDiff, Int.reduceLT, Int.reduceLE, Int.reduceEq, Int.reduceNeg, Int.reduceToNat, IntWalk.i64_in, Bool.or_self, Bool.or_false, Bool.or_true, Bool.and_false, Bool.and_true, Bool.false_or, Bool.true_or, Bool.false_eq_true, Bool.true_eq_false, hy])
          all_goals (try simp only [Bool.or_eq_true, Bool.or_eq_false_iff, Bool.and_eq_false_imp, decide_eq_true_eq, decide_eq_false_iff_not] at hy)
          all_goals first
            | (rw [if_pos (by simp only []; omega)] at hrun
               rw [hrun]
               refine gcF_of hfr3 ?_
               simp only [↓reduceIte, go_sem, Nat.add_zero, Nat.zero_add, Nat.sub_zero, List.drop_zero, Nat.reduceLT, Nat.reduceEqDiff, Nat.reduceAdd, Nat.reduceMul, Nat.reduceSub, Int.reduceAdd, Int.reduceSub, Nat.reduceLeDiff, Int.reduceLT, Int.reduceLE, Int.reduceEq, Int.reduceNeg, Int.reduceToNat, IntWalk.i64_in, Bool.or_self, Bool.or_false, Bool.or_true, Bool.and_false, Bool.and_true, Bool.false_or, Bool.true_or, Bool.false_eq_true, Bool.true_eq_false, outV, *]
               done)
            | (rw [if_neg (by simp only []; omega)] at hrun
               exact ⟨_, by omega, i + 1, st2, rfl, hlt, htm2, hfr3, by omega, rfl, hrun, hsl2⟩)
        · obtain rfl : i = l.length := by omega
          rw [List.drop_length] at hrun
          have e2 : fragRun pol st [] = ([], 0, 0) := rfl
          rw [hrun, e2]
          simp (disch := first | rfl | omega | exact byE_w | exact inE_w | exact boE_w | exact stE_w | exact pcE_w | exact celE_w | exact lt_new _ | assumption | (simp only [List.length_append, List.length_singleton, List.length_set, List.length_take, List.length_drop, List.length_map]; done) | (simp only [List.length_append, List.length_singleton, List.length_set, List.length_take, List.length_drop, List.length_map]; omega)) only [l12_13, r12_7, r12_14, rs12, gc12, t7, t25, t26, t27, Int.lt_irrefl, decide_false, ↓reduceIte, go_sem, Nat.add_zero, Nat.zero_add, Nat.sub_zero, List.drop_zero, Nat.reduceLT, Nat.reduceEqDiff, Nat.reduceAdd, Nat.reduceMul, Nat.reduceSub, Int.reduceAdd, Int.reduceSub, Nat.reduceLeDiff, Int.reduceLT, Int.reduceLE, Int.reduceEq, Int.reduceNeg, Int.reduceToNat, IntWalk.i64_in, Bool.or_self, Bool.or_false, Bool.or_true, Bool.and_false, Bool.and_true, Bool.false_or, Bool.true_or, Bool.false_eq_true, Bool.true_eq_false]
          repeat' ((first | refine guardB_dec (fun hy => ?_) (fun hy => ?_) | refine guardB_bool (fun hy => ?_) (fun hy => ?_) | refine guardQ_ite (fun hy => ?_) (fun hy => ?_) | refine brQ_dec (fun hy => ?_) (fun hy => ?_) | refine brQ_bool (fun hy => ?_) (fun hy => ?_)) <;> (try simp only [Bool.not_eq_true', Bool.not_eq_false', Bool.and_eq_true, Bool.or_eq_false_iff, decide_eq_true_eq, decide_eq_false_iff_not] at hy) <;> simp (disch := first | rfl | omega | exact byE_w | exact inE_w | exact boE_w | exact stE_w | exact pcE_w | exact celE_w | exact lt_new _ | assumption | (simp only [List.length_append, List.length_singleton, List.length_set, List.length_take, List.length_drop, List.length_map]; done) | (simp only [List.length_append, List.length_singleton, List.length_set, List.length_take, List.length_drop, List.length_map]; omega)) only [l12_13, r12_7, r12_14, rs12, gc12, t7, t25, t26, t27, Int.lt_irrefl, decide_false, ↓reduceIte, go_sem, Nat.add_zero, Nat.zero_add, Nat.sub_zero, List.drop_zero, Nat.reduceLT, Nat.reduceEqDiff, Nat.reduceAdd, Nat.reduceMul, Nat.reduceSub, Int.reduceAdd, Int.reduceSub, Nat.reduceLeDiff, Int.reduceLT, Int.reduceLE, Int.reduceEq, Int.reduceNeg, Int.reduceToNat, IntWalk.i64_in, Bool.or_self, Bool.or_false, Bool.or_true, Bool.and_false, Bool.and_true, Bool.false_or, Bool.true_or, Bool.false_eq_true, Bool.true_eq_false, hy])
          refine gcF_of hfr ?_
          simp only [↓reduceIte, go_sem, Nat.add_zero, Nat.zero_add, Nat.sub_zero, List.drop_zero, Nat.reduceLT, Nat.reduceEqDiff, Nat.reduceAdd, Nat.reduceMul, Nat.reduceSub, Int.reduceAdd, Int.reduceSub, Nat.reduceLeDiff, Int.reduceLT, Int.reduceLE, Int.reduceEq, Int.reduceNeg, Int.reduceToNat, IntWalk.i64_in, Bool.or_self, Bool.or_false, Bool.or_true, Bool.and_false, Bool.and_true, Bool.false_or, Bool.true_or, Bool.false_eq_true, Bool.true_eq_false, outV, slV_nil]
      · refine ⟨0, none, ?_⟩
        have h0 : Tm H.length (H ++ [.row 0 [s] true] ++ [.map 3 []] ++ [.row 0 (taC pol (H ++ [AB.row 0 [s] true]).length) true]) (H.length + 2) (H.length + 1) pol (pcE.at l 0).id none := ⟨by omega, by omega, by omega, (by rw [get_last (by simp)]; simp), by show (_ : Hp)[_]? = _; rw [List.getElem?_append_left (by simp)]; exact get_last (by simp)⟩
        simp only [↓reduceIte, go_sem, Nat.add_zero, Nat.zero_add, Nat.sub_zero, List.drop_zero, Nat.reduceLT, Nat.reduceEqDiff, Nat.reduceAdd, Nat.reduceMul, Nat.reduceSub, Int.reduceAdd, Int.reduceSub, Nat.reduceLeDiff, Int.reduceLT, Int.reduceLE, Int.reduceEq, Int.reduceNeg, Int.reduceToNat, IntWalk.i64_in, Bool.or_self, Bool.or_false, Bool.or_true, Bool.and_false, Bool.and_true, Bool.false_or, Bool.true_or, Bool.false_eq_true, Bool.true_eq_false, List.drop_zero, hce]
        exact ⟨by omega, h0, fun j hj => by rw [List.append_assoc, List.append_assoc, List.getElem?_append_left hj], by (simp; try omega), by simp; try omega, fun _ h => by cases h⟩
theorem fn12 {b : Bool} {l : List Pc} (pol : Int) (hok : ∀ p ∈ l, PcOk p) (hlen : l.length ≤ 800) (H : Hp) : callL Try.prog pr 12 [slV b pcE l, .int .i64 pol] H = some (outV (fragWhole l pol), H) := fn12L (LstE.of pcE H b l) pol hok hlen
end Go.Proofs.Ytdpdlobaabcjjab
/-
  The plain law: the cells of a whole are what its pieces tell. No statement of the seat stands here.
-/
namespace Go.Proofs.Ytdpdlobaabcjjab
open Go Go.An
set_option maxRecDepth 4000
set_option linter.unusedSimpArgs false
set_option linter.unusedVariables false

/-- A cell is what a place's piece tells. -/
def Cr (pol : Int) (k : Int) (o : Option Pc) (c : Cl) : Prop := match o with
  | none => c.is = false
  | some q => c.is = true ∧ c.b = atV q k ∧ (pol = 2 → c.beg = q.at_)
structure Rl (pol : Int) (cs : List Cl) (tot : Int) (ls : List Pc) : Prop where
  told : tot = toldM ls
  beh : (cs.length : Int) = behM ls
  cell : ∀ k : Nat, Cr pol k (atM ls pol k) (celE.at cs k)
  fit : 0 ≤ tot → (cs.length : Int) ≤ tot
  lo : -1 ≤ tot
theorem Rl.nil (pol : Int) : Rl pol [] (-1) [] := ⟨rfl, rfl, fun k => rfl, by omega, by omega⟩
theorem at_grow (cs : List Cl) (p : Pc) (k : Nat) : celE.at (growC cs p) k = celE.at cs k := by
  unfold growC
  split
  · simp only [Enc.at, List.getD, List.getElem?_append, List.getElem?_replicate]
    by_cases h : k < cs.length
    · simp [h]
    · rw [if_neg h, List.getElem?_eq_none (by omega : cs.length ≤ k)]
      split <;> rfl
  · rfl
theorem putC_get (pol : Int) (p : Pc) (cs : List Cl) : ∀ (n k : Nat), p.at_.toNat + n ≤ cs.length → celE.at (putC pol p cs n) k = if p.at_.toNat ≤ k ∧ k < p.at_.toNat + n then cellP pol p.at_ (byE.at p.data (k - p.at_.toNat)) (celE.at cs k) else celE.at cs k
  | 0, k, _ => by rw [if_neg (by omega)]; rfl
  | n + 1, k, h => by
    rw [putC, set_at, putC_len]
    by_cases e : p.at_.toNat + n = k
    · subst e
      rw [if_pos ⟨rfl, by omega⟩, if_pos ⟨by omega, by omega⟩]
      congr 2
      omega
    · rw [if_neg (fun h => e h.1), putC_get pol p cs n k (by omega)]
      by_cases h2 : p.at_.toNat ≤ k ∧ k < p.at_.toNat + n
      · rw [if_pos h2, if_pos ⟨h2.1, by omega⟩]
      · rw [if_neg h2, if_neg (by omega)]
theorem fits_str {pol : Int} {cs : List Cl} {tot : Int} {ls : List Pc} (h : Rl pol cs tot ls) (p : Pc) : fitsB cs.length tot p = !strM ls p := by
  unfold fitsB strM
  rw [← h.told, ← h.beh]
  generalize pcEnd p = e
  generalize p.more = mo
  have key : decide ((cs.length : Int) ≤ e) = !decide (e < (cs.length : Int)) := by
    by_cases h : e < (cs.length : Int)
    · rw [decide_eq_true h, decide_eq_false (by omega)]; rfl
    · rw [decide_eq_false h, decide_eq_true (by omega)]; rfl
  rw [key]
  have hd : 0 < p.data.length ∨ ¬ 0 < p.data.length := by omega
  cases mo <;> by_cases h1 : 0 ≤ tot <;> by_cases h2 : tot < e <;> rcases hd with h3 | h3 <;> by_cases h4 : e = tot <;> by_cases h5 : e < (cs.length : Int)
  all_goals first
    | (exfalso; omega)
    | (subst h4; simp [h1, h2, h3, h5]; done)
    | simp [h1, h2, h3, h4, h5, show (tot ≠ e) ↔ ¬ (e = tot) from ⟨fun h e => h e.symm, fun h e => h e.symm⟩]
    | (simp [h1, h2, h3, h4, h5, show (tot ≠ e) ↔ ¬ (e = tot) from ⟨fun h e => h e.symm, fun h e => h e.symm⟩]; omega)
theorem has_iff {p : Pc} (np : Near p) (i : Nat) : hasB p (p.at_ + i) = decide (i < p.data.length) := by
  have := np.lo
  rw [Bool.eq_iff_iff, hasB_iff, decide_eq_true_eq]
  omega
theorem dif_eq {pol : Int} {cs : List Cl} {tot : Int} {ls : List Pc} (h : Rl pol cs tot ls) {p : Pc} (np : Near p) (i : Nat) : difC (byE.at p.data i) (celE.at (growC cs p) (p.at_.toNat + i)) = difAt ls pol p i ∧ newC (byE.at p.data i) (celE.at (growC cs p) (p.at_.toNat + i)) = (newAt ls pol p i || difAt ls pol p i) := by
  have hlo := np.lo
  have hc := h.cell (p.at_.toNat + i)
  rw [at_grow]
  rw [show ((p.at_.toNat + i : Nat) : Int) = p.at_ + i by omega] at hc
  unfold difC newC difAt newAt atB
  cases ho : atM ls pol (p.at_ + i) with
  | none =>
    rw [ho] at hc
    have hc' : (celE.at cs (p.at_.toNat + i)).is = false := hc
    simp [hc']
  | some q =>
    rw [ho] at hc
    obtain ⟨h1, h2, _⟩ := hc
    simp [h1, h2]
theorem any_eq {f g : Nat → Bool} (n : Nat) (h : ∀ i, f i = g i) : (List.range n).any f = (List.range n).any g := by
  have : f = g := funext h
  rw [this]
theorem any_or (f g : Nat → Bool) (n : Nat) : (List.range n).any (fun i => f i || g i) = ((List.range n).any f || (List.range n).any g) := by
  induction n with
  | zero => rfl
  | succ n ih =>
    rw [any_next, any_next, any_next, ih]
    cases (List.range n).any f <;> cases (List.range n).any g <;> cases f n <;> cases g n <;> rfl
theorem anyD_eq {pol : Int} {cs : List Cl} {tot : Int} {ls : List Pc} (h : Rl pol cs tot ls) {p : Pc} (np : Near p) (n : Nat) : anyD p (growC cs p) n = dfM ls pol p n := any_eq n fun i => (dif_eq h np i).1
theorem anyN_eq {pol : Int} {cs : List Cl} {tot : Int} {ls : List Pc} (h : Rl pol cs tot ls) {p : Pc} (np : Near p) (n : Nat) : anyN p (growC cs p) n = (frM ls pol p n || dfM ls pol p n) := by
  unfold frM dfM
  rw [← any_or]
  exact any_eq n fun i => (dif_eq h np i).2
theorem toldM_app (ls : List Pc) (p : Pc) (h : ∀ q ∈ ls, Near q) : toldM (ls ++ [p]) = if 0 ≤ toldM ls then toldM ls else if p.more = true then -1 else pcEnd p := by
  induction ls with
  | nil => simp [toldM]
  | cons q ls ih =>
    have hq := h q (by simp)
    have hlo := hq.lo
    rw [List.cons_append]
    unfold toldM
    by_cases hm : q.more = true
    · rw [if_pos hm, if_pos hm]
      exact ih fun x hx => h x (by simp [hx])
    · rw [if_neg hm, if_neg hm, if_pos (by unfold pcEnd; omega)]
theorem behM_app (ls : List Pc) (p : Pc) : behM (ls ++ [p]) = behStep (behM ls) p := by
  unfold behM; rw [List.foldl_append]; rfl
theorem atM_app (ls : List Pc) (p : Pc) (pol k : Int) : atM (ls ++ [p]) pol k = atStep pol k (atM ls pol k) p := by
  unfold atM; rw [List.foldl_append]; rfl
theorem cell_step {pol k : Int} {o : Option Pc} {c : Cl} {p : Pc} (h : Cr pol k o c) (hh : hasB p k = true) : Cr pol k (atStep pol k o (newP p)) (cellP pol p.at_ (atV p k) c) := by
  have e1 : hasB (newP p) k = true := hh
  have e2 : atV (newP p) k = atV p k := rfl
  have e3 : (newP p).at_ = p.at_ := rfl
  unfold atStep
  rw [if_pos e1]
  cases o with
  | none =>
    have h' : c.is = false := h
    simp only [Cr, cellP, keepB, takeB, h', e2, e3]
    simp
  | some q =>
    obtain ⟨h1, h2, h3⟩ := h
    simp only [e3]
    by_cases p1 : pol = 1
    · subst p1
      simp only [Cr, cellP, keepB, takeB, h1, h2, e2]
      by_cases e : atV q k = atV p k <;> simp [e, h1, h2, e2]
    · by_cases p2 : pol = 2
      · have hb := h3 p2
        subst p2
        by_cases hlt : p.at_ < q.at_
        · simp only [Cr, cellP, keepB, takeB, h1, h2, hb, e2]
          simp [hlt, e2, e3, show ¬ q.at_ ≤ p.at_ by omega]
        · simp only [Cr, cellP, keepB, takeB, h1, h2, hb, e2]
          by_cases e : atV q k = atV p k <;> simp [hlt, e, h1, h2, hb, show q.at_ ≤ p.at_ by omega]
      · simp only [Cr, cellP, keepB, takeB, h1, h2, e2]
        by_cases e : atV q k = atV p k <;> simp [p1, p2, e, h1, h2]
end Go.Proofs.Ytdpdlobaabcjjab
/-
  The plain law: each step of the table is the reference's; so both make the same of all pieces. No statement of the seat stands here.
-/
namespace Go.Proofs.Ytdpdlobaabcjjab
open Go Go.An
set_option maxRecDepth 4000
set_option linter.unusedSimpArgs false
set_option linter.unusedVariables false

theorem toldM_lo {ls : List Pc} (h : ∀ q ∈ ls, Near q) : -1 ≤ toldM ls := by
  induction ls with
  | nil => simp [toldM]
  | cons q ls ih =>
    have hq := (h q (by simp)).lo
    unfold toldM
    split
    · exact ih fun x hx => h x (by simp [hx])
    · unfold pcEnd; omega
/-- The whole behind a piece that fits. -/
theorem Rl.step {pol : Int} {cs : List Cl} {tot : Int} {ls : List Pc} (h : Rl pol cs tot ls) (hn : ∀ q ∈ ls, Near q) {p : Pc} (np : Near p) (hf : fitsB cs.length tot p = true) : Rl pol (newCs pol cs p) (newTot tot p) (ls ++ [newP p]) := by
  have hlo := np.lo
  have hhi := np.hi
  have hgl := grow_len cs p np
  have hlen : (newCs pol cs p).length = (growC cs p).length := putC_len pol p _ _
  have htl := toldM_lo hn
  have htol : newTot tot p = toldM (ls ++ [newP p]) := by
    have e1 : (newP p).more = p.more := rfl
    have e2 : pcEnd (newP p) = pcEnd p := rfl
    rw [toldM_app ls (newP p) hn, e1, e2, ← h.told]
    unfold newTot endB
    by_cases h0 : 0 ≤ tot
    · rw [if_pos h0, if_neg (by simp; omega)]
    · rw [if_neg h0]
      have := h.lo
      cases p.more with
      | true => simp; omega
      | false => simp; omega
  refine ⟨htol, ?_, fun k => ?_, ?_, ?_⟩
  · have e1 : (newP p).data = p.data := rfl
    have e2 : pcEnd (newP p) = pcEnd p := rfl
    rw [hlen, hgl, behM_app, ← h.beh]
    unfold behStep
    rw [e1, e2]
    unfold pcEnd
    split
    · split <;> omega
    · rfl
  · unfold newCs
    rw [atM_app]
    by_cases hd : 0 < p.data.length
    · rw [if_pos hd] at hgl
      rw [putC_get pol p _ _ k (by omega), at_grow]
      have hc := h.cell k
      by_cases hk : p.at_.toNat ≤ k ∧ k < p.at_.toNat + p.data.length
      · rw [if_pos hk]
        have hh : hasB p k = true := hasB_iff.2 (by omega)
        have := cell_step hc hh
        have e : atV p k = byE.at p.data (k - p.at_.toNat) := by
          unfold atV
          congr 1
          omega
        rw [e] at this
        exact this
      · rw [if_neg hk]
        have hh : hasB (newP p) k = false := by
          rw [← Bool.not_eq_true]
          intro hb
          have := hasB_iff.1 (show hasB p k = true from hb)
          omega
        unfold atStep
        rw [if_neg (by rw [hh]; simp)]
        exact hc
    · have hg : growC cs p = cs := by unfold growC; rw [if_neg hd]
      have hd0 : p.data.length = 0 := by omega
      rw [hg, hd0]
      have hh : hasB (newP p) k = false := by
        rw [← Bool.not_eq_true]
        intro hb
        have := hasB_iff.1 (show hasB p k = true from hb)
        omega
      unfold atStep
      rw [if_neg (by rw [hh]; simp)]
      exact h.cell k
  · intro h0
    rw [hlen, hgl]
    have hfit := h.fit
    have hl := h.lo
    have hpe : pcEnd p = p.at_ + p.data.length := rfl
    cases hm : p.more with
    | true =>
      have hnt : newTot tot p = tot := by simp [newTot, endB, hm]
      rw [hnt] at h0 ⊢
      have hc := hfit h0
      have hff : ¬ (tot < pcEnd p ∧ 0 < p.data.length) := by
        intro ⟨h1, h2⟩
        have : fitsB cs.length tot p = false := by simp [fitsB, hm, h0, h1, h2]
        rw [this] at hf; cases hf
      split <;> omega
    | false =>
      by_cases ht : tot < 0
      · have hnt : newTot tot p = pcEnd p := by simp [newTot, endB, hm, ht]
        rw [hnt]
        have hff : (cs.length : Int) ≤ pcEnd p := by
          refine Classical.byContradiction fun hc => ?_
          have : fitsB cs.length tot p = false := by simp [fitsB, hm, show ¬ (cs.length : Int) ≤ pcEnd p from hc]
          rw [this] at hf; cases hf
        split <;> omega
      · have hnt : newTot tot p = tot := by simp [newTot, endB, hm, ht]
        rw [hnt]
        have hc := hfit (by omega)
        have hff : pcEnd p = tot := by
          refine Classical.byContradiction fun hc => ?_
          have : fitsB cs.length tot p = false := by simp [fitsB, hm, show 0 ≤ tot by omega, hc]
          rw [this] at hf; cases hf
        split <;> omega
  · have hl := h.lo
    unfold newTot pcEnd
    split <;> omega
theorem full_eq {pol : Int} {cs : List Cl} {tot : Int} {ls : List Pc} (h : Rl pol cs tot ls) : fullB cs tot = (resB ls pol).2 ∧ (fullB cs tot = true → cs.map (·.b) = (resB ls pol).1) := by
  have hs : ∀ k : Nat, (atB ls pol k).isSome = (celE.at cs k).is := fun k => by
    have hc := h.cell k
    unfold atB
    cases ho : atM ls pol k with
    | none => rw [ho] at hc; have hc' : (celE.at cs k).is = false := hc; simp [hc']
    | some q => rw [ho] at hc; simp [hc.1]
  have hl := h.lo
  have hany : (cs.any fun c => !c.is) = false ↔ ∀ k, k < cs.length → (celE.at cs k).is = true := by
    rw [List.any_eq_false]
    constructor
    · intro hh k hk
      have := hh _ (celE.at_mem hk)
      simpa using this
    · intro hh c hc
      obtain ⟨k, hk, rfl⟩ := List.getElem_of_mem hc
      have := hh k hk
      rw [Enc.at_of celE (List.getElem?_eq_getElem hk)] at this
      simp [this]
  have hall : ∀ n, allM ls pol n = true ↔ ∀ k, k < n → (celE.at cs k).is = true := fun n => by
    unfold allM
    rw [List.all_eq_true]
    constructor
    · intro hh k hk
      have := hh k (List.mem_range.2 hk)
      rw [hs] at this; exact this
    · intro hh k hk
      rw [hs]; exact hh k (List.mem_range.1 hk)
  have hout : ∀ k, cs.length ≤ k → (celE.at cs k).is = false := fun k hk => by
    simp [Enc.at, List.getD, List.getElem?_eq_none hk, celE]
  have hiff : fullB cs tot = true ↔ 0 ≤ tot ∧ allM ls pol tot.toNat = true := by
    unfold fullB
    rw [Bool.and_eq_true, decide_eq_true_eq, Bool.not_eq_true', hany, hall]
    constructor
    · rintro ⟨rfl, hh⟩
      exact ⟨by omega, by simpa using hh⟩
    · rintro ⟨h0, hh⟩
      have hle := h.fit h0
      have hge : tot ≤ cs.length := by
        refine Classical.byContradiction fun hc => ?_
        have h1 := hh cs.length (by omega)
        rw [hout cs.length (Nat.le_refl _)] at h1
        cases h1
      have e : tot = cs.length := by omega
      subst e
      exact ⟨rfl, by simpa using hh⟩
  have e2 : (resB ls pol).2 = true ↔ 0 ≤ tot ∧ allM ls pol tot.toNat = true := by
    unfold resB
    rw [← h.told]
    split
    · rename_i h1; simp [h1]
    · rename_i h1; simp [h1]
  refine ⟨by rw [Bool.eq_iff_iff, hiff, e2], fun hf => ?_⟩
  obtain ⟨h0, h1⟩ := hiff.1 hf
  unfold fullB at hf
  simp only [Bool.and_eq_true, decide_eq_true_eq] at hf
  obtain ⟨hf1, _⟩ := hf
  unfold resB
  rw [← h.told, if_pos h1, hf1]
  show _ = bytM ls pol (cs.length : Int).toNat
  rw [Int.toNat_natCast]
  apply List.ext_getElem?
  intro k
  unfold bytM
  rw [List.getElem?_map, List.getElem?_map]
  by_cases hk : k < cs.length
  · have hc := h.cell k
    rw [celE.at_some hk, List.getElem?_range hk]
    simp only [Option.map_some]
    have h3 := (hall _).1 h1 k (by omega)
    unfold atB
    cases ho : atM ls pol k with
    | none => rw [ho] at hc; have hc' : (celE.at cs k).is = false := hc; rw [hc'] at h3; cases h3
    | some q => rw [ho] at hc; simp [hc.2.1]
  · rw [List.getElem?_eq_none (by omega), List.getElem?_eq_none (by simp; omega)]
    rfl
/-- The state of the table and the pieces of the reference. -/
def Rs (pol : Int) (st : Option (List Cl × Int)) (ls : List Pc) : Prop := Rl pol (st.getD ([], -1)).1 (st.getD ([], -1)).2 ls
theorem step_eq {pol : Int} {st : Option (List Cl × Int)} {ls : List Pc} (h : Rs pol st ls) (hn : ∀ q ∈ ls, Near q) {p : Pc} (hp : PcOk p) : (fragStep pol st p).1 = (refStep pol ls p).1 ∧ (((refStep pol ls p).1.2.2 = 0 ∧ ((refStep pol ls p).1.2.1 = 0 ∨ (refStep pol ls p).1.2.1 = 2)) → Rs pol (fragStep pol st p).2 (refStep pol ls p).2) := by
  unfold fragStep refStep
  by_cases ha : askedI p ≠ 0
  · rw [if_pos ha, if_pos ha]; exact ⟨rfl, fun _ => h⟩
  rw [if_neg ha, if_neg ha]
  by_cases hno : nothB p = true
  · rw [if_pos hno, if_pos hno]; exact ⟨rfl, fun _ => h⟩
  rw [if_neg hno, if_neg hno]
  have np := near_of hp (by omega)
  unfold Rs at h
  obtain ⟨cs, hcs⟩ : ∃ cs, (st.getD ([], -1)).1 = cs := ⟨_, rfl⟩
  obtain ⟨tot, htot⟩ : ∃ tot, (st.getD ([], -1)).2 = tot := ⟨_, rfl⟩
  rw [hcs, htot] at h ⊢
  unfold fragIn
  have hfs := fits_str h p
  by_cases hs : strM ls p = true
  · rw [hs] at hfs
    rw [if_pos (by rw [hfs]; rfl), if_pos hs]
    exact ⟨rfl, fun hc => by simp at hc⟩
  · rw [Bool.not_eq_true] at hs
    rw [hs] at hfs
    have hfit : fitsB cs.length tot p = true := by rw [hfs]; rfl
    simp only [hfit, hs, Bool.true_eq_false, Bool.false_eq_true, if_false]
    have hst := h.step hn np hfit
    have hun : newUnl cs p = dfM ls pol p p.data.length := anyD_eq h np _
    have hso : newSome cs tot p = newsB ls pol p := by
      unfold newSome newsB endB
      rw [anyN_eq h np, h.told]
    have hfu := full_eq hst
    rw [hun, hso, Bool.and_comm]
    by_cases h1 : (decide (pol = 3) && dfM ls pol p p.data.length) = true
    · rw [if_pos h1, if_pos h1]
      exact ⟨rfl, fun hc => by simp at hc⟩
    · rw [if_neg h1, if_neg h1]
      by_cases h2 : (resB (ls ++ [newP p]) pol).2 = true
      · have h3 : fullB (newCs pol cs p) (newTot tot p) = true := by rw [hfu.1]; exact h2
        rw [if_pos h3, if_pos h2, hfu.2 h3]
        exact ⟨rfl, fun hc => by simp at hc⟩
      · have h3 : ¬ fullB (newCs pol cs p) (newTot tot p) = true := by rw [hfu.1]; exact h2
        rw [if_neg h3, if_neg h2]
        exact ⟨rfl, fun _ => hst⟩
theorem kind_of (pol : Int) (ls : List Pc) (p : Pc) : (refStep pol ls p).1.2.2 = 0 ∨ (refStep pol ls p).1.1 = [] ∧ (refStep pol ls p).1.2.1 = 0 := by
  unfold refStep
  split
  · exact .inr ⟨rfl, rfl⟩
  split
  · exact .inl rfl
  split
  · exact .inl rfl
  split
  · exact .inl rfl
  split
  · exact .inl rfl
  · exact .inl rfl
theorem kind_in (pol : Int) (ls : List Pc) (p : Pc) (h : (refStep pol ls p).1.2.2 = 0) : (refStep pol ls p).1.2.1 = 0 ∨ (refStep pol ls p).1.2.1 = 1 ∨ (refStep pol ls p).1.2.1 = 2 ∨ (refStep pol ls p).1.2.1 = 3 ∨ (refStep pol ls p).1.2.1 = 4 := by
  unfold refStep at h ⊢
  split
  · exact .inl rfl
  split
  · exact .inr (.inr (.inl rfl))
  split
  · simp
  split
  · simp
  split
  · simp
  · show (if _ then (0 : Int) else 2) = 0 ∨ _
    split <;> simp
theorem run_eq {pol : Int} : ∀ (l : List Pc) {st : Option (List Cl × Int)} {ls : List Pc}, Rs pol st ls → (∀ q ∈ ls, Near q) → (∀ p ∈ l, PcOk p) → fragRun pol st l = refRun pol ls l
  | [], _, _, _, _, _ => rfl
  | p :: l, st, ls, h, hn, hok => by
    have hp := hok p (by simp)
    obtain ⟨h1, h2⟩ := step_eq h hn hp
    have h3 := refStep_ok (pol := pol) hp hn
    have hk := kind_of pol ls p
    have hi := kind_in pol ls p
    have ih := fun hr => run_eq l (pol := pol) (st := (fragStep pol st p).2) (ls := (refStep pol ls p).2) hr h3.1 fun q hq => hok q (by simp [hq])
    rw [fragRun_cons, refRun_cons, h1]
    obtain ⟨r, hr⟩ : ∃ r, (refStep pol ls p).1 = r := ⟨_, rfl⟩
    obtain ⟨o1, o2, o3⟩ := r
    rw [hr] at h2 hk hi ⊢
    simp only at h2 hk hi ⊢
    by_cases e3 : o3 = 0
    · subst e3
      have hi := hi rfl
      by_cases e2 : o2 = 0 ∨ o2 = 2
      · rw [if_neg (by omega), if_neg (by omega), if_neg (by omega)]
        exact ih (h2 ⟨rfl, e2⟩)
      · rw [if_pos (by omega), if_neg (by omega), if_pos (by omega)]
    · rw [if_pos (.inl e3), if_pos e3]
      obtain ⟨rfl, rfl⟩ := hk.resolve_left e3
      rfl
theorem whole_eq {l : List Pc} (pol : Int) (hok : ∀ p ∈ l, PcOk p) : fragWhole l pol = refWhole l pol := by
  unfold fragWhole refWhole
  split
  · rfl
  split
  · rfl
  · exact run_eq l (Rl.nil pol) (by simp) hok
end Go.Proofs.Ytdpdlobaabcjjab
/-
  The plain law: pieces that agree make the same in any order. No statement of the seat stands here.
-/
namespace Go.Proofs.Ytdpdlobaabcjjab
open Go Go.An
set_option maxRecDepth 4000
set_option linter.unusedSimpArgs false
set_option linter.unusedVariables false

def Cons (l : List Pc) : Prop := ∀ p ∈ l, ∀ q ∈ l, ∀ k : Int, hasB p k = true → hasB q k = true → atV p k = atV q k
def Ends (l : List Pc) : Prop := ∀ p ∈ l, ∀ q ∈ l, p.more = false → q.more = false → pcEnd p = pcEnd q
theorem atF (pol k : Int) : ∀ (l : List Pc) (o : Option Pc), (∀ q, o = some q → hasB q k = true) → match l.foldl (atStep pol k) o with
    | none => o = none ∧ ∀ p ∈ l, hasB p k = false
    | some q => hasB q k = true ∧ (o = some q ∨ q ∈ l)
  | [], none, _ => by simp
  | [], some q, h => by simp [h q rfl]
  | p :: l, o, h => by
    rw [List.foldl_cons]
    have h1 : ∀ q, atStep pol k o p = some q → hasB q k = true := by
      intro q hq
      unfold atStep at hq
      split at hq
      · rename_i hp
        split at hq
        · injection hq with hq; subst hq; exact hp
        · split at hq
          · injection hq with hq; subst hq; exact hp
          · exact h q hq
      · exact h q hq
    have ih := atF pol k l (atStep pol k o p) h1
    split
    · rename_i e
      rw [e] at ih
      obtain ⟨h2, h3⟩ := ih
      unfold atStep at h2
      split at h2
      · split at h2
        · cases h2
        · split at h2 <;> cases h2
      · rename_i hp
        rw [Bool.not_eq_true] at hp
        refine ⟨h2, fun q hq => ?_⟩
        rcases List.mem_cons.1 hq with rfl | hq
        · exact hp
        · exact h3 q hq
    · rename_i q e
      rw [e] at ih
      obtain ⟨h2, h3⟩ := ih
      refine ⟨h2, ?_⟩
      rcases h3 with h3 | h3
      · unfold atStep at h3
        split at h3
        · split at h3
          · injection h3 with h3; subst h3; exact .inr (by simp)
          · split at h3
            · injection h3 with h3; subst h3; exact .inr (by simp)
            · exact .inl h3
        · exact .inl h3
      · exact .inr (by simp [h3])
theorem atB_mem {l : List Pc} (hc : Cons l) {p : Pc} {k : Int} (pol : Int) (hp : p ∈ l) (hh : hasB p k = true) : atB l pol k = some (atV p k) := by
  have h := atF pol k l none (by simp)
  unfold atB atM
  split at h
  · rename_i e
    rw [h.2 p hp] at hh; cases hh
  · rename_i q e
    rw [e]
    have hq : q ∈ l := h.2.resolve_left (by simp)
    show some (atV q k) = _
    rw [hc q hq p hp k h.1 hh]
theorem atB_none {l : List Pc} {k : Int} (pol : Int) (h0 : ∀ p ∈ l, hasB p k = false) : atB l pol k = none := by
  have h := atF pol k l none (by simp)
  unfold atB atM
  split at h
  · rename_i e; rw [e]; rfl
  · rename_i q e
    have := h0 q (h.2.resolve_left (by simp))
    rw [h.1] at this; cases this
theorem cov_or (l : List Pc) (k : Int) : (∃ p ∈ l, hasB p k = true) ∨ ∀ p ∈ l, hasB p k = false := by
  by_cases h : ∃ p ∈ l, hasB p k = true
  · exact .inl h
  · refine .inr fun p hp => ?_
    rw [← Bool.not_eq_true]
    exact fun hh => h ⟨p, hp, hh⟩
theorem told_mem {l : List Pc} (he : Ends l) {p : Pc} (hp : p ∈ l) (hm : p.more = false) : toldM l = pcEnd p := by
  have : ∀ (l' : List Pc), (∀ q ∈ l', q ∈ l) → (∃ q ∈ l', q.more = false) → toldM l' = pcEnd p := by
    intro l'
    induction l' with
    | nil => intro _ ⟨q, hq, _⟩; cases hq
    | cons q l' ih =>
      intro hs ⟨x, hx, hxm⟩
      unfold toldM
      split
      · rename_i hq
        refine ih (fun y hy => hs y (by simp [hy])) ?_
        rcases List.mem_cons.1 hx with rfl | hx
        · rw [hq] at hxm; cases hxm
        · exact ⟨x, hx, hxm⟩
      · rename_i hq
        exact he q (hs q (by simp)) p hp (by simpa using hq) hm
  exact this l (fun _ h => h) ⟨p, hp, hm⟩
theorem told_none {l : List Pc} (h : ∀ p ∈ l, p.more = true) : toldM l = -1 := by
  induction l with
  | nil => rfl
  | cons q l ih =>
    unfold toldM
    rw [if_pos (h q (by simp))]
    exact ih fun p hp => h p (by simp [hp])
theorem end_or (l : List Pc) : (∃ p ∈ l, p.more = false) ∨ ∀ p ∈ l, p.more = true := by
  by_cases h : ∃ p ∈ l, p.more = false
  · exact .inl h
  · refine .inr fun p hp => ?_
    rw [← Bool.not_eq_false]
    exact fun hh => h ⟨p, hp, hh⟩
theorem resB_of {l l' : List Pc} {pol : Int} (ht : toldM l = toldM l') (hb : ∀ k : Nat, (k : Int) < toldM l → atB l pol k = atB l' pol k) : resB l pol = resB l' pol := by
  unfold resB
  rw [← ht]
  have h1 : allM l pol (toldM l).toNat = allM l' pol (toldM l).toNat := by
    unfold allM
    rw [Bool.eq_iff_iff, List.all_eq_true, List.all_eq_true]
    constructor
    · intro h k hk
      have := h k hk
      rw [hb k (by have := List.mem_range.1 hk; omega)] at this; exact this
    · intro h k hk
      have := h k hk
      rw [hb k (by have := List.mem_range.1 hk; omega)]; exact this
  have h2 : bytM l pol (toldM l).toNat = bytM l' pol (toldM l).toNat := by
    unfold bytM
    apply List.map_congr_left
    intro k hk
    rw [hb k (by have := List.mem_range.1 hk; omega)]
  rw [h1, h2]
/-- The same pieces, in any order and number, make the same. -/
theorem resB_ext {l l' : List Pc} {pol : Int} (hc : Cons l) (he : Ends l) (hm : ∀ p, p ∈ l ↔ p ∈ l') : resB l pol = resB l' pol := by
  have hc' : Cons l' := fun p hp q hq => hc p ((hm p).2 hp) q ((hm q).2 hq)
  have he' : Ends l' := fun p hp q hq => he p ((hm p).2 hp) q ((hm q).2 hq)
  refine resB_of ?_ fun k _ => ?_
  · rcases end_or l with ⟨p, hp, hpm⟩ | h
    · rw [told_mem he hp hpm, told_mem he' ((hm p).1 hp) hpm]
    · rw [told_none h, told_none fun p hp => h p ((hm p).2 hp)]
  · rcases cov_or l k with ⟨p, hp, hh⟩ | h
    · rw [atB_mem hc pol hp hh, atB_mem hc' pol ((hm p).1 hp) hh]
    · rw [atB_none pol h, atB_none pol fun p hp => h p ((hm p).2 hp)]
/-- A piece of nothing changes nothing. -/
theorem resB_skip {a b : List Pc} {p : Pc} {pol : Int} (hno : nothB p = true) : resB (a ++ newP p :: b) pol = resB (a ++ b) pol := by
  unfold nothB at hno
  simp only [Bool.and_eq_true, decide_eq_true_eq] at hno
  have hh : ∀ k, hasB (newP p) k = false := fun k => by
    rw [← Bool.not_eq_true]
    intro h
    have := hasB_iff.1 (show hasB p k = true from h)
    omega
  refine resB_of ?_ fun k _ => ?_
  · induction a with
    | nil =>
      have e : (newP p).more = true := hno.2
      show (if (newP p).more = true then toldM b else _) = toldM b
      rw [if_pos e]
    | cons q a ih =>
      show toldM (q :: (a ++ newP p :: b)) = toldM (q :: (a ++ b))
      unfold toldM
      rw [ih]
  · unfold atB atM
    rw [List.foldl_append, List.foldl_append, List.foldl_cons]
    congr 2
    unfold atStep
    rw [if_neg (by rw [hh]; simp)]
theorem run_char (pol : Int) : ∀ (ps ls : List Pc), Cons (ls ++ ps.map newP) → Ends (ls ++ ps.map newP) → (∀ p ∈ ps, askedI p = 0 ∧ PcOk p) → (∀ q ∈ ls, Near q) → (refRun pol ls ps).2.1 ≠ 4 → (resB ls pol).2 = false → refRun pol ls ps = if (resB (ls ++ ps.map newP) pol).2 = true then ((resB (ls ++ ps.map newP) pol).1, 1, 0) else ([], 0, 0)
  | [], ls, _, _, _, _, _, hr => by
    rw [List.map_nil, List.append_nil, hr]; rfl
  | p :: ps, ls, hc, he, hok, hn, h4, hr => by
    obtain ⟨ha, hpo⟩ := hok p (by simp)
    have np := near_of hpo ha
    rw [refRun_cons] at h4 ⊢
    rw [List.map_cons] at hc he ⊢
    obtain ⟨o, ho⟩ : ∃ o, refStep pol ls p = o := ⟨_, rfl⟩
    rw [ho] at h4 ⊢
    unfold refStep at ho
    rw [if_neg (by simp [ha])] at ho
    by_cases hno : nothB p = true
    · rw [if_pos hno] at ho
      subst ho
      rw [if_neg (by simp), if_neg (by simp)] at h4 ⊢
      rw [resB_skip hno]
      have hsub : ∀ q, q ∈ ls ++ ps.map newP → q ∈ ls ++ newP p :: ps.map newP := fun q hq => by
        rcases List.mem_append.1 hq with h | h
        · exact List.mem_append.2 (.inl h)
        · exact List.mem_append.2 (.inr (by simp [h]))
      exact run_char pol ps ls (fun x hx y hy => hc x (hsub x hx) y (hsub y hy)) (fun x hx y hy => he x (hsub x hx) y (hsub y hy)) (fun q hq => hok q (by simp [hq])) hn h4 hr
    · rw [if_neg hno] at ho
      by_cases hs : strM ls p = true
      · rw [if_pos hs] at ho
        subst ho
        simp at h4
      · rw [if_neg hs] at ho
        have hpm : newP p ∈ ls ++ newP p :: ps.map newP := by simp
        have hdf : dfM ls pol p p.data.length = false := by
          unfold dfM
          rw [List.any_eq_false]
          intro i hi
          have hi := List.mem_range.1 hi
          have hhp : hasB p (p.at_ + i) = true := by rw [has_iff np i]; simpa using hi
          have hcl : Cons ls := fun x hx y hy => hc x (List.mem_append.2 (.inl hx)) y (List.mem_append.2 (.inl hy))
          unfold difAt
          rcases cov_or ls (p.at_ + i) with ⟨q, hq, hh⟩ | h
          · rw [atB_mem hcl pol hq hh]
            have e := hc q (List.mem_append.2 (.inl hq)) (newP p) hpm _ hh (show hasB (newP p) _ = true from hhp)
            have e2 : atV (newP p) (p.at_ + i) = byE.at p.data i := by
              show byE.at p.data (p.at_ + i - p.at_).toNat = _
              congr 1
              omega
            rw [e, e2]
            simp
          · rw [atB_none pol h]; simp
        rw [hdf, Bool.and_false, if_neg (by simp)] at ho
        have hassoc : ls ++ newP p :: ps.map newP = (ls ++ [newP p]) ++ ps.map newP := by simp
        by_cases hcm : (resB (ls ++ [newP p]) pol).2 = true
        · rw [if_pos hcm] at ho
          subst ho
          rw [if_neg (by simp), if_pos (by simp)]
          have e : resB (ls ++ [newP p]) pol = resB (ls ++ newP p :: ps.map newP) pol := by
            have hsub : ∀ q, q ∈ ls ++ [newP p] → q ∈ ls ++ newP p :: ps.map newP := fun q hq => by
              rw [hassoc]; exact List.mem_append.2 (.inl hq)
            have hc1 : Cons (ls ++ [newP p]) := fun x hx y hy => hc x (hsub x hx) y (hsub y hy)
            have he1 : Ends (ls ++ [newP p]) := fun x hx y hy => he x (hsub x hx) y (hsub y hy)
            have htold : 0 ≤ toldM (ls ++ [newP p]) ∧ ∀ k : Nat, (k : Int) < toldM (ls ++ [newP p]) → (atB (ls ++ [newP p]) pol k).isSome = true := by
              unfold resB at hcm
              split at hcm
              · rename_i hall
                refine ⟨by simpa using hcm, fun k hk => ?_⟩
                unfold allM at hall
                rw [List.all_eq_true] at hall
                exact hall k (List.mem_range.2 (by omega))
              · cases hcm
            refine resB_of ?_ fun k hk => ?_
            · rcases end_or (ls ++ [newP p]) with ⟨q, hq, hqm⟩ | h
              · rw [told_mem he1 hq hqm, told_mem he (hsub q hq) hqm]
              · have := htold.1
                rw [told_none h] at this
                omega
            · rcases cov_or (ls ++ [newP p]) k with ⟨q, hq, hh⟩ | h
              · rw [atB_mem hc1 pol hq hh, atB_mem hc pol (hsub q hq) hh]
              · have := htold.2 k hk
                rw [atB_none pol h] at this
                cases this
          rw [e] at hcm ⊢
          rw [if_pos hcm]
        · rw [if_neg hcm] at ho
          subst ho
          rw [if_neg (by simp), if_neg (by simp only []; split <;> omega)] at h4 ⊢
          rw [hassoc] at hc he ⊢
          refine run_char pol ps (ls ++ [newP p]) hc he (fun q hq => hok q (by simp [hq])) (fun q hq => ?_) h4 (by simpa using hcm)
          rcases List.mem_append.1 hq with hq | hq
          · exact hn q hq
          · obtain rfl := List.mem_singleton.1 hq
            exact ⟨⟨np.ok.small, np.ok.rid, np.ok.rat, np.ok.rtime⟩, np.lo, np.hi⟩
end Go.Proofs.Ytdpdlobaabcjjab
/-
  The abstract machine, part EF: elements taken out of a row in place; a written-out element laid behind. No statement of the seat stands here.
-/
namespace Go.An
open Go
set_option linter.unusedSectionVars false

section
variable [Orc]
variable {P : Program} {H : Hp} {α : Type}
theorem flatE_take {E : Enc α} : ∀ (l : List α) (k : Nat), (flatE E l).take (k * E.w) = flatE E (l.take k)
  | [], k => by simp [flatE]
  | x :: l, 0 => by simp [flatE]
  | x :: l, k + 1 => by
    have ih := flatE_take (E := E) l k
    show (E.f x ++ flatE E l).take _ = E.f x ++ flatE E (l.take k)
    rw [← ih, Nat.succ_mul, Nat.add_comm (k * E.w), List.take_append, E.len, List.take_of_length_le (by rw [E.len]; omega)]
    congr 2
    omega
theorem flatE_drop {E : Enc α} : ∀ (l : List α) (k : Nat), (flatE E l).drop (k * E.w) = flatE E (l.drop k)
  | [], k => by simp [flatE]
  | x :: l, 0 => by simp [flatE]
  | x :: l, k + 1 => by
    have ih := flatE_drop (E := E) l k
    show (E.f x ++ flatE E l).drop _ = flatE E (l.drop k)
    rw [← ih, Nat.succ_mul, Nat.add_comm (k * E.w), List.drop_append, E.len, List.drop_of_length_le (by rw [E.len]; omega)]
    simp
theorem flatE_put {E : Enc α} {X Y : List α} {k : Nat} : setAt (flatE E X) (k * E.w) (flatE E Y) = flatE E (X.take k ++ Y ++ X.drop (k + Y.length)) := by
  show List.take (k * E.w) (flatE E X) ++ flatE E Y ++ List.drop (k * E.w + (flatE E Y).length) (flatE E X) = _
  rw [flatE_len, ← Nat.add_mul, flatE_take, flatE_drop, flatE_app, flatE_app]
/-- append(s[:k], s[k+1:]...) of a row. -/
theorem app_cut {E : Enc α} {X : List α} {id g m k w by_ : Nat} {cp : Cap} (hr : getRow H id g = some (flatE E X, true)) (hw : E.w = w) (hm : m ≤ X.length) (hk : k < m) (hb : m * by_ ≤ 2 ^ 40) (hb2 : m ≤ 2 ^ 40) :
    appOf w by_ H (.slice id g 0 k w .full) (.slice id g ((k + 1) * w) (m - (k + 1)) w cp) = some (.slice id g 0 (m - 1) w .full, H.set id (.row g (flatE E ((X.take k ++ (X.take m).drop (k + 1)) ++ X.drop (m - 1))) true)) := by
  subst hw
  have hid := getRow_lt hr
  have hxl := flatE_len (E := E) (l := X)
  have hmm : m * E.w ≤ X.length * E.w := Nat.mul_le_mul_right _ hm
  have hsum : (k + 1) * E.w + (m - (k + 1)) * E.w = m * E.w := by rw [← Nat.add_mul]; congr 1; omega
  have hyl : ((X.take m).drop (k + 1)).length = m - (k + 1) := by simp; omega
  have hsrc : srcCells H (.slice id g ((k + 1) * E.w) (m - (k + 1)) E.w cp) = some (flatE E ((X.take m).drop (k + 1)), m - (k + 1)) := by
    rw [src_sl hr (by rw [hxl, hsum]; exact hmm)]
    congr 2
    rw [flatE_drop, flatE_take, List.drop_take]
  have hrow : H[id]? = some (.row g (flatE E X) true) := by
    unfold getRow at hr
    split at hr
    · rename_i g' cs o e
      split at hr
      · rename_i e2
        injection hr with hr
        injection hr with h1 h2
        subst h1 h2 e2
        exact e
      · cases hr
    · cases hr
  unfold appOf
  rw [hsrc]
  simp only [Option.bind_some]
  have hyf : (flatE E ((X.take m).drop (k + 1))).length = (m - (k + 1)) * E.w := by rw [flatE_len, hyl]
  rw [if_pos ⟨hyf, flatE_cells E _⟩, hr]
  simp only [Option.bind_some]
  have hkm : k * E.w ≤ X.length * E.w := Nat.mul_le_mul_right _ (by omega)
  have e1 : k + (m - (k + 1)) = m - 1 := by omega
  have hmb : (m - 1) * by_ ≤ m * by_ := Nat.mul_le_mul_right _ (by omega)
  have hput : setAt (flatE E X) (k * E.w) (flatE E ((X.take m).drop (k + 1))) = flatE E ((X.take k ++ (X.take m).drop (k + 1)) ++ X.drop (m - 1)) := by
    rw [flatE_put, hyl, e1]
  have hm1 : (m - 1) * E.w ≤ X.length * E.w := Nat.mul_le_mul_right _ (by omega)
  rw [e1, if_pos ⟨trivial, by omega, by omega, by omega⟩]
  by_cases h0 : m - (k + 1) = 0
  · rw [if_pos h0]
    have e2 : m - 1 = k := by omega
    have e3 : (X.take m).drop (k + 1) = [] := List.eq_nil_of_length_eq_zero (by omega)
    rw [e3, e2, List.append_nil, List.take_append_drop]
    congr 2
    apply List.ext_getElem?
    intro i
    rw [List.getElem?_set]
    split
    · rename_i e; subst e; exact hrow
    · rfl
  · rw [if_neg h0, if_pos trivial, if_pos (by omega), Nat.zero_add, hput]
theorem OwnE.pushR {E : Enc α} {v : V} {l : List α} {w by_ : Nat} (h : OwnE E H v l) (a : α) (hw : E.w = w) (hb : (l.length + 1) * by_ ≤ 2 ^ 40) (hb2 : l.length + 1 ≤ 2 ^ 40) :
    ∃ v' H', appOf w by_ (H ++ [.row 0 (E.f a) true]) v (.slice H.length 0 0 1 w .full) = some (v', H') ∧ OwnE E H' v' (l ++ [a]) ∧ (∀ id, id < H.length → ¬ At v id → H'[id]? = H[id]?) ∧ H.length ≤ H'.length ∧ (∀ id, At v' id → At v id ∨ H.length ≤ id) := by
  obtain ⟨v', H', h1, h2, h3, h4, h5⟩ := (h.app [.row 0 (E.f a) true]).push a hw hb hb2
  refine ⟨v', H', ?_, h2, fun id hid hna => ?_, by simp at h4; omega, fun id hat => ?_⟩
  · rw [← h1]
    subst hw
    have e1 : (E.f a).length = 1 * E.w := by rw [E.len]; omega
    have e2 : srcCells (H ++ [.row 0 (E.f a) true]) (.slice H.length 0 0 1 E.w .full) = some (E.f a, 1) := by
      rw [src_sl (getRow_lastN rfl) (by omega), List.drop_zero, List.take_of_length_le (by omega)]
    have e3 : srcCells (H ++ [.row 0 (E.f a) true]) (.isl (E.f a) 1 E.w) = some (E.f a, 1) := by simp only [srcCells, if_pos e1]
    unfold appOf
    rw [e2, e3]
  · rw [h3 id (by simp; omega) hna, List.getElem?_append_left hid]
  · rcases h5 id hat with h | h
    · exact .inl h
    · simp at h; exact .inr (by omega)
end
end Go.An
/-
  Pieces in another order, walked. No statement of the seat stands here.
-/
namespace Go.Proofs.Ytdpdlobaabcjjab
open Go Go.An
set_option maxRecDepth 4000
set_option linter.unusedSimpArgs false
set_option linter.unusedVariables false

theorem ldI {l : List Int} {i : Nat} {H : Hp} (h : i < l.length) : loadV Try.prog 3 H (.ipt (flatE inE l) (i * 1)) = some (.int .i64 (inE.at l i)) := ld_cell0 g3 rfl h
/-- What holds between two pieces. -/
def TurnI (H : Hp) (l : List Pc) (s2 : V) (m : Nat) (T : Fr) (D : Dfr) (H' : Hp) : Prop := ∃ (L J outl : List Pc) (lid lg : Nat) (ov : V), m = L.length ∧ D = [] ∧ (outl ++ L).Perm l ∧ getRow H' lid lg = some (flatE pcE (L ++ J), true) ∧ H.length ≤ lid ∧ OwnE pcE H' ov outl ∧ (∀ j, At ov j → H.length ≤ j ∧ j ≠ lid) ∧ (∀ j, j < H.length → H'[j]? = H[j]?) ∧ H.length ≤ H'.length ∧ get T 1 = s2 ∧ get T 5 = .slice lid lg 0 L.length 5 .full ∧ get T 6 = ov ∧ get T 7 = .int .i64 outl.length
theorem Int.natCast_tmod_aux (a b : Nat) : (a : Int).tmod b = ((a % b : Nat) : Int) := rfl
/-- One piece taken out and laid behind the others. -/
theorem turn_tail {H H' : Hp} {l L J outl : List Pc} {lid lg : Nat} {ov s2 : V} {T : Fr} {Q : Ex → Fr → Dfr → Hp → Prop} {kI : Int} (hk : 0 ≤ kI ∧ kI < (L.length : Int)) (hperm : (outl ++ L).Perm l) (hrow : getRow H' lid lg = some (flatE pcE (L ++ J), true)) (hlid : H.length ≤ lid) (hov : OwnE pcE H' ov outl) (hat : ∀ j, At ov j → H.length ≤ j ∧ j ≠ lid) (hfr : ∀ j, j < H.length → H'[j]? = H[j]?) (hle : H.length ≤ H'.length) (hlen : l.length ≤ 800)
    (t1 : get T 1 = s2) (t5 : get T 5 = .slice lid lg 0 L.length 5 .full) (t6 : get T 6 = ov) (t7 : get T 7 = .int .i64 outl.length) (t8 : get T 8 = .int .i64 kI)
    (hQ : ∀ T H2 L' J' outl' ov', L'.length + 1 = L.length → outl'.length = outl.length + 1 → (outl' ++ L').Perm l → getRow H2 lid lg = some (flatE pcE (L' ++ J'), true) → OwnE pcE H2 ov' outl' → (∀ j, At ov' j → H.length ≤ j ∧ j ≠ lid) → (∀ j, j < H.length → H2[j]? = H[j]?) → H.length ≤ H2.length → get T 1 = s2 → get T 5 = .slice lid lg 0 L'.length 5 .full → get T 6 = ov' → get T 7 = .int .i64 outl.length → Q .nor T [] H2) :
    Wp Try.prog (callL Try.prog pr) 51 (.seq (.reg r17_8) (.reg r17_9)) T [] H' Q := by
  have hpl := hperm.length_eq
  rw [List.length_append] at hpl
  obtain ⟨k, hkk⟩ : ∃ k : Nat, kI = k := ⟨kI.toNat, by omega⟩
  subst hkk
  have hkl : k < L.length := by omega
  have hkx : k < (L ++ J).length := by rw [List.length_append]; omega
  have hlq := lq_agg (w := 5) (P := Try.prog) (E := pcE) g37 z37 rfl hkx
  have hca : pcE.at (L ++ J) k = pcE.at L k := by simp [Enc.at, List.getD, List.getElem?_append_left hkl]
  rw [hca] at hlq
  obtain ⟨ov2, H2, hp1, hp2, hp3, hp4, hp5⟩ := hov.pushR (w := 5) (by_ := 56) (pcE.at L k) rfl (by omega) (by omega)
  have hlt := getRow_lt hrow
  have hrow2 : getRow H2 lid lg = some (flatE pcE (L ++ J), true) := by
    have e := hp3 lid hlt (fun h => (hat lid h).2 rfl)
    unfold getRow at hrow ⊢
    rw [e]; exact hrow
  have hcut := fun cp => app_cut (cp := cp) (w := 5) (by_ := 56) hrow2 rfl (m := L.length) (by rw [List.length_append]; omega) hkl (by omega) (by omega)
  have ht1 : (L ++ J).take k = L.take k := List.take_append_of_le_length (by omega)
  have ht2 : (L ++ J).take L.length = L := by simp
  rw [ht1, ht2] at hcut
  have hoc := hov.cell
  have hk1 : ((k : Int) + 1).toNat = k + 1 := by omega
  simp (disch := first | rfl | omega | exact byE_w | exact inE_w | exact boE_w | exact stE_w | exact pcE_w | exact celE_w | exact lt_new _ | assumption | (simp only [List.length_append, List.length_singleton, List.length_set, List.length_take, List.length_drop, List.length_map]; done) | (simp only [List.length_append, List.length_singleton, List.length_set, List.length_take, List.length_drop, List.length_map]; omega)) only [r17_8, r17_9, t1, t5, t6, t7, t8, hrow, hlq, hp1, hoc, cut_sl s22, hi_sl s22, loadV_ptr, cutCap, hk1, hcut, ↓reduceIte, go_sem, Nat.add_zero, Nat.zero_add, Nat.sub_zero, List.drop_zero, Nat.reduceLT, Nat.reduceEqDiff, Nat.reduceAdd, Nat.reduceMul, Nat.reduceSub, Int.reduceAdd, Int.reduceSub, Nat.reduceLeDiff, Int.reduceLT, Int.reduceLE, Int.reduceEq, Int.reduceNeg, Int.reduceToNat, IntWalk.i64_in, Bool.or_self, Bool.or_false, Bool.or_true, Bool.and_false, Bool.and_true, Bool.false_or, Bool.true_or, Bool.false_eq_true, Bool.true_eq_false]
  repeat' ((first | refine guardB_dec (fun hy => ?_) (fun hy => ?_) | refine guardB_bool (fun hy => ?_) (fun hy => ?_) | refine guardQ_ite (fun hy => ?_) (fun hy => ?_) | refine brQ_dec (fun hy => ?_) (fun hy => ?_) | refine brQ_bool (fun hy => ?_) (fun hy => ?_)) <;> (try simp only [Bool.not_eq_true', Bool.not_eq_false', Bool.and_eq_true, Bool.or_eq_false_iff, decide_eq_true_eq, decide_eq_false_iff_not] at hy) <;> simp (disch := first | rfl | omega | exact byE_w | exact inE_w | exact boE_w | exact stE_w | exact pcE_w | exact celE_w | exact lt_new _ | assumption | (simp only [List.length_append, List.length_singleton, List.length_set, List.length_take, List.length_drop, List.length_map]; done) | (simp only [List.length_append, List.length_singleton, List.length_set, List.length_take, List.length_drop, List.length_map]; omega)) only [r17_8, r17_9, t1, t5, t6, t7, t8, hrow, hlq, hp1, hoc, cut_sl s22, hi_sl s22, loadV_ptr, cutCap, hk1, hcut, ↓reduceIte, go_sem, Nat.add_zero, Nat.zero_add, Nat.sub_zero, List.drop_zero, Nat.reduceLT, Nat.reduceEqDiff, Nat.reduceAdd, Nat.reduceMul, Nat.reduceSub, Int.reduceAdd, Int.reduceSub, Nat.reduceLeDiff, Int.reduceLT, Int.reduceLE, Int.reduceEq, Int.reduceNeg, Int.reduceToNat, IntWalk.i64_in, Bool.or_self, Bool.or_false, Bool.or_true, Bool.and_false, Bool.and_true, Bool.false_or, Bool.true_or, Bool.false_eq_true, Bool.true_eq_false, hy])
  have hlid2 : lid < H2.length := getRow_lt hrow2
  have hol : (L.take k ++ L.drop (k + 1)).length = L.length - 1 := by simp; omega
  have hat2 : ∀ j, At ov2 j → H.length ≤ j ∧ j ≠ lid := fun j hj => by
    rcases hp5 j hj with h | h
    · exact hat j h
    · exact ⟨by omega, by omega⟩
  refine hQ _ _ (L.take k ++ L.drop (k + 1)) ((L ++ J).drop (L.length - 1)) (outl ++ [pcE.at L k]) ov2 (by omega) (by simp) ?_ (getRow_setS hlid2) (hp2.frame fun j hj => ?_) hat2 (fun j hj => ?_) (by simp; omega) ?_ ?_ ?_ ?_
  · refine List.Perm.trans ?_ hperm
    rw [List.append_assoc]
    refine List.Perm.append_left outl ?_
    have e : L = L.take k ++ (pcE.at L k :: L.drop (k + 1)) := by rw [← pcE.drop_at hkl, List.take_append_drop]
    conv => rhs; rw [e]
    show (pcE.at L k :: (L.take k ++ L.drop (k + 1))).Perm _
    exact List.perm_middle.symm
  · rw [List.getElem?_set_ne (fun e => (hat2 j hj).2 e.symm)]
  · rw [List.getElem?_set_ne (by omega), hp3 j (by omega) (fun h => by have := (hat j h).1; omega)]
    exact hfr j hj
  · simp (disch := first | rfl | omega | exact byE_w | exact inE_w | exact boE_w | exact stE_w | exact pcE_w | exact celE_w | exact lt_new _ | assumption | (simp only [List.length_append, List.length_singleton, List.length_set, List.length_take, List.length_drop, List.length_map]; done) | (simp only [List.length_append, List.length_singleton, List.length_set, List.length_take, List.length_drop, List.length_map]; omega)) only [↓reduceIte, go_sem, Nat.add_zero, Nat.zero_add, Nat.sub_zero, List.drop_zero, Nat.reduceLT, Nat.reduceEqDiff, Nat.reduceAdd, Nat.reduceMul, Nat.reduceSub, Int.reduceAdd, Int.reduceSub, Nat.reduceLeDiff, Int.reduceLT, Int.reduceLE, Int.reduceEq, Int.reduceNeg, Int.reduceToNat, IntWalk.i64_in, Bool.or_self, Bool.or_false, Bool.or_true, Bool.and_false, Bool.and_true, Bool.false_or, Bool.true_or, Bool.false_eq_true, Bool.true_eq_false, t1]
  · simp (disch := first | rfl | omega | exact byE_w | exact inE_w | exact boE_w | exact stE_w | exact pcE_w | exact celE_w | exact lt_new _ | assumption | (simp only [List.length_append, List.length_singleton, List.length_set, List.length_take, List.length_drop, List.length_map]; done) | (simp only [List.length_append, List.length_singleton, List.length_set, List.length_take, List.length_drop, List.length_map]; omega)) only [↓reduceIte, go_sem, Nat.add_zero, Nat.zero_add, Nat.sub_zero, List.drop_zero, Nat.reduceLT, Nat.reduceEqDiff, Nat.reduceAdd, Nat.reduceMul, Nat.reduceSub, Int.reduceAdd, Int.reduceSub, Nat.reduceLeDiff, Int.reduceLT, Int.reduceLE, Int.reduceEq, Int.reduceNeg, Int.reduceToNat, IntWalk.i64_in, Bool.or_self, Bool.or_false, Bool.or_true, Bool.and_false, Bool.and_true, Bool.false_or, Bool.true_or, Bool.false_eq_true, Bool.true_eq_false, t1, hol]
  · simp (disch := first | rfl | omega | exact byE_w | exact inE_w | exact boE_w | exact stE_w | exact pcE_w | exact celE_w | exact lt_new _ | assumption | (simp only [List.length_append, List.length_singleton, List.length_set, List.length_take, List.length_drop, List.length_map]; done) | (simp only [List.length_append, List.length_singleton, List.length_set, List.length_take, List.length_drop, List.length_map]; omega)) only [↓reduceIte, go_sem, Nat.add_zero, Nat.zero_add, Nat.sub_zero, List.drop_zero, Nat.reduceLT, Nat.reduceEqDiff, Nat.reduceAdd, Nat.reduceMul, Nat.reduceSub, Int.reduceAdd, Int.reduceSub, Nat.reduceLeDiff, Int.reduceLT, Int.reduceLE, Int.reduceEq, Int.reduceNeg, Int.reduceToNat, IntWalk.i64_in, Bool.or_self, Bool.or_false, Bool.or_true, Bool.and_false, Bool.and_true, Bool.false_or, Bool.true_or, Bool.false_eq_true, Bool.true_eq_false, t1]
  · simp (disch := first | rfl | omega | exact byE_w | exact inE_w | exact boE_w | exact stE_w | exact pcE_w | exact celE_w | exact lt_new _ | assumption | (simp only [List.length_append, List.length_singleton, List.length_set, List.length_take, List.length_drop, List.length_map]; done) | (simp only [List.length_append, List.length_singleton, List.length_set, List.length_take, List.length_drop, List.length_map]; omega)) only [↓reduceIte, go_sem, Nat.add_zero, Nat.zero_add, Nat.sub_zero, List.drop_zero, Nat.reduceLT, Nat.reduceEqDiff, Nat.reduceAdd, Nat.reduceMul, Nat.reduceSub, Int.reduceAdd, Int.reduceSub, Nat.reduceLeDiff, Int.reduceLT, Int.reduceLE, Int.reduceEq, Int.reduceNeg, Int.reduceToNat, IntWalk.i64_in, Bool.or_self, Bool.or_false, Bool.or_true, Bool.and_false, Bool.and_true, Bool.false_or, Bool.true_or, Bool.false_eq_true, Bool.true_eq_false, t7]
set_option maxHeartbeats 2000000 in
theorem turn_step {H H' : Hp} {l : List Pc} {b2 : Bool} {order : List Int} {m : Nat} {T : Fr} {D : Dfr} {R : Ex → Fr → Dfr → Hp → Prop} (h : TurnI H l (slV b2 inE order) m T D H') (hm : 0 < m) (hlen : l.length ≤ 800) (hol : order.length ≤ 40000) :
    Wp Try.prog (callL Try.prog pr) 51 l17_11 T D H' (loopQ (fun T D H' => ∃ m' < m, TurnI H l (slV b2 inE order) m' T D H') R) := by
  obtain ⟨L, J, outl, lid, lg, ov, rfl, rfl, hperm, hrow, hlid, hov, hat, hfr, hle, t1, t5, t6, t7⟩ := h
  have hpl := hperm.length_eq
  rw [List.length_append] at hpl
  have hm0 : (0 : Int) < L.length := by omega
  have hq : ∀ T2 : Fr, ∀ kI : Int, 0 ≤ kI ∧ kI < (L.length : Int) → get T2 1 = slV b2 inE order → get T2 5 = .slice lid lg 0 L.length 5 .full → get T2 6 = ov → get T2 7 = .int .i64 outl.length → get T2 8 = .int .i64 kI → Wp Try.prog (callL Try.prog pr) 51 (.seq (.reg r17_8) (.reg r17_9)) T2 [] H' (blockQ 1 (seqQ Try.prog (callL Try.prog pr) 51 (.reg r17_10) (loopQ (fun T D H' => ∃ m' < L.length, TurnI H l (slV b2 inE order) m' T D H') R))) := by
    intro T2 kI hk q1 q5 q6 q7 q8
    refine turn_tail hk hperm hrow hlid hov hat hfr hle hlen q1 q5 q6 q7 q8 ?_
    intro T H2 L' J' outl' ov' e1 e2 e3 e4 e5 e6 e7 e8 f1 f5 f6 f7
    have e2' : (outl.length : Int) + 1 = outl'.length := by omega
    simp (disch := first | rfl | omega | exact byE_w | exact inE_w | exact boE_w | exact stE_w | exact pcE_w | exact celE_w | exact lt_new _ | assumption | (simp only [List.length_append, List.length_singleton, List.length_set, List.length_take, List.length_drop, List.length_map]; done) | (simp only [List.length_append, List.length_singleton, List.length_set, List.length_take, List.length_drop, List.length_map]; omega)) only [r17_10, f1, f5, f6, f7, e2', ↓reduceIte, go_sem, Nat.add_zero, Nat.zero_add, Nat.sub_zero, List.drop_zero, Nat.reduceLT, Nat.reduceEqDiff, Nat.reduceAdd, Nat.reduceMul, Nat.reduceSub, Int.reduceAdd, Int.reduceSub, Nat.reduceLeDiff, Int.reduceLT, Int.reduceLE, Int.reduceEq, Int.reduceNeg, Int.reduceToNat, IntWalk.i64_in, Bool.or_self, Bool.or_false, Bool.or_true, Bool.and_false, Bool.and_true, Bool.false_or, Bool.true_or, Bool.false_eq_true, Bool.true_eq_false]
    repeat' ((first | refine guardB_dec (fun hy => ?_) (fun hy => ?_) | refine guardB_bool (fun hy => ?_) (fun hy => ?_) | refine guardQ_ite (fun hy => ?_) (fun hy => ?_) | refine brQ_dec (fun hy => ?_) (fun hy => ?_) | refine brQ_bool (fun hy => ?_) (fun hy => ?_)) <;> (try simp only [Bool.not_eq_true', Bool.not_eq_false', Bool.and_eq_true, Bool.or_eq_false_iff, decide_eq_true_eq, decide_eq_false_iff_not] at hy) <;> simp (disch := first | rfl | omega | exact byE_w | exact inE_w | exact boE_w | exact stE_w | exact pcE_w | exact celE_w | exact lt_new _ | assumption | (simp only [List.length_append, List.length_singleton, List.length_set, List.length_take, List.length_drop, List.length_map]; done) | (simp only [List.length_append, List.length_singleton, List.length_set, List.length_take, List.length_drop, List.length_map]; omega)) only [r17_10, f1, f5, f6, f7, e2', ↓reduceIte, go_sem, Nat.add_zero, Nat.zero_add, Nat.sub_zero, List.drop_zero, Nat.reduceLT, Nat.reduceEqDiff, Nat.reduceAdd, Nat.reduceMul, Nat.reduceSub, Int.reduceAdd, Int.reduceSub, Nat.reduceLeDiff, Int.reduceLT, Int.reduceLE, Int.reduceEq, Int.reduceNeg, Int.reduceToNat, IntWalk.i64_in, Bool.or_self, Bool.or_false, Bool.or_true, Bool.and_false, Bool.and_true, Bool.false_or, Bool.true_or, Bool.false_eq_true, Bool.true_eq_false, hy])
    refine ⟨L'.length, by omega, L', J', outl', lid, lg, ov', rfl, rfl, e3, e4, hlid, e5, e6, e7, e8, ?_, ?_, ?_, ?_⟩
    all_goals simp (disch := first | rfl | omega | exact byE_w | exact inE_w | exact boE_w | exact stE_w | exact pcE_w | exact celE_w | exact lt_new _ | assumption | (simp only [List.length_append, List.length_singleton, List.length_set, List.length_take, List.length_drop, List.length_map]; done) | (simp only [List.length_append, List.length_singleton, List.length_set, List.length_take, List.length_drop, List.length_map]; omega)) only [↓reduceIte, go_sem, Nat.add_zero, Nat.zero_add, Nat.sub_zero, List.drop_zero, Nat.reduceLT, Nat.reduceEqDiff, Nat.reduceAdd, Nat.reduceMul, Nat.reduceSub, Int.reduceAdd, Int.reduceSub, Nat.reduceLeDiff, Int.reduceLT, Int.reduceLE, Int.reduceEq, Int.reduceNeg, Int.reduceToNat, IntWalk.i64_in, Bool.or_self, Bool.or_false, Bool.or_true, Bool.and_false, Bool.and_true, Bool.false_or, Bool.true_or, Bool.false_eq_true, Bool.true_eq_false, f1, f5, f6, f7, e2']
  simp only [Wp_seq, Wp_reg] at hq
  by_cases ho : 0 < order.length
  · have ho0 : (0 : Int) < order.length := by omega
    have ho1 : ¬ (order.length : Int) = 0 := by omega
    obtain ⟨j, hj, hjl⟩ : ∃ j : Nat, ((outl.length : Int)).tmod order.length = j ∧ j < order.length := ⟨outl.length % order.length, (Int.natCast_tmod_aux _ _), Nat.mod_lt _ ho⟩
    obtain ⟨x, hx⟩ : ∃ x, inE.at order j = x := ⟨_, rfl⟩
    have hL0 : ¬ (L.length : Int) = 0 := by omega
    have hr1 : -(L.length : Int) < x.tmod L.length ∧ x.tmod L.length < (L.length : Int) := by
      have h1 := Int.tmod_lt_of_pos x hm0
      have h2 := Int.lt_tmod_of_pos x hm0
      exact ⟨h2, h1⟩
    obtain ⟨y, hy⟩ : ∃ y, x.tmod L.length = y := ⟨_, rfl⟩
    rw [hy] at hr1
    have hr2 : 0 ≤ (y + L.length).tmod L.length ∧ (y + L.length).tmod L.length < (L.length : Int) := ⟨Int.tmod_nonneg _ (by omega), Int.tmod_lt_of_pos _ hm0⟩
    have lI := fun H => ldI (H := H) hjl
    rw [hx] at lI
    simp (disch := first | rfl | omega | exact byE_w | exact inE_w | exact boE_w | exact stE_w | exact pcE_w | exact celE_w | exact lt_new _ | assumption | (simp only [List.length_append, List.length_singleton, List.length_set, List.length_take, List.length_drop, List.length_map]; done) | (simp only [List.length_append, List.length_singleton, List.length_set, List.length_take, List.length_drop, List.length_map]; omega)) only [l17_11, r17_4, r17_5, r17_6, r17_7, t1, t5, t6, t7, hm0, ho0, ho1, hL0, hj, lI, hy, decide_true, ↓reduceIte, go_sem, Nat.add_zero, Nat.zero_add, Nat.sub_zero, List.drop_zero, Nat.reduceLT, Nat.reduceEqDiff, Nat.reduceAdd, Nat.reduceMul, Nat.reduceSub, Int.reduceAdd, Int.reduceSub, Nat.reduceLeDiff, Int.reduceLT, Int.reduceLE, Int.reduceEq, Int.reduceNeg, Int.reduceToNat, IntWalk.i64_in, Bool.or_self, Bool.or_false, Bool.or_true, Bool.and_false, Bool.and_true, Bool.false_or, Bool.true_or, Bool.false_eq_true, Bool.true_eq_false]
    repeat' ((first | refine guardB_dec (fun hy => ?_) (fun hy => ?_) | refine guardB_bool (fun hy => ?_) (fun hy => ?_) | refine guardQ_ite (fun hy => ?_) (fun hy => ?_) | refine brQ_dec (fun hy => ?_) (fun hy => ?_) | refine brQ_bool (fun hy => ?_) (fun hy => ?_)) <;> (try simp only [Bool.not_eq_true', Bool.not_eq_false', Bool.and_eq_true, Bool.or_eq_false_iff, decide_eq_true_eq, decide_eq_false_iff_not] at hy) <;> simp (disch := first | rfl | omega | exact byE_w | exact inE_w | exact boE_w | exact stE_w | exact pcE_w | exact celE_w | exact lt_new _ | assumption | (simp only [List.length_append, List.length_singleton, List.length_set, List.length_take, List.length_drop, List.length_map]; done) | (simp only [List.length_append, List.length_singleton, List.length_set, List.length_take, List.length_drop, List.length_map]; omega)) only [l17_11, r17_4, r17_5, r17_6, r17_7, t1, t5, t6, t7, hm0, ho0, ho1, hL0, hj, lI, hy, decide_true, ↓reduceIte, go_sem, Nat.add_zero, Nat.zero_add, Nat.sub_zero, List.drop_zero, Nat.reduceLT, Nat.reduceEqDiff, Nat.reduceAdd, Nat.reduceMul, Nat.reduceSub, Int.reduceAdd, Int.reduceSub, Nat.reduceLeDiff, Int.reduceLT, Int.reduceLE, Int.reduceEq, Int.reduceNeg, Int.reduceToNat, IntWalk.i64_in, Bool.or_self, Bool.or_false, Bool.or_true, Bool.and_false, Bool.and_true, Bool.false_or, Bool.true_or, Bool.false_eq_true, Bool.true_eq_false, hy])
    refine hq _ _ hr2 ?_ ?_ ?_ ?_ ?_
    all_goals simp (disch := first | rfl | omega | exact byE_w | exact inE_w | exact boE_w | exact stE_w | exact pcE_w | exact celE_w | exact lt_new _ | assumption | (simp only [List.length_append, List.length_singleton, List.length_set, List.length_take, List.length_drop, List.length_map]; done) | (simp only [List.length_append, List.length_singleton, List.length_set, List.length_take, List.length_drop, List.length_map]; omega)) only [↓reduceIte, go_sem, Nat.add_zero, Nat.zero_add, Nat.sub_zero, List.drop_zero, Nat.reduceLT, Nat.reduceEqDiff, Nat.reduceAdd, Nat.reduceMul, Nat.reduceSub, Int.reduceAdd, Int.reduceSub, Nat.reduceLeDiff, Int.reduceLT, Int.reduceLE, Int.reduceEq, Int.reduceNeg, Int.reduceToNat, IntWalk.i64_in, Bool.or_self, Bool.or_false, Bool.or_true, Bool.and_false, Bool.and_true, Bool.false_or, Bool.true_or, Bool.false_eq_true, Bool.true_eq_false, t1, t5, t6, t7]
  · have ho0 : ¬ (0 : Int) < order.length := by omega
    simp (disch := first | rfl | omega | exact byE_w | exact inE_w | exact boE_w | exact stE_w | exact pcE_w | exact celE_w | exact lt_new _ | assumption | (simp only [List.length_append, List.length_singleton, List.length_set, List.length_take, List.length_drop, List.length_map]; done) | (simp only [List.length_append, List.length_singleton, List.length_set, List.length_take, List.length_drop, List.length_map]; omega)) only [l17_11, r17_4, r17_5, r17_6, r17_7, t1, t5, t6, t7, hm0, ho0, decide_true, decide_false, ↓reduceIte, go_sem, Nat.add_zero, Nat.zero_add, Nat.sub_zero, List.drop_zero, Nat.reduceLT, Nat.reduceEqDiff, Nat.reduceAdd, Nat.reduceMul, Nat.reduceSub, Int.reduceAdd, Int.reduceSub, Nat.reduceLeDiff, Int.reduceLT, Int.reduceLE, Int.reduceEq, Int.reduceNeg, Int.reduceToNat, IntWalk.i64_in, Bool.or_self, Bool.or_false, Bool.or_true, Bool.and_false, Bool.and_true, Bool.false_or, Bool.true_or, Bool.false_eq_true, Bool.true_eq_false]
    repeat' ((first | refine guardB_dec (fun hy => ?_) (fun hy => ?_) | refine guardB_bool (fun hy => ?_) (fun hy => ?_) | refine guardQ_ite (fun hy => ?_) (fun hy => ?_) | refine brQ_dec (fun hy => ?_) (fun hy => ?_) | refine brQ_bool (fun hy => ?_) (fun hy => ?_)) <;> (try simp only [Bool.not_eq_true', Bool.not_eq_false', Bool.and_eq_true, Bool.or_eq_false_iff, decide_eq_true_eq, decide_eq_false_iff_not] at hy) <;> simp (disch := first | rfl | omega | exact byE_w | exact inE_w | exact boE_w | exact stE_w | exact pcE_w | exact celE_w | exact lt_new _ | assumption | (simp only [List.length_append, List.length_singleton, List.length_set, List.length_take, List.length_drop, List.length_map]; done) | (simp only [List.length_append, List.length_singleton, List.length_set, List.length_take, List.length_drop, List.length_map]; omega)) only [l17_11, r17_4, r17_5, r17_6, r17_7, t1, t5, t6, t7, hm0, ho0, decide_true, decide_false, ↓reduceIte, go_sem, Nat.add_zero, Nat.zero_add, Nat.sub_zero, List.drop_zero, Nat.reduceLT, Nat.reduceEqDiff, Nat.reduceAdd, Nat.reduceMul, Nat.reduceSub, Int.reduceAdd, Int.reduceSub, Nat.reduceLeDiff, Int.reduceLT, Int.reduceLE, Int.reduceEq, Int.reduceNeg, Int.reduceToNat, IntWalk.i64_in, Bool.or_self, Bool.or_false, Bool.or_true, Bool.and_false, Bool.and_true, Bool.false_or, Bool.true_or, Bool.false_eq_true, Bool.true_eq_false, hy])
    refine hq _ 0 ⟨by omega, by omega⟩ ?_ ?_ ?_ ?_ ?_
    all_goals simp (disch := first | rfl | omega | exact byE_w | exact inE_w | exact boE_w | exact stE_w | exact pcE_w | exact celE_w | exact lt_new _ | assumption | (simp only [List.length_append, List.length_singleton, List.length_set, List.length_take, List.length_drop, List.length_map]; done) | (simp only [List.length_append, List.length_singleton, List.length_set, List.length_take, List.length_drop, List.length_map]; omega)) only [↓reduceIte, go_sem, Nat.add_zero, Nat.zero_add, Nat.sub_zero, List.drop_zero, Nat.reduceLT, Nat.reduceEqDiff, Nat.reduceAdd, Nat.reduceMul, Nat.reduceSub, Int.reduceAdd, Int.reduceSub, Nat.reduceLeDiff, Int.reduceLT, Int.reduceLE, Int.reduceEq, Int.reduceNeg, Int.reduceToNat, IntWalk.i64_in, Bool.or_self, Bool.or_false, Bool.or_true, Bool.and_false, Bool.and_true, Bool.false_or, Bool.true_or, Bool.false_eq_true, Bool.true_eq_false, t1, t5, t6, t7]
theorem fn17 {b b2 : Bool} {l : List Pc} {order : List Int} (hlen : l.length ≤ 800) (hol : order.length ≤ 40000) (H : Hp) : ∃ l' : List Pc, l'.Perm l ∧ callL Try.prog pr 17 [slV b pcE l, slV b2 inE order] H = some (slV true pcE l', H) := by
  suffices h : ∃ r, callL Try.prog pr 17 [slV b pcE l, slV b2 inE order] H = some r ∧ ∃ l' : List Pc, l'.Perm l ∧ r = (slV true pcE l', H) by
    obtain ⟨r, h1, l', h2, rfl⟩ := h
    exact ⟨l', h2, h1⟩
  refine ex17 (Nat.le_of_ble_eq_true rfl) ?_
  have hin : ∀ A : Hp, appOf 5 56 A .nilslice (slV b pcE l) = some (blV A.length 0 5 (l.map pcE.f), A ++ blH 0 (l.map pcE.f)) := fun A => bl_nil pcE l b rfl (by omega) (by omega)
  by_cases hl : 0 < l.length
  · have hs := fun n => blV_some (E := pcE) (l := l) (g := 0) (n := n) (w := 5) hl
    simp (disch := first | rfl | omega | exact byE_w | exact inE_w | exact boE_w | exact stE_w | exact pcE_w | exact celE_w | exact lt_new _ | assumption | (simp only [List.length_append, List.length_singleton, List.length_set, List.length_take, List.length_drop, List.length_map]; done) | (simp only [List.length_append, List.length_singleton, List.length_set, List.length_take, List.length_drop, List.length_map]; omega)) only [r17_0, r17_1, r17_2, r17_3, r17_4, r17_5, r17_6, r17_7, r17_8, r17_9, r17_10, r17_12, c17, rs17, gc17, hin, hs, ↓reduceIte, go_sem, Nat.add_zero, Nat.zero_add, Nat.sub_zero, List.drop_zero, Nat.reduceLT, Nat.reduceEqDiff, Nat.reduceAdd, Nat.reduceMul, Nat.reduceSub, Int.reduceAdd, Int.reduceSub, Nat.reduceLeDiff, Int.reduceLT, Int.reduceLE, Int.reduceEq, Int.reduceNeg, Int.reduceToNat, IntWalk.i64_in, Bool.or_self, Bool.or_false, Bool.or_true, Bool.and_false, Bool.and_true, Bool.false_or, Bool.true_or, Bool.false_eq_true, Bool.true_eq_false]
    repeat' ((first | refine guardB_dec (fun hy => ?_) (fun hy => ?_) | refine guardB_bool (fun hy => ?_) (fun hy => ?_) | refine guardQ_ite (fun hy => ?_) (fun hy => ?_) | refine brQ_dec (fun hy => ?_) (fun hy => ?_) | refine brQ_bool (fun hy => ?_) (fun hy => ?_)) <;> (try simp only [Bool.not_eq_true', Bool.not_eq_false', Bool.and_eq_true, Bool.or_eq_false_iff, decide_eq_true_eq, decide_eq_false_iff_not] at hy) <;> simp (disch := first | rfl | omega | exact byE_w | exact inE_w | exact boE_w | exact stE_w | exact pcE_w | exact celE_w | exact lt_new _ | assumption | (simp only [List.length_append, List.length_singleton, List.length_set, List.length_take, List.length_drop, List.length_map]; done) | (simp only [List.length_append, List.length_singleton, List.length_set, List.length_take, List.length_drop, List.length_map]; omega)) only [r17_0, r17_1, r17_2, r17_3, r17_4, r17_5, r17_6, r17_7, r17_8, r17_9, r17_10, r17_12, c17, rs17, gc17, hin, hs, ↓reduceIte, go_sem, Nat.add_zero, Nat.zero_add, Nat.sub_zero, List.drop_zero, Nat.reduceLT, Nat.reduceEqDiff, Nat.reduceAdd, Nat.reduceMul, Nat.reduceSub, Int.reduceAdd, Int.reduceSub, Nat.reduceLeDiff, Int.reduceLT, Int.reduceLE, Int.reduceEq, Int.reduceNeg, Int.reduceToNat, IntWalk.i64_in, Bool.or_self, Bool.or_false, Bool.or_true, Bool.and_false, Bool.and_true, Bool.false_or, Bool.true_or, Bool.false_eq_true, Bool.true_eq_false, hy])
    refine Wp_loop (TurnI H l (slV b2 inE order)) ?_ l.length _ _ _ ?_
    · intro m T D H' hI
      by_cases hm : 0 < m
      · exact turn_step hI hm hlen hol
      · obtain ⟨L, J, outl, lid, lg, ov, rfl, rfl, hperm, hrow, hlid, hov, hat, hfr, hle, t1, t5, t6, t7⟩ := hI
        have hL : L = [] := List.eq_nil_of_length_eq_zero (by omega)
        subst hL
        rw [List.append_nil] at hperm
        have hoc := hov.cell
        simp (disch := first | rfl | omega | exact byE_w | exact inE_w | exact boE_w | exact stE_w | exact pcE_w | exact celE_w | exact lt_new _ | assumption | (simp only [List.length_append, List.length_singleton, List.length_set, List.length_take, List.length_drop, List.length_map]; done) | (simp only [List.length_append, List.length_singleton, List.length_set, List.length_take, List.length_drop, List.length_map]; omega)) only [l17_11, r17_4, r17_12, t1, t5, t6, t7, List.length_nil, Int.lt_irrefl, decide_false, hoc, Int.natCast_zero, ↓reduceIte, go_sem, Nat.add_zero, Nat.zero_add, Nat.sub_zero, List.drop_zero, Nat.reduceLT, Nat.reduceEqDiff, Nat.reduceAdd, Nat.reduceMul, Nat.reduceSub, Int.reduceAdd, Int.reduceSub, Nat.reduceLeDiff, Int.reduceLT, Int.reduceLE, Int.reduceEq, Int.reduceNeg, Int.reduceToNat, IntWalk.i64_in, Bool.or_self, Bool.or_false, Bool.or_true, Bool.and_false, Bool.and_true, Bool.false_or, Bool.true_or, Bool.false_eq_true, Bool.true_eq_false]
        repeat' ((first | refine guardB_dec (fun hy => ?_) (fun hy => ?_) | refine guardB_bool (fun hy => ?_) (fun hy => ?_) | refine guardQ_ite (fun hy => ?_) (fun hy => ?_) | refine brQ_dec (fun hy => ?_) (fun hy => ?_) | refine brQ_bool (fun hy => ?_) (fun hy => ?_)) <;> (try simp only [Bool.not_eq_true', Bool.not_eq_false', Bool.and_eq_true, Bool.or_eq_false_iff, decide_eq_true_eq, decide_eq_false_iff_not] at hy) <;> simp (disch := first | rfl | omega | exact byE_w | exact inE_w | exact boE_w | exact stE_w | exact pcE_w | exact celE_w | exact lt_new _ | assumption | (simp only [List.length_append, List.length_singleton, List.length_set, List.length_take, List.length_drop, List.length_map]; done) | (simp only [List.length_append, List.length_singleton, List.length_set, List.length_take, List.length_drop, List.length_map]; omega)) only [l17_11, r17_4, r17_12, t1, t5, t6, t7, List.length_nil, Int.lt_irrefl, decide_false, hoc, Int.natCast_zero, ↓reduceIte, go_sem, Nat.add_zero, Nat.zero_add, Nat.sub_zero, List.drop_zero, Nat.reduceLT, Nat.reduceEqDiff, Nat.reduceAdd, Nat.reduceMul, Nat.reduceSub, Int.reduceAdd, Int.reduceSub, Nat.reduceLeDiff, Int.reduceLT, Int.reduceLE, Int.reduceEq, Int.reduceNeg, Int.reduceToNat, IntWalk.i64_in, Bool.or_self, Bool.or_false, Bool.or_true, Bool.and_false, Bool.and_true, Bool.false_or, Bool.true_or, Bool.false_eq_true, Bool.true_eq_false, hy])
        refine ⟨outl, hperm, ?_⟩
        refine gcF_of hfr ?_
        have := hov.inl (f := 6) (n := H.length) fun j hj => (hat j hj).1
        rcases hov with ⟨rfl, _⟩ | ⟨id, g, rfl, _⟩ <;> exact this
    · refine ⟨l, [], [], H.length, 0, .nilslice, rfl, rfl, by simp, ?_, by omega, ownE_nil _ _, ?_, ?_, ?_, ?_⟩
      · rw [List.append_nil]; exact getRow_bl rfl hl
      · intro j hj; obtain ⟨_, _, _, _, _, e⟩ := hj; cases e
      · intro j hj; exact List.getElem?_append_left hj
      · simp
      · simp (disch := first | rfl | omega | exact byE_w | exact inE_w | exact boE_w | exact stE_w | exact pcE_w | exact celE_w | exact lt_new _ | assumption | (simp only [List.length_append, List.length_singleton, List.length_set, List.length_take, List.length_drop, List.length_map]; done) | (simp only [List.length_append, List.length_singleton, List.length_set, List.length_take, List.length_drop, List.length_map]; omega)) only [↓reduceIte, go_sem, Nat.add_zero, Nat.zero_add, Nat.sub_zero, List.drop_zero, Nat.reduceLT, Nat.reduceEqDiff, Nat.reduceAdd, Nat.reduceMul, Nat.reduceSub, Int.reduceAdd, Int.reduceSub, Nat.reduceLeDiff, Int.reduceLT, Int.reduceLE, Int.reduceEq, Int.reduceNeg, Int.reduceToNat, IntWalk.i64_in, Bool.or_self, Bool.or_false, Bool.or_true, Bool.and_false, Bool.and_true, Bool.false_or, Bool.true_or, Bool.false_eq_true, Bool.true_eq_false, List.length_nil]
  · have hn : l = [] := List.eq_nil_of_length_eq_zero (by omega)
    subst hn
    simp (disch := first | rfl | omega | exact byE_w | exact inE_w | exact boE_w | exact stE_w | exact pcE_w | exact celE_w | exact lt_new _ | assumption | (simp only [List.length_append, List.length_singleton, List.length_set, List.length_take, List.length_drop, List.length_map]; done) | (simp only [List.length_append, List.length_singleton, List.length_set, List.length_take, List.length_drop, List.length_map]; omega)) only [r17_0, r17_1, r17_2, r17_3, r17_4, r17_5, r17_6, r17_7, r17_8, r17_9, r17_10, r17_12, c17, rs17, gc17, hin, List.map_nil, blV_nil, blH_nil, List.append_nil, ↓reduceIte, go_sem, Nat.add_zero, Nat.zero_add, Nat.sub_zero, List.drop_zero, Nat.reduceLT, Nat.reduceEqDiff, Nat.reduceAdd, Nat.reduceMul, Nat.reduceSub, Int.reduceAdd, Int.reduceSub, Nat.reduceLeDiff, Int.reduceLT, Int.reduceLE, Int.reduceEq, Int.reduceNeg, Int.reduceToNat, IntWalk.i64_in, Bool.or_self, Bool.or_false, Bool.or_true, Bool.and_false, Bool.and_true, Bool.false_or, Bool.true_or, Bool.false_eq_true, Bool.true_eq_false]
    repeat' ((first | refine guardB_dec (fun hy => ?_) (fun hy => ?_) | refine guardB_bool (fun hy => ?_) (fun hy => ?_) | refine guardQ_ite (fun hy => ?_) (fun hy => ?_) | refine brQ_dec (fun hy => ?_) (fun hy => ?_) | refine brQ_bool (fun hy => ?_) (fun hy => ?_)) <;> (try simp only [Bool.not_eq_true', Bool.not_eq_false', Bool.and_eq_true, Bool.or_eq_false_iff, decide_eq_true_eq, decide_eq_false_iff_not] at hy) <;> simp (disch := first | rfl | omega | exact byE_w | exact inE_w | exact boE_w | exact stE_w | exact pcE_w | exact celE_w | exact lt_new _ | assumption | (simp only [List.length_append, List.length_singleton, List.length_set, List.length_take, List.length_drop, List.length_map]; done) | (simp only [List.length_append, List.length_singleton, List.length_set, List.length_take, List.length_drop, List.length_map]; omega)) only [r17_0, r17_1, r17_2, r17_3, r17_4, r17_5, r17_6, r17_7, r17_8, r17_9, r17_10, r17_12, c17, rs17, gc17, hin, List.map_nil, blV_nil, blH_nil, List.append_nil, ↓reduceIte, go_sem, Nat.add_zero, Nat.zero_add, Nat.sub_zero, List.drop_zero, Nat.reduceLT, Nat.reduceEqDiff, Nat.reduceAdd, Nat.reduceMul, Nat.reduceSub, Int.reduceAdd, Int.reduceSub, Nat.reduceLeDiff, Int.reduceLT, Int.reduceLE, Int.reduceEq, Int.reduceNeg, Int.reduceToNat, IntWalk.i64_in, Bool.or_self, Bool.or_false, Bool.or_true, Bool.and_false, Bool.and_true, Bool.false_or, Bool.true_or, Bool.false_eq_true, Bool.true_eq_false, hy])
    refine Wp_loop (fun m T D H' => D = [] ∧ H' = H ∧ get T 5 = .nilslice ∧ get T 6 = .nilslice) ?_ 0 _ _ _ ?_
    · rintro m T D H' ⟨rfl, rfl, t5, t6⟩
      simp (disch := first | rfl | omega | exact byE_w | exact inE_w | exact boE_w | exact stE_w | exact pcE_w | exact celE_w | exact lt_new _ | assumption | (simp only [List.length_append, List.length_singleton, List.length_set, List.length_take, List.length_drop, List.length_map]; done) | (simp only [List.length_append, List.length_singleton, List.length_set, List.length_take, List.length_drop, List.length_map]; omega)) only [l17_11, r17_4, r17_12, t5, t6, Int.lt_irrefl, decide_false, ↓reduceIte, go_sem, Nat.add_zero, Nat.zero_add, Nat.sub_zero, List.drop_zero, Nat.reduceLT, Nat.reduceEqDiff, Nat.reduceAdd, Nat.reduceMul, Nat.reduceSub, Int.reduceAdd, Int.reduceSub, Nat.reduceLeDiff, Int.reduceLT, Int.reduceLE, Int.reduceEq, Int.reduceNeg, Int.reduceToNat, IntWalk.i64_in, Bool.or_self, Bool.or_false, Bool.or_true, Bool.and_false, Bool.and_true, Bool.false_or, Bool.true_or, Bool.false_eq_true, Bool.true_eq_false]
      repeat' ((first | refine guardB_dec (fun hy => ?_) (fun hy => ?_) | refine guardB_bool (fun hy => ?_) (fun hy => ?_) | refine guardQ_ite (fun hy => ?_) (fun hy => ?_) | refine brQ_dec (fun hy => ?_) (fun hy => ?_) | refine brQ_bool (fun hy => ?_) (fun hy => ?_)) <;> (try simp only [Bool.not_eq_true', Bool.not_eq_false', Bool.and_eq_true, Bool.or_eq_false_iff, decide_eq_true_eq, decide_eq_false_iff_not] at hy) <;> simp (disch := first | rfl | omega | exact byE_w | exact inE_w | exact boE_w | exact stE_w | exact pcE_w | exact celE_w | exact lt_new _ | assumption | (simp only [List.length_append, List.length_singleton, List.length_set, List.length_take, List.length_drop, List.length_map]; done) | (simp only [List.length_append, List.length_singleton, List.length_set, List.length_take, List.length_drop, List.length_map]; omega)) only [l17_11, r17_4, r17_12, t5, t6, Int.lt_irrefl, decide_false, ↓reduceIte, go_sem, Nat.add_zero, Nat.zero_add, Nat.sub_zero, List.drop_zero, Nat.reduceLT, Nat.reduceEqDiff, Nat.reduceAdd, Nat.reduceMul, Nat.reduceSub, Int.reduceAdd, Int.reduceSub, Nat.reduceLeDiff, Int.reduceLT, Int.reduceLE, Int.reduceEq, Int.reduceNeg, Int.reduceToNat, IntWalk.i64_in, Bool.or_self, Bool.or_false, Bool.or_true, Bool.and_false, Bool.and_true, Bool.false_or, Bool.true_or, Bool.false_eq_true, Bool.true_eq_false, hy])
      exact ⟨[], List.Perm.nil, finQ_same (by simp only [↓reduceIte, go_sem, Nat.add_zero, Nat.zero_add, Nat.sub_zero, List.drop_zero, Nat.reduceLT, Nat.reduceEqDiff, Nat.reduceAdd, Nat.reduceMul, Nat.reduceSub, Int.reduceAdd, Int.reduceSub, Nat.reduceLeDiff, Int.reduceLT, Int.reduceLE, Int.reduceEq, Int.reduceNeg, Int.reduceToNat, IntWalk.i64_in, Bool.or_self, Bool.or_false, Bool.or_true, Bool.and_false, Bool.and_true, Bool.false_or, Bool.true_or, Bool.false_eq_true, Bool.true_eq_false, slV_nil])⟩
    · simp [go_sem]
end Go.Proofs.Ytdpdlobaabcjjab
/-
  The statement's function 'FragWhole', walked. No statement of the seat stands here.
-/
namespace Go.Proofs.Ytdpdlobaabcjjab
open Go Go.An
set_option maxRecDepth 4000
set_option linter.unusedSimpArgs false
set_option linter.unusedVariables false

theorem fn3 {b : Bool} {l : List Pc} (pol : Int) (hok : ∀ p ∈ l, PcOk p) (hlen : l.length ≤ 9223372036854775807) (H : Hp) : callL Try.prog pr 3 [slV b pcE l, .int .i64 pol] H = some (.bool true, H) := by
  obtain ⟨ov, h10⟩ := fn10 (b := b) hlen H
  have h11 := known_call
  refine run3 (Nat.le_of_ble_eq_true rfl) ?_
  by_cases hl : l.length ≤ 250
  · have h12 := fun H => fn12 (b := b) pol hok (by omega) H
    have h13 := fun H => fn13 (b := b) pol hok (by omega) H
    rw [← whole_eq pol hok] at h13
    obtain ⟨r, hr⟩ : ∃ r, fragWhole l pol = r := ⟨_, rfl⟩
    obtain ⟨o1, o2, o3⟩ := r
    rw [hr] at h12 h13
    simp only [outV] at h12 h13
    simp (disch := first | rfl | omega | exact byE_w | exact inE_w | exact boE_w | exact stE_w | exact pcE_w | exact celE_w | exact lt_new _ | assumption | (simp only [List.length_append, List.length_singleton, List.length_set, List.length_take, List.length_drop, List.length_map]; done) | (simp only [List.length_append, List.length_singleton, List.length_set, List.length_take, List.length_drop, List.length_map]; omega)) only [r3_0, r3_1, r3_2, r3_3, r3_4, r3_5, c3, rs3, gc3, ↓reduceIte, go_sem, Nat.add_zero, Nat.zero_add, Nat.sub_zero, List.drop_zero, Nat.reduceLT, Nat.reduceEqDiff, Nat.reduceAdd, Nat.reduceMul, Nat.reduceSub, Int.reduceAdd, Int.reduceSub, Nat.reduceLeDiff, Int.reduceLT, Int.reduceLE, Int.reduceEq, Int.reduceNeg, Int.reduceToNat, IntWalk.i64_in, Bool.or_self, Bool.or_false, Bool.or_true, Bool.and_false, Bool.and_true, Bool.false_or, Bool.true_or, Bool.false_eq_true, Bool.true_eq_false, *]
    repeat' ((first | refine guardB_dec (fun hy => ?_) (fun hy => ?_) | refine guardB_bool (fun hy => ?_) (fun hy => ?_) | refine guardQ_ite (fun hy => ?_) (fun hy => ?_) | refine brQ_dec (fun hy => ?_) (fun hy => ?_) | refine brQ_bool (fun hy => ?_) (fun hy => ?_)) <;> (try simp only [Bool.not_eq_true', Bool.not_eq_false', Bool.and_eq_true, Bool.or_eq_false_iff, decide_eq_true_eq, decide_eq_false_iff_not] at hy) <;> simp (disch := first | rfl | omega | exact byE_w | exact inE_w | exact boE_w | exact stE_w | exact pcE_w | exact celE_w | exact lt_new _ | assumption | (simp only [List.length_append, List.length_singleton, List.length_set, List.length_take, List.length_drop, List.length_map]; done) | (simp only [List.length_append, List.length_singleton, List.length_set, List.length_take, List.length_drop, List.length_map]; omega)) only [r3_0, r3_1, r3_2, r3_3, r3_4, r3_5, c3, rs3, gc3, ↓reduceIte, go_sem, Nat.add_zero, Nat.zero_add, Nat.sub_zero, List.drop_zero, Nat.reduceLT, Nat.reduceEqDiff, Nat.reduceAdd, Nat.reduceMul, Nat.reduceSub, Int.reduceAdd, Int.reduceSub, Nat.reduceLeDiff, Int.reduceLT, Int.reduceLE, Int.reduceEq, Int.reduceNeg, Int.reduceToNat, IntWalk.i64_in, Bool.or_self, Bool.or_false, Bool.or_true, Bool.and_false, Bool.and_true, Bool.false_or, Bool.true_or, Bool.false_eq_true, Bool.true_eq_false, *])
    all_goals exact gcF_same rfl
  · have hl' : (250 : Int) < l.length := by omega
    simp (disch := first | rfl | omega | exact byE_w | exact inE_w | exact boE_w | exact stE_w | exact pcE_w | exact celE_w | exact lt_new _ | assumption | (simp only [List.length_append, List.length_singleton, List.length_set, List.length_take, List.length_drop, List.length_map]; done) | (simp only [List.length_append, List.length_singleton, List.length_set, List.length_take, List.length_drop, List.length_map]; omega)) only [r3_0, r3_1, r3_2, r3_3, r3_4, r3_5, c3, rs3, gc3, ↓reduceIte, go_sem, Nat.add_zero, Nat.zero_add, Nat.sub_zero, List.drop_zero, Nat.reduceLT, Nat.reduceEqDiff, Nat.reduceAdd, Nat.reduceMul, Nat.reduceSub, Int.reduceAdd, Int.reduceSub, Nat.reduceLeDiff, Int.reduceLT, Int.reduceLE, Int.reduceEq, Int.reduceNeg, Int.reduceToNat, IntWalk.i64_in, Bool.or_self, Bool.or_false, Bool.or_true, Bool.and_false, Bool.and_true, Bool.false_or, Bool.true_or, Bool.false_eq_true, Bool.true_eq_false, *]
    repeat' ((first | refine guardB_dec (fun hy => ?_) (fun hy => ?_) | refine guardB_bool (fun hy => ?_) (fun hy => ?_) | refine guardQ_ite (fun hy => ?_) (fun hy => ?_) | refine brQ_dec (fun hy => ?_) (fun hy => ?_) | refine brQ_bool (fun hy => ?_) (fun hy => ?_)) <;> (try simp only [Bool.not_eq_true', Bool.not_eq_false', Bool.and_eq_true, Bool.or_eq_false_iff, decide_eq_true_eq, decide_eq_false_iff_not] at hy) <;> simp (disch := first | rfl | omega | exact byE_w | exact inE_w | exact boE_w | exact stE_w | exact pcE_w | exact celE_w | exact lt_new _ | assumption | (simp only [List.length_append, List.length_singleton, List.length_set, List.length_take, List.length_drop, List.length_map]; done) | (simp only [List.length_append, List.length_singleton, List.length_set, List.length_take, List.length_drop, List.length_map]; omega)) only [r3_0, r3_1, r3_2, r3_3, r3_4, r3_5, c3, rs3, gc3, ↓reduceIte, go_sem, Nat.add_zero, Nat.zero_add, Nat.sub_zero, List.drop_zero, Nat.reduceLT, Nat.reduceEqDiff, Nat.reduceAdd, Nat.reduceMul, Nat.reduceSub, Int.reduceAdd, Int.reduceSub, Nat.reduceLeDiff, Int.reduceLT, Int.reduceLE, Int.reduceEq, Int.reduceNeg, Int.reduceToNat, IntWalk.i64_in, Bool.or_self, Bool.or_false, Bool.or_true, Bool.and_false, Bool.and_true, Bool.false_or, Bool.true_or, Bool.false_eq_true, Bool.true_eq_false, *])
    all_goals exact gcF_same rfl
end Go.Proofs.Ytdpdlobaabcjjab
