/-
  Texts of this seat, laid together. No statement of the seat stands here.
-/
import Derived.Test.YtejkgnmjdaohdaaP5
set_option linter.unusedSimpArgs false
set_option linter.unusedVariables false
namespace Go.Proofs.Ytejkgnmjdaohdaa
open Go Go.An
set_option maxRecDepth 4000
theorem ix_str {l : List UInt8} {i : Nat} (h : i < l.length) : indexV Try.prog 9 (.str l) (.int .i64 i) = some (.int .u8 (byE.at l i).toNat) := by
 simp [indexV,u9,byE.at_some h]
theorem fn149 (s : List UInt8) (hs : s.length ≤ 2 ^ 62) (H : Hp) : callL Try.prog pr 149 [.str s] H = some (.bool (txB s),H) := by
 have hl : ∀ H,lenV Try.prog 9 H (.str s) = some (.int .i64 s.length) := fun H => by simp [lenV,u9,hs]
 refine run149 (Nat.le_of_ble_eq_true rfl) ?_
 simp (disch := first | rfl | omega | exact lt_new _ | assumption | decide | (simp [dkS] <;> omega) | fail) only [r149_0,r149_1,r149_2,r149_3,r149_4,r149_5,r149_7,c149,rs149,gc149,go_sem,↓reduceIte,Nat.reduceLT,Nat.reduceEqDiff,Nat.reduceAdd,Nat.reduceMul,Nat.reduceSub,Int.reduceAdd,Int.reduceSub,Nat.reduceLeDiff,Int.reduceLT,Int.reduceLE,Int.reduceEq,Int.reduceNeg,Int.reduceToNat]
 refine Wp_loop (fun m T D H' => ∃ i,m = s.length - i ∧ i ≤ s.length ∧ D = [] ∧ H' = H ∧ get T 0 = .str s ∧ get T 3 = .int .i64 i ∧ (s.take i).any badC = false) ?_ s.length _ _ _ ?_
 ·rintro m T D H' ⟨i,rfl,hi,rfl,rfl,t0,t3,hb⟩
  by_cases hlt : i < s.length
  ·have hlt' : (i : Int) < s.length := by omega
   have hx := ix_str hlt
   obtain ⟨c,hc⟩ : ∃ c,byE.at s i = c := ⟨_,rfl⟩
   rw [hc] at hx
   by_cases hq : badC c = true
   ·have hF : txB s = false := by unfold txB; rw [any_mem byE hlt (by rw [hc]; exact hq)]; simp
    have hq2 : ¬ (c.toNat : Int) < 32 → (126 : Int) < c.toNat := by
     unfold badC at hq; simp at hq; omega
    have hy := True.intro
    repeat' (first | simp (disch := first | rfl | omega | exact lt_new _ | assumption | decide | (simp [dkS] <;> omega) | fail) only [r149_0,r149_1,r149_2,r149_3,r149_4,r149_5,l149_6,r149_7,c149,rs149,gc149,t0,t3,hl,hlt',hx,hF,hq2,go_sem,↓reduceIte,Nat.reduceLT,Nat.reduceEqDiff,Nat.reduceAdd,Nat.reduceMul,Nat.reduceSub,Int.reduceAdd,Int.reduceSub,Nat.reduceLeDiff,Int.reduceLT,Int.reduceLE,Int.reduceEq,Int.reduceNeg,Int.reduceToNat,hy] | ((first | refine guardB_dec (fun hy => ?_) (fun hy => ?_) | refine guardB_bool (fun hy => ?_) (fun hy => ?_) | refine guardQ_ite (fun hy => ?_) (fun hy => ?_) | refine brQ_dec (fun hy => ?_) (fun hy => ?_) | refine brQ_bool (fun hy => ?_) (fun hy => ?_)) <;> (try simp only [Bool.not_eq_true',Bool.not_eq_false',Bool.and_eq_true,Bool.or_eq_false_iff,decide_eq_true_eq,decide_eq_false_iff_not] at hy)))
    all_goals (refine finQ_same ?_; simp (disch := first | rfl | omega | exact lt_new _ | assumption | decide | (simp [dkS] <;> omega) | fail) only [go_sem,↓reduceIte,Nat.reduceLT,Nat.reduceEqDiff,Nat.reduceAdd,Nat.reduceMul,Nat.reduceSub,Int.reduceAdd,Int.reduceSub,Nat.reduceLeDiff,Int.reduceLT,Int.reduceLE,Int.reduceEq,Int.reduceNeg,Int.reduceToNat])
   ·have hn := any_none byE hlt hb (by rw [hc]; simpa using hq)
    have hq1 : ¬ (c.toNat : Int) < 32 := by unfold badC at hq; simp at hq; omega
    have hq2 : ¬ (126 : Int) < c.toNat := by unfold badC at hq; simp at hq; omega
    have hy := True.intro
    repeat' (first | simp (disch := first | rfl | omega | exact lt_new _ | assumption | decide | (simp [dkS] <;> omega) | fail) only [r149_0,r149_1,r149_2,r149_3,r149_4,r149_5,l149_6,r149_7,c149,rs149,gc149,t0,t3,hl,hlt',hx,hq1,hq2,go_sem,↓reduceIte,Nat.reduceLT,Nat.reduceEqDiff,Nat.reduceAdd,Nat.reduceMul,Nat.reduceSub,Int.reduceAdd,Int.reduceSub,Nat.reduceLeDiff,Int.reduceLT,Int.reduceLE,Int.reduceEq,Int.reduceNeg,Int.reduceToNat,hy] | ((first | refine guardB_dec (fun hy => ?_) (fun hy => ?_) | refine guardB_bool (fun hy => ?_) (fun hy => ?_) | refine guardQ_ite (fun hy => ?_) (fun hy => ?_) | refine brQ_dec (fun hy => ?_) (fun hy => ?_) | refine brQ_bool (fun hy => ?_) (fun hy => ?_)) <;> (try simp only [Bool.not_eq_true',Bool.not_eq_false',Bool.and_eq_true,Bool.or_eq_false_iff,decide_eq_true_eq,decide_eq_false_iff_not] at hy)))
    exact ⟨_,by omega,i + 1,rfl,hlt,rfl,hn⟩
  ·obtain rfl : i = s.length := by omega
   rw [List.take_length] at hb
   have e1 : ((s.length : Int) ≤ 200) = (s.length ≤ 200) := by simp; omega
   have hy := True.intro
   repeat' (first | simp (disch := first | rfl | omega | exact lt_new _ | assumption | decide | (simp [dkS] <;> omega) | fail) only [r149_0,r149_1,r149_2,r149_3,r149_4,r149_5,l149_6,r149_7,c149,rs149,gc149,t0,t3,hl,Int.lt_irrefl,go_sem,↓reduceIte,Nat.reduceLT,Nat.reduceEqDiff,Nat.reduceAdd,Nat.reduceMul,Nat.reduceSub,Int.reduceAdd,Int.reduceSub,Nat.reduceLeDiff,Int.reduceLT,Int.reduceLE,Int.reduceEq,Int.reduceNeg,Int.reduceToNat,hy] | ((first | refine guardB_dec (fun hy => ?_) (fun hy => ?_) | refine guardB_bool (fun hy => ?_) (fun hy => ?_) | refine guardQ_ite (fun hy => ?_) (fun hy => ?_) | refine brQ_dec (fun hy => ?_) (fun hy => ?_) | refine brQ_bool (fun hy => ?_) (fun hy => ?_)) <;> (try simp only [Bool.not_eq_true',Bool.not_eq_false',Bool.and_eq_true,Bool.or_eq_false_iff,decide_eq_true_eq,decide_eq_false_iff_not] at hy)))
   refine finQ_same ?_
   simp (disch := first | rfl | omega | exact lt_new _ | assumption | decide | (simp [dkS] <;> omega) | fail) only [go_sem,↓reduceIte,Nat.reduceLT,Nat.reduceEqDiff,Nat.reduceAdd,Nat.reduceMul,Nat.reduceSub,Int.reduceAdd,Int.reduceSub,Nat.reduceLeDiff,Int.reduceLT,Int.reduceLE,Int.reduceEq,Int.reduceNeg,Int.reduceToNat,txB,hb,e1]
 ·exact ⟨0,by simp [go_sem]⟩
theorem fn150 (p : Pk) (hp : PkOk p) (snap : Int) (H : Hp) : callL Try.prog pr 150 [.agg (pkE.f p),.int .i64 snap] H = some (.bool (pkB p snap),H) := by
 have h149 := fn149 p.note (by have := hp.2.2.2.2; omega)
 have hl := hp.2.2.2.1
 refine run150 (Nat.le_of_ble_eq_true rfl) ?_
 unfold pkB
 have hy := True.intro
 repeat' (first | simp (disch := first | rfl | omega | exact lt_new _ | assumption | decide | (simp [dkS] <;> omega) | fail) only [r150_0,r150_1,r150_2,r150_3,c150,rs150,gc150,h149,go_sem,↓reduceIte,Nat.reduceLT,Nat.reduceEqDiff,Nat.reduceAdd,Nat.reduceMul,Nat.reduceSub,Int.reduceAdd,Int.reduceSub,Nat.reduceLeDiff,Int.reduceLT,Int.reduceLE,Int.reduceEq,Int.reduceNeg,Int.reduceToNat,hy] | ((first | refine guardB_dec (fun hy => ?_) (fun hy => ?_) | refine guardB_bool (fun hy => ?_) (fun hy => ?_) | refine guardQ_ite (fun hy => ?_) (fun hy => ?_) | refine brQ_dec (fun hy => ?_) (fun hy => ?_) | refine brQ_bool (fun hy => ?_) (fun hy => ?_)) <;> (try simp only [Bool.not_eq_true',Bool.not_eq_false',Bool.and_eq_true,Bool.or_eq_false_iff,decide_eq_true_eq,decide_eq_false_iff_not] at hy)))
 all_goals (try ((first | refine finQ_same ?_ | refine finQ_app ?_ | (rw [List.append_assoc]; refine finQ_app ?_)) <;> simp (disch := first | rfl | omega | exact lt_new _ | assumption | decide | (simp [dkS] <;> omega) | fail) only [go_sem,↓reduceIte,Nat.reduceLT,Nat.reduceEqDiff,Nat.reduceAdd,Nat.reduceMul,Nat.reduceSub,Int.reduceAdd,Int.reduceSub,Nat.reduceLeDiff,Int.reduceLT,Int.reduceLE,Int.reduceEq,Int.reduceNeg,Int.reduceToNat,List.append_assoc,List.cons_append,List.nil_append, *]))
 all_goals (try first | rfl | (simp [*]; done) | grind)
set_option maxHeartbeats 8000000 in
theorem fn113 (c : Cp) (hc : CpOk c) (H : Hp) : callL Try.prog pr 113 [.agg (cpE.f c)] H = some (.bool (!wrongB c),H) := by
 obtain ⟨o0,o1,o1l,o2,o2l,o3,o3l,o4,o4l⟩ := hc
 have h149 := fn149 c.note (by omega)
 have hwr : ∀ {b : Bool},wrongB c = b → (!wrongB c) = !b := fun h => by rw [h]
 refine run113 (Nat.le_of_ble_eq_true rfl) ?_
 by_cases h0 : txB c.note = true ∧ ¬ (c.faces.length : Int) < 1
 case neg =>
  have hW : wrongB c = true := by
   unfold wrongB
   by_cases h1 : txB c.note = true
   ·have : (c.faces.length : Int) = 0 := by have : ¬ ¬ (c.faces.length : Int) < 1 := fun h => h0 ⟨h1,h⟩; omega
    simp only [this,decide_true,Bool.true_or]
   ·simp [h1]
  have h1 : txB c.note = true → (c.faces.length : Int) < 1 := fun h => by
   by_cases h2 : (c.faces.length : Int) < 1
   ·exact h2
   ·exact absurd ⟨h,h2⟩ h0
  have hy := True.intro
  repeat' (first | simp (disch := first | rfl | omega | exact lt_new _ | assumption | decide | (simp [dkS] <;> omega) | fail) only [r113_0,r113_1,r113_2,c113,rs113,gc113,loadV_ptr,storeV_ptr,tkS,h149,h1,go_sem,↓reduceIte,Nat.reduceLT,Nat.reduceEqDiff,Nat.reduceAdd,Nat.reduceMul,Nat.reduceSub,Int.reduceAdd,Int.reduceSub,Nat.reduceLeDiff,Int.reduceLT,Int.reduceLE,Int.reduceEq,Int.reduceNeg,Int.reduceToNat,hy] | ((first | refine guardB_dec (fun hy => ?_) (fun hy => ?_) | refine guardB_bool (fun hy => ?_) (fun hy => ?_) | refine guardQ_ite (fun hy => ?_) (fun hy => ?_) | refine brQ_dec (fun hy => ?_) (fun hy => ?_) | refine brQ_bool (fun hy => ?_) (fun hy => ?_)) <;> (try simp only [Bool.not_eq_true',Bool.not_eq_false',Bool.and_eq_true,Bool.or_eq_false_iff,decide_eq_true_eq,decide_eq_false_iff_not] at hy)))
  all_goals (refine finQ_app ?_; simp (disch := first | rfl | omega | exact lt_new _ | assumption | decide | (simp [dkS] <;> omega) | fail) only [go_sem,↓reduceIte,Nat.reduceLT,Nat.reduceEqDiff,Nat.reduceAdd,Nat.reduceMul,Nat.reduceSub,Int.reduceAdd,Int.reduceSub,Nat.reduceLeDiff,Int.reduceLT,Int.reduceLE,Int.reduceEq,Int.reduceNeg,Int.reduceToNat,hW])
 obtain ⟨h1,h2⟩ := h0
 have hy := True.intro
 repeat' (first | simp (disch := first | rfl | omega | exact lt_new _ | assumption | decide | (simp [dkS] <;> omega) | fail) only [r113_0,r113_1,r113_3,c113,loadV_ptr,storeV_ptr,tkS,h149,h1,h2,go_sem,↓reduceIte,Nat.reduceLT,Nat.reduceEqDiff,Nat.reduceAdd,Nat.reduceMul,Nat.reduceSub,Int.reduceAdd,Int.reduceSub,Nat.reduceLeDiff,Int.reduceLT,Int.reduceLE,Int.reduceEq,Int.reduceNeg,Int.reduceToNat,hy] | ((first | refine guardB_dec (fun hy => ?_) (fun hy => ?_) | refine guardB_bool (fun hy => ?_) (fun hy => ?_) | refine guardQ_ite (fun hy => ?_) (fun hy => ?_) | refine brQ_dec (fun hy => ?_) (fun hy => ?_) | refine brQ_bool (fun hy => ?_) (fun hy => ?_)) <;> (try simp only [Bool.not_eq_true',Bool.not_eq_false',Bool.and_eq_true,Bool.or_eq_false_iff,decide_eq_true_eq,decide_eq_false_iff_not] at hy)))
 refine Wp_loop (fun m T D H' => ∃ i G,m = c.faces.length - i ∧ i ≤ c.faces.length ∧ D = [] ∧ H' = H ++ .row 0 (cpE.f c) true :: G ∧ get T 1 = .ptr H.length 0 0 ∧ get T 3 = .int .i64 i ∧ (c.faces.take i).any (fun x => !fcB x) = false) ?_ c.faces.length _ _ _ ?_
 case refine_2 =>
  refine ⟨0,_,rfl,by omega,rfl,rfl,?_,?_,rfl⟩
  all_goals simp (disch := first | rfl | omega | exact lt_new _ | assumption | decide | (simp [dkS] <;> omega) | fail) only [go_sem,↓reduceIte,Nat.reduceLT,Nat.reduceEqDiff,Nat.reduceAdd,Nat.reduceMul,Nat.reduceSub,Int.reduceAdd,Int.reduceSub,Nat.reduceLeDiff,Int.reduceLT,Int.reduceLE,Int.reduceEq,Int.reduceNeg,Int.reduceToNat]
  all_goals first | rfl | (simp; done)
 rintro m T D H' ⟨i,G,rfl,hi,rfl,rfl,t1,tt,hb⟩
 by_cases hlt : i < c.faces.length
 ·have hlt' : (i : Int) < c.faces.length := by omega
  have ld := fun H => ldF (H := H) hlt
  have hmem := fcE.at_mem hlt
  obtain ⟨x,hx⟩ : ∃ x,fcE.at c.faces i = x := ⟨_,rfl⟩
  rw [hx] at ld hmem
  have hs1 := fn149 x.name (by have := (o1 _ hmem).1; omega)
  by_cases hq : fcB x = true
  ·have hn := any_none fcE hlt hb (by rw [hx]; simp [hq])
   obtain ⟨⟨⟨⟨g1,g2⟩,g3⟩,g4⟩,g5⟩ : (((txB x.name = true ∧ 0 ≤ x.link) ∧ x.link ≤ 65535) ∧ 0 ≤ x.snap) ∧ x.snap ≤ 400 := by simpa [fcB] using hq
   have n2 : ¬ x.link < 0 := by omega
   have n3 : ¬ 65535 < x.link := by omega
   have n4 : ¬ x.snap < 0 := by omega
   have n5 : ¬ 400 < x.snap := by omega
   have hy := True.intro
   repeat' (first | simp (disch := first | rfl | omega | exact lt_new _ | assumption | decide | (simp [dkS] <;> omega) | fail) only [l113_9,r113_4,r113_5,r113_6,r113_8,loadV_ptr,storeV_ptr,tkS,t1,tt,hlt',ld,hs1,g1,n2,n3,n4,n5,go_sem,↓reduceIte,Nat.reduceLT,Nat.reduceEqDiff,Nat.reduceAdd,Nat.reduceMul,Nat.reduceSub,Int.reduceAdd,Int.reduceSub,Nat.reduceLeDiff,Int.reduceLT,Int.reduceLE,Int.reduceEq,Int.reduceNeg,Int.reduceToNat,hy] | ((first | refine guardB_dec (fun hy => ?_) (fun hy => ?_) | refine guardB_bool (fun hy => ?_) (fun hy => ?_) | refine guardQ_ite (fun hy => ?_) (fun hy => ?_) | refine brQ_dec (fun hy => ?_) (fun hy => ?_) | refine brQ_bool (fun hy => ?_) (fun hy => ?_)) <;> (try simp only [Bool.not_eq_true',Bool.not_eq_false',Bool.and_eq_true,Bool.or_eq_false_iff,decide_eq_true_eq,decide_eq_false_iff_not] at hy)))
   exact ⟨_,by omega,i + 1,_,rfl,hlt,rfl,rfl,hn⟩
  ·have hW : wrongB c = true := by unfold wrongB; rw [any_mem fcE (q := fun x => !fcB x) hlt (by rw [hx]; simp [hq])]; simp
   have n5 : txB x.name = true → ¬ x.link < 0 → ¬ 65535 < x.link → ¬ x.snap < 0 → 400 < x.snap := fun a b c d => by
    by_cases e : 400 < x.snap
    ·exact e
    ·exact absurd (by simp [fcB,a]; omega) hq
   have hy := True.intro
   repeat' (first | simp (disch := first | rfl | omega | exact lt_new _ | assumption | decide | (simp [dkS] <;> omega) | fail) only [l113_9,r113_4,r113_5,r113_6,r113_8,r113_7,rs113,gc113,loadV_ptr,storeV_ptr,tkS,t1,tt,hlt',ld,hs1,n5,go_sem,↓reduceIte,Nat.reduceLT,Nat.reduceEqDiff,Nat.reduceAdd,Nat.reduceMul,Nat.reduceSub,Int.reduceAdd,Int.reduceSub,Nat.reduceLeDiff,Int.reduceLT,Int.reduceLE,Int.reduceEq,Int.reduceNeg,Int.reduceToNat,hy] | ((first | refine guardB_dec (fun hy => ?_) (fun hy => ?_) | refine guardB_bool (fun hy => ?_) (fun hy => ?_) | refine guardQ_ite (fun hy => ?_) (fun hy => ?_) | refine brQ_dec (fun hy => ?_) (fun hy => ?_) | refine brQ_bool (fun hy => ?_) (fun hy => ?_)) <;> (try simp only [Bool.not_eq_true',Bool.not_eq_false',Bool.and_eq_true,Bool.or_eq_false_iff,decide_eq_true_eq,decide_eq_false_iff_not] at hy)))
   all_goals (refine finQ_app ?_; simp (disch := first | rfl | omega | exact lt_new _ | assumption | decide | (simp [dkS] <;> omega) | fail) only [go_sem,↓reduceIte,Nat.reduceLT,Nat.reduceEqDiff,Nat.reduceAdd,Nat.reduceMul,Nat.reduceSub,Int.reduceAdd,Int.reduceSub,Nat.reduceLeDiff,Int.reduceLT,Int.reduceLE,Int.reduceEq,Int.reduceNeg,Int.reduceToNat,hW])
 ·obtain rfl : i = c.faces.length := by omega
  rw [List.take_length] at hb
  have hb0 := hb
  clear hb
  have hy := True.intro
  repeat' (first | simp (disch := first | rfl | omega | exact lt_new _ | assumption | decide | (simp [dkS] <;> omega) | fail) only [l113_9,r113_4,r113_10,loadV_ptr,storeV_ptr,tkS,t1,tt,Int.lt_irrefl,go_sem,↓reduceIte,Nat.reduceLT,Nat.reduceEqDiff,Nat.reduceAdd,Nat.reduceMul,Nat.reduceSub,Int.reduceAdd,Int.reduceSub,Nat.reduceLeDiff,Int.reduceLT,Int.reduceLE,Int.reduceEq,Int.reduceNeg,Int.reduceToNat,hy] | ((first | refine guardB_dec (fun hy => ?_) (fun hy => ?_) | refine guardB_bool (fun hy => ?_) (fun hy => ?_) | refine guardQ_ite (fun hy => ?_) (fun hy => ?_) | refine brQ_dec (fun hy => ?_) (fun hy => ?_) | refine brQ_bool (fun hy => ?_) (fun hy => ?_)) <;> (try simp only [Bool.not_eq_true',Bool.not_eq_false',Bool.and_eq_true,Bool.or_eq_false_iff,decide_eq_true_eq,decide_eq_false_iff_not] at hy)))
  refine Wp_loop (fun m T D H' => ∃ i G,m = c.names.length - i ∧ i ≤ c.names.length ∧ D = [] ∧ H' = H ++ .row 0 (cpE.f c) true :: G ∧ get T 1 = .ptr H.length 0 0 ∧ get T 5 = .int .i64 i ∧ (c.names.take i).any (fun x => !nmB x) = false) ?_ c.names.length _ _ _ ?_
  case refine_2 =>
   refine ⟨0,_,rfl,by omega,rfl,rfl,?_,?_,rfl⟩
   all_goals simp (disch := first | rfl | omega | exact lt_new _ | assumption | decide | (simp [dkS] <;> omega) | fail) only [go_sem,↓reduceIte,Nat.reduceLT,Nat.reduceEqDiff,Nat.reduceAdd,Nat.reduceMul,Nat.reduceSub,Int.reduceAdd,Int.reduceSub,Nat.reduceLeDiff,Int.reduceLT,Int.reduceLE,Int.reduceEq,Int.reduceNeg,Int.reduceToNat,t1]
   all_goals first | rfl | (simp; done)
  clear t1 tt
  rintro m T D H' ⟨i,G,rfl,hi,rfl,rfl,t1,tt,hb⟩
  by_cases hlt : i < c.names.length
  ·have hlt' : (i : Int) < c.names.length := by omega
   have ld := fun H => ldN (H := H) hlt
   have hmem := nmE.at_mem hlt
   obtain ⟨x,hx⟩ : ∃ x,nmE.at c.names i = x := ⟨_,rfl⟩
   rw [hx] at ld hmem
   have hs1 := fn149 x.text (by have := (o2 _ hmem).2; omega)
   have hlb := (o2 _ hmem).1
   by_cases hq : nmB x = true
   ·have hn := any_none nmE hlt hb (by rw [hx]; simp [hq])
    obtain ⟨⟨g1,g2⟩,g3⟩ : (txB x.text = true ∧ 1 ≤ x.addr.length) ∧ x.addr.length ≤ 16 := by simpa [nmB] using hq
    have n2 : ¬ (x.addr.length : Int) < 1 := by omega
    have n3 : ¬ (16 : Int) < x.addr.length := by omega
    have hy := True.intro
    repeat' (first | simp (disch := first | rfl | omega | exact lt_new _ | assumption | decide | (simp [dkS] <;> omega) | fail) only [l113_16,r113_11,r113_12,r113_13,r113_15,loadV_ptr,storeV_ptr,tkS,t1,tt,hlt',ld,hs1,g1,n2,n3,go_sem,↓reduceIte,Nat.reduceLT,Nat.reduceEqDiff,Nat.reduceAdd,Nat.reduceMul,Nat.reduceSub,Int.reduceAdd,Int.reduceSub,Nat.reduceLeDiff,Int.reduceLT,Int.reduceLE,Int.reduceEq,Int.reduceNeg,Int.reduceToNat,hy] | ((first | refine guardB_dec (fun hy => ?_) (fun hy => ?_) | refine guardB_bool (fun hy => ?_) (fun hy => ?_) | refine guardQ_ite (fun hy => ?_) (fun hy => ?_) | refine brQ_dec (fun hy => ?_) (fun hy => ?_) | refine brQ_bool (fun hy => ?_) (fun hy => ?_)) <;> (try simp only [Bool.not_eq_true',Bool.not_eq_false',Bool.and_eq_true,Bool.or_eq_false_iff,decide_eq_true_eq,decide_eq_false_iff_not] at hy)))
    exact ⟨_,by omega,i + 1,_,rfl,hlt,rfl,rfl,hn⟩
   ·have hW : wrongB c = true := by unfold wrongB; rw [any_mem nmE (q := fun x => !nmB x) hlt (by rw [hx]; simp [hq])]; simp
    have n5 : ¬ (x.addr.length : Int) < 1 → ¬ (16 : Int) < x.addr.length → txB x.text = false := fun a b => by
     cases e : txB x.text with
     | false => rfl
     | true => exact absurd (by simp [nmB,e]; omega) hq
    have hy := True.intro
    repeat' (first | simp (disch := first | rfl | omega | exact lt_new _ | assumption | decide | (simp [dkS] <;> omega) | fail) only [l113_16,r113_11,r113_12,r113_13,r113_15,r113_14,rs113,gc113,loadV_ptr,storeV_ptr,tkS,t1,tt,hlt',ld,hs1,n5,go_sem,↓reduceIte,Nat.reduceLT,Nat.reduceEqDiff,Nat.reduceAdd,Nat.reduceMul,Nat.reduceSub,Int.reduceAdd,Int.reduceSub,Nat.reduceLeDiff,Int.reduceLT,Int.reduceLE,Int.reduceEq,Int.reduceNeg,Int.reduceToNat,hy] | ((first | refine guardB_dec (fun hy => ?_) (fun hy => ?_) | refine guardB_bool (fun hy => ?_) (fun hy => ?_) | refine guardQ_ite (fun hy => ?_) (fun hy => ?_) | refine brQ_dec (fun hy => ?_) (fun hy => ?_) | refine brQ_bool (fun hy => ?_) (fun hy => ?_)) <;> (try simp only [Bool.not_eq_true',Bool.not_eq_false',Bool.and_eq_true,Bool.or_eq_false_iff,decide_eq_true_eq,decide_eq_false_iff_not] at hy)))
    all_goals (refine finQ_app ?_; simp (disch := first | rfl | omega | exact lt_new _ | assumption | decide | (simp [dkS] <;> omega) | fail) only [go_sem,↓reduceIte,Nat.reduceLT,Nat.reduceEqDiff,Nat.reduceAdd,Nat.reduceMul,Nat.reduceSub,Int.reduceAdd,Int.reduceSub,Nat.reduceLeDiff,Int.reduceLT,Int.reduceLE,Int.reduceEq,Int.reduceNeg,Int.reduceToNat,hW])
  ·obtain rfl : i = c.names.length := by omega
   rw [List.take_length] at hb
   have hb1 := hb
   clear hb
   have hy := True.intro
   repeat' (first | simp (disch := first | rfl | omega | exact lt_new _ | assumption | decide | (simp [dkS] <;> omega) | fail) only [l113_16,r113_11,r113_17,loadV_ptr,storeV_ptr,tkS,t1,tt,Int.lt_irrefl,go_sem,↓reduceIte,Nat.reduceLT,Nat.reduceEqDiff,Nat.reduceAdd,Nat.reduceMul,Nat.reduceSub,Int.reduceAdd,Int.reduceSub,Nat.reduceLeDiff,Int.reduceLT,Int.reduceLE,Int.reduceEq,Int.reduceNeg,Int.reduceToNat,hy] | ((first | refine guardB_dec (fun hy => ?_) (fun hy => ?_) | refine guardB_bool (fun hy => ?_) (fun hy => ?_) | refine guardQ_ite (fun hy => ?_) (fun hy => ?_) | refine brQ_dec (fun hy => ?_) (fun hy => ?_) | refine brQ_bool (fun hy => ?_) (fun hy => ?_)) <;> (try simp only [Bool.not_eq_true',Bool.not_eq_false',Bool.and_eq_true,Bool.or_eq_false_iff,decide_eq_true_eq,decide_eq_false_iff_not] at hy)))
   refine Wp_loop (fun m T D H' => ∃ i G,m = c.secrets.length - i ∧ i ≤ c.secrets.length ∧ D = [] ∧ H' = H ++ .row 0 (cpE.f c) true :: G ∧ get T 1 = .ptr H.length 0 0 ∧ get T 7 = .int .i64 i ∧ (c.secrets.take i).any (fun x => !scB x) = false) ?_ c.secrets.length _ _ _ ?_
   case refine_2 =>
    refine ⟨0,_,rfl,by omega,rfl,rfl,?_,?_,rfl⟩
    all_goals simp (disch := first | rfl | omega | exact lt_new _ | assumption | decide | (simp [dkS] <;> omega) | fail) only [go_sem,↓reduceIte,Nat.reduceLT,Nat.reduceEqDiff,Nat.reduceAdd,Nat.reduceMul,Nat.reduceSub,Int.reduceAdd,Int.reduceSub,Nat.reduceLeDiff,Int.reduceLT,Int.reduceLE,Int.reduceEq,Int.reduceNeg,Int.reduceToNat,t1]
    all_goals first | rfl | (simp; done)
   clear t1 tt
   rintro m T D H' ⟨i,G,rfl,hi,rfl,rfl,t1,tt,hb⟩
   by_cases hlt : i < c.secrets.length
   ·have hlt' : (i : Int) < c.secrets.length := by omega
    have ld := fun H => ldS (H := H) hlt
    have hmem := scE.at_mem hlt
    obtain ⟨x,hx⟩ : ∃ x,scE.at c.secrets i = x := ⟨_,rfl⟩
    rw [hx] at ld hmem
    have hs1 := fn149 x.label (by have := (o3 _ hmem).1; omega)
    have hlb := (o3 _ hmem).2
    by_cases hq : scB x = true
    ·have hn := any_none scE hlt hb (by rw [hx]; simp [hq])
     obtain ⟨⟨⟨g1,n2⟩,g3⟩,g4⟩ : ((txB x.label = true ∧ ¬ x.label = []) ∧ 1 ≤ x.key.length) ∧ x.key.length ≤ 200 := by simpa [scB] using hq
     have n3 : ¬ (x.key.length : Int) < 1 := by omega
     have n4 : ¬ (200 : Int) < x.key.length := by omega
     have hy := True.intro
     repeat' (first | simp (disch := first | rfl | omega | exact lt_new _ | assumption | decide | (simp [dkS] <;> omega) | fail) only [l113_23,r113_18,r113_19,r113_20,r113_22,loadV_ptr,storeV_ptr,tkS,t1,tt,hlt',ld,hs1,g1,n2,n3,n4,go_sem,↓reduceIte,Nat.reduceLT,Nat.reduceEqDiff,Nat.reduceAdd,Nat.reduceMul,Nat.reduceSub,Int.reduceAdd,Int.reduceSub,Nat.reduceLeDiff,Int.reduceLT,Int.reduceLE,Int.reduceEq,Int.reduceNeg,Int.reduceToNat,hy] | ((first | refine guardB_dec (fun hy => ?_) (fun hy => ?_) | refine guardB_bool (fun hy => ?_) (fun hy => ?_) | refine guardQ_ite (fun hy => ?_) (fun hy => ?_) | refine brQ_dec (fun hy => ?_) (fun hy => ?_) | refine brQ_bool (fun hy => ?_) (fun hy => ?_)) <;> (try simp only [Bool.not_eq_true',Bool.not_eq_false',Bool.and_eq_true,Bool.or_eq_false_iff,decide_eq_true_eq,decide_eq_false_iff_not] at hy)))
     exact ⟨_,by omega,i + 1,_,rfl,hlt,rfl,rfl,hn⟩
    ·have hW : wrongB c = true := by unfold wrongB; rw [any_mem scE (q := fun x => !scB x) hlt (by rw [hx]; simp [hq])]; simp
     have n5 : txB x.label = true → ¬ x.label = [] → ¬ (x.key.length : Int) < 1 → (200 : Int) < x.key.length := fun a b d => by
      by_cases e : (200 : Int) < x.key.length
      ·exact e
      ·exact absurd (by simp [scB,a,b]; omega) hq
     have hy := True.intro
     repeat' (first | simp (disch := first | rfl | omega | exact lt_new _ | assumption | decide | (simp [dkS] <;> omega) | fail) only [l113_23,r113_18,r113_19,r113_20,r113_22,r113_21,rs113,gc113,loadV_ptr,storeV_ptr,tkS,t1,tt,hlt',ld,hs1,n5,go_sem,↓reduceIte,Nat.reduceLT,Nat.reduceEqDiff,Nat.reduceAdd,Nat.reduceMul,Nat.reduceSub,Int.reduceAdd,Int.reduceSub,Nat.reduceLeDiff,Int.reduceLT,Int.reduceLE,Int.reduceEq,Int.reduceNeg,Int.reduceToNat,hy] | ((first | refine guardB_dec (fun hy => ?_) (fun hy => ?_) | refine guardB_bool (fun hy => ?_) (fun hy => ?_) | refine guardQ_ite (fun hy => ?_) (fun hy => ?_) | refine brQ_dec (fun hy => ?_) (fun hy => ?_) | refine brQ_bool (fun hy => ?_) (fun hy => ?_)) <;> (try simp only [Bool.not_eq_true',Bool.not_eq_false',Bool.and_eq_true,Bool.or_eq_false_iff,decide_eq_true_eq,decide_eq_false_iff_not] at hy)))
     all_goals (refine finQ_app ?_; simp (disch := first | rfl | omega | exact lt_new _ | assumption | decide | (simp [dkS] <;> omega) | fail) only [go_sem,↓reduceIte,Nat.reduceLT,Nat.reduceEqDiff,Nat.reduceAdd,Nat.reduceMul,Nat.reduceSub,Int.reduceAdd,Int.reduceSub,Nat.reduceLeDiff,Int.reduceLT,Int.reduceLE,Int.reduceEq,Int.reduceNeg,Int.reduceToNat,hW])
   ·obtain rfl : i = c.secrets.length := by omega
    rw [List.take_length] at hb
    have hb2 := hb
    clear hb
    have hy := True.intro
    repeat' (first | simp (disch := first | rfl | omega | exact lt_new _ | assumption | decide | (simp [dkS] <;> omega) | fail) only [l113_23,r113_18,r113_24,loadV_ptr,storeV_ptr,tkS,t1,tt,Int.lt_irrefl,go_sem,↓reduceIte,Nat.reduceLT,Nat.reduceEqDiff,Nat.reduceAdd,Nat.reduceMul,Nat.reduceSub,Int.reduceAdd,Int.reduceSub,Nat.reduceLeDiff,Int.reduceLT,Int.reduceLE,Int.reduceEq,Int.reduceNeg,Int.reduceToNat,hy] | ((first | refine guardB_dec (fun hy => ?_) (fun hy => ?_) | refine guardB_bool (fun hy => ?_) (fun hy => ?_) | refine guardQ_ite (fun hy => ?_) (fun hy => ?_) | refine brQ_dec (fun hy => ?_) (fun hy => ?_) | refine brQ_bool (fun hy => ?_) (fun hy => ?_)) <;> (try simp only [Bool.not_eq_true',Bool.not_eq_false',Bool.and_eq_true,Bool.or_eq_false_iff,decide_eq_true_eq,decide_eq_false_iff_not] at hy)))
    refine Wp_loop (fun m T D H' => ∃ i G,m = c.packets.length - i ∧ i ≤ c.packets.length ∧ D = [] ∧ H' = H ++ .row 0 (cpE.f c) true :: G ∧ get T 1 = .ptr H.length 0 0 ∧ get T 9 = .int .i64 i ∧ (c.packets.take i).any (fun x => !pfB x c.faces) = false) ?_ c.packets.length _ _ _ ?_
    case refine_2 =>
     refine ⟨0,_,rfl,by omega,rfl,rfl,?_,?_,rfl⟩
     all_goals simp (disch := first | rfl | omega | exact lt_new _ | assumption | decide | (simp [dkS] <;> omega) | fail) only [go_sem,↓reduceIte,Nat.reduceLT,Nat.reduceEqDiff,Nat.reduceAdd,Nat.reduceMul,Nat.reduceSub,Int.reduceAdd,Int.reduceSub,Nat.reduceLeDiff,Int.reduceLT,Int.reduceLE,Int.reduceEq,Int.reduceNeg,Int.reduceToNat,t1]
     all_goals first | rfl | (simp; done)
    clear t1 tt
    rintro m T D H' ⟨i,G,rfl,hi,rfl,rfl,t1,tt,hb⟩
    by_cases hlt : i < c.packets.length
    ·have hlt' : (i : Int) < c.packets.length := by omega
     have ld := fun H => ldP (H := H) hlt
     have hmem := pkE.at_mem hlt
     obtain ⟨x,hx⟩ : ∃ x,pkE.at c.packets i = x := ⟨_,rfl⟩
     rw [hx] at ld hmem
     have hs1 := fn150 x (o4 _ hmem)
     by_cases hq : pfB x c.faces = true
     ·have hn := any_none pkE hlt hb (by rw [hx]; simp [hq])
      obtain ⟨⟨g1,g2⟩,g3⟩ : (0 ≤ x.face ∧ x.face < (c.faces.length : Int)) ∧ pkB x (fcE.at c.faces x.face.toNat).snap = true := by simpa [pfB] using hq
      have n2 : ¬ x.face < 0 := by omega
      have n3 : ¬ (c.faces.length : Int) ≤ x.face := by omega
      have l2 := fun H => ldF2 (H := H) (l := c.faces) (i := x.face.toNat) (by omega)
      have hy := True.intro
      repeat' (first | simp (disch := first | rfl | omega | exact lt_new _ | assumption | decide | (simp [dkS] <;> omega) | fail) only [l113_30,r113_25,r113_26,r113_27,r113_29,loadV_ptr,storeV_ptr,tkS,t1,tt,hlt',ld,hs1,g3,n2,n3,g1,g2,l2,go_sem,↓reduceIte,Nat.reduceLT,Nat.reduceEqDiff,Nat.reduceAdd,Nat.reduceMul,Nat.reduceSub,Int.reduceAdd,Int.reduceSub,Nat.reduceLeDiff,Int.reduceLT,Int.reduceLE,Int.reduceEq,Int.reduceNeg,Int.reduceToNat,hy] | ((first | refine guardB_dec (fun hy => ?_) (fun hy => ?_) | refine guardB_bool (fun hy => ?_) (fun hy => ?_) | refine guardQ_ite (fun hy => ?_) (fun hy => ?_) | refine brQ_dec (fun hy => ?_) (fun hy => ?_) | refine brQ_bool (fun hy => ?_) (fun hy => ?_)) <;> (try simp only [Bool.not_eq_true',Bool.not_eq_false',Bool.and_eq_true,Bool.or_eq_false_iff,decide_eq_true_eq,decide_eq_false_iff_not] at hy)))
      exact ⟨_,by omega,i + 1,_,rfl,hlt,rfl,rfl,hn⟩
     ·have hW : wrongB c = true := by unfold wrongB; rw [any_mem pkE (q := fun x => !pfB x c.faces) hlt (by rw [hx]; simp [hq])]; simp
      have n5 : ∀ (_ : ¬ x.face < 0) (_ : ¬ (c.faces.length : Int) ≤ x.face),pkB x (fcE.at c.faces x.face.toNat).snap = false := fun a b => by
       cases e : pkB x (fcE.at c.faces x.face.toNat).snap with
       | false => rfl
       | true => exact absurd (by simp [pfB,e]; omega) hq
      have l2 := fun H (a : ¬ x.face < 0) (b : ¬ (c.faces.length : Int) ≤ x.face) => ldF2 (H := H) (l := c.faces) (i := x.face.toNat) (by omega)
      have hy := True.intro
      repeat' (first | simp (disch := first | rfl | omega | exact lt_new _ | assumption | decide | (simp [dkS] <;> omega) | fail) only [l113_30,r113_25,r113_26,r113_27,r113_29,r113_28,rs113,gc113,loadV_ptr,storeV_ptr,tkS,t1,tt,hlt',ld,hs1,n5,l2,go_sem,↓reduceIte,Nat.reduceLT,Nat.reduceEqDiff,Nat.reduceAdd,Nat.reduceMul,Nat.reduceSub,Int.reduceAdd,Int.reduceSub,Nat.reduceLeDiff,Int.reduceLT,Int.reduceLE,Int.reduceEq,Int.reduceNeg,Int.reduceToNat,hy] | ((first | refine guardB_dec (fun hy => ?_) (fun hy => ?_) | refine guardB_bool (fun hy => ?_) (fun hy => ?_) | refine guardQ_ite (fun hy => ?_) (fun hy => ?_) | refine brQ_dec (fun hy => ?_) (fun hy => ?_) | refine brQ_bool (fun hy => ?_) (fun hy => ?_)) <;> (try simp only [Bool.not_eq_true',Bool.not_eq_false',Bool.and_eq_true,Bool.or_eq_false_iff,decide_eq_true_eq,decide_eq_false_iff_not] at hy)))
      all_goals (refine finQ_app ?_; simp (disch := first | rfl | omega | exact lt_new _ | assumption | decide | (simp [dkS] <;> omega) | fail) only [go_sem,↓reduceIte,Nat.reduceLT,Nat.reduceEqDiff,Nat.reduceAdd,Nat.reduceMul,Nat.reduceSub,Int.reduceAdd,Int.reduceSub,Nat.reduceLeDiff,Int.reduceLT,Int.reduceLE,Int.reduceEq,Int.reduceNeg,Int.reduceToNat,hW])
    ·obtain rfl : i = c.packets.length := by omega
     rw [List.take_length] at hb
     have hW : wrongB c = false := by
      have hz : ¬ (c.faces.length : Int) = 0 := by omega
      unfold wrongB
      rw [decide_eq_false hz,h1,hb0,hb1,hb2,hb]; rfl
     have hy := True.intro
     repeat' (first | simp (disch := first | rfl | omega | exact lt_new _ | assumption | decide | (simp [dkS] <;> omega) | fail) only [l113_30,r113_25,r113_31,rs113,gc113,loadV_ptr,storeV_ptr,tkS,t1,tt,Int.lt_irrefl,go_sem,↓reduceIte,Nat.reduceLT,Nat.reduceEqDiff,Nat.reduceAdd,Nat.reduceMul,Nat.reduceSub,Int.reduceAdd,Int.reduceSub,Nat.reduceLeDiff,Int.reduceLT,Int.reduceLE,Int.reduceEq,Int.reduceNeg,Int.reduceToNat,hy] | ((first | refine guardB_dec (fun hy => ?_) (fun hy => ?_) | refine guardB_bool (fun hy => ?_) (fun hy => ?_) | refine guardQ_ite (fun hy => ?_) (fun hy => ?_) | refine brQ_dec (fun hy => ?_) (fun hy => ?_) | refine brQ_bool (fun hy => ?_) (fun hy => ?_)) <;> (try simp only [Bool.not_eq_true',Bool.not_eq_false',Bool.and_eq_true,Bool.or_eq_false_iff,decide_eq_true_eq,decide_eq_false_iff_not] at hy)))
     refine finQ_app ?_
     simp (disch := first | rfl | omega | exact lt_new _ | assumption | decide | (simp [dkS] <;> omega) | fail) only [go_sem,↓reduceIte,Nat.reduceLT,Nat.reduceEqDiff,Nat.reduceAdd,Nat.reduceMul,Nat.reduceSub,Int.reduceAdd,Int.reduceSub,Nat.reduceLeDiff,Int.reduceLT,Int.reduceLE,Int.reduceEq,Int.reduceNeg,Int.reduceToNat,hW]
theorem fn63 (c : Cp) (hc : CpOk c) (H : Hp) : callL Try.prog pr 63 [.agg (cpE.f c)] H = some (.int .i64 (valE c),H) := by
 have h113 := fn113 c hc
 refine pur_eq rfl rfl (by simp [go_sem]) rfl ?_
 clear H
 intro H
 refine run63 (Nat.le_of_ble_eq_true rfl) ?_
 unfold valE
 by_cases hL : largeB c = true
 ·rw [if_pos hL]
  unfold largeB at hL
  simp only [Bool.or_eq_true,decide_eq_true_eq] at hL
  have hy := True.intro
  repeat' (first | simp (disch := first | rfl | omega | exact lt_new _ | assumption | decide | (simp [dkS] <;> omega) | fail) only [r63_0,r63_1,r63_2,r63_3,r63_4,r63_5,c63,rs63,gc63,loadV_ptr,storeV_ptr,tkS,h113,go_sem,↓reduceIte,Nat.reduceLT,Nat.reduceEqDiff,Nat.reduceAdd,Nat.reduceMul,Nat.reduceSub,Int.reduceAdd,Int.reduceSub,Nat.reduceLeDiff,Int.reduceLT,Int.reduceLE,Int.reduceEq,Int.reduceNeg,Int.reduceToNat,hy] | ((first | refine guardB_dec (fun hy => ?_) (fun hy => ?_) | refine guardB_bool (fun hy => ?_) (fun hy => ?_) | refine guardQ_ite (fun hy => ?_) (fun hy => ?_) | refine brQ_dec (fun hy => ?_) (fun hy => ?_) | refine brQ_bool (fun hy => ?_) (fun hy => ?_)) <;> (try simp only [Bool.not_eq_true',Bool.not_eq_false',Bool.and_eq_true,Bool.or_eq_false_iff,decide_eq_true_eq,decide_eq_false_iff_not] at hy)))
  all_goals first | (refine finQ_app ?_; simp (disch := first | rfl | omega | exact lt_new _ | assumption | decide | (simp [dkS] <;> omega) | fail) only [go_sem,↓reduceIte,Nat.reduceLT,Nat.reduceEqDiff,Nat.reduceAdd,Nat.reduceMul,Nat.reduceSub,Int.reduceAdd,Int.reduceSub,Nat.reduceLeDiff,Int.reduceLT,Int.reduceLE,Int.reduceEq,Int.reduceNeg,Int.reduceToNat]; done) | omega
 ·rw [if_neg hL]
  unfold largeB at hL
  simp only [Bool.or_eq_true,decide_eq_true_eq,not_or] at hL
  obtain ⟨⟨⟨q1,q2⟩,q3⟩,q4⟩ := hL
  cases hw : wrongB c
  all_goals
   have hy := True.intro
   repeat' (first | simp (disch := first | rfl | omega | exact lt_new _ | assumption | decide | (simp [dkS] <;> omega) | fail) only [r63_0,r63_1,r63_2,r63_3,r63_4,r63_5,c63,rs63,gc63,loadV_ptr,storeV_ptr,tkS,q1,q2,q3,q4,h113,hw,go_sem,↓reduceIte,Nat.reduceLT,Nat.reduceEqDiff,Nat.reduceAdd,Nat.reduceMul,Nat.reduceSub,Int.reduceAdd,Int.reduceSub,Nat.reduceLeDiff,Int.reduceLT,Int.reduceLE,Int.reduceEq,Int.reduceNeg,Int.reduceToNat,hy] | ((first | refine guardB_dec (fun hy => ?_) (fun hy => ?_) | refine guardB_bool (fun hy => ?_) (fun hy => ?_) | refine guardQ_ite (fun hy => ?_) (fun hy => ?_) | refine brQ_dec (fun hy => ?_) (fun hy => ?_) | refine brQ_bool (fun hy => ?_) (fun hy => ?_)) <;> (try simp only [Bool.not_eq_true',Bool.not_eq_false',Bool.and_eq_true,Bool.or_eq_false_iff,decide_eq_true_eq,decide_eq_false_iff_not] at hy)))
   refine finQ_app ?_
   simp (disch := first | rfl | omega | exact lt_new _ | assumption | decide | (simp [dkS] <;> omega) | fail) only [go_sem,↓reduceIte,Nat.reduceLT,Nat.reduceEqDiff,Nat.reduceAdd,Nat.reduceMul,Nat.reduceSub,Int.reduceAdd,Int.reduceSub,Nat.reduceLeDiff,Int.reduceLT,Int.reduceLE,Int.reduceEq,Int.reduceNeg,Int.reduceToNat]
theorem fn21 (c : Cp) (hc : CpOk c) (H : Hp) : ∃ n,callL Try.prog pr 21 [.agg (cpE.f c)] H = some (.int .i64 n,H) := by
 suffices h : ∃ r,callL Try.prog pr 21 [.agg (cpE.f c)] H = some r ∧ ∃ n,r = (.int .i64 n,H) by
  obtain ⟨r,h1,n,rfl⟩ := h; exact ⟨n,h1⟩
 obtain ⟨o0,o1,o1l,o2,o2l,o3,o3l,o4,o4l⟩ := hc
 refine ex21 (Nat.le_of_ble_eq_true rfl) ?_
 simp (disch := first | rfl | omega | exact lt_new _ | assumption | decide | (simp [dkS] <;> omega) | fail) only [r21_0,r21_1,r21_2,c21,loadV_ptr,storeV_ptr,tkS,go_sem,↓reduceIte,Nat.reduceLT,Nat.reduceEqDiff,Nat.reduceAdd,Nat.reduceMul,Nat.reduceSub,Int.reduceAdd,Int.reduceSub,Nat.reduceLeDiff,Int.reduceLT,Int.reduceLE,Int.reduceEq,Int.reduceNeg,Int.reduceToNat]
 refine Wp_loop (fun m T D H' => ∃ i n,m = c.faces.length - i ∧ i ≤ c.faces.length ∧ D = [] ∧ H' = H ++ [.row 0 (cpE.f c) true] ∧ get T 1 = .ptr H.length 0 0 ∧ get T 4 = .int .i64 i ∧ get T 3 = .int .i64 n) ?_ c.faces.length _ _ _ ?_
 case refine_2 => exact ⟨0,_,by simp (disch := first | rfl | omega | exact lt_new _ | assumption | decide | (simp [dkS] <;> omega) | fail) only [go_sem,↓reduceIte,Nat.reduceLT,Nat.reduceEqDiff,Nat.reduceAdd,Nat.reduceMul,Nat.reduceSub,Int.reduceAdd,Int.reduceSub,Nat.reduceLeDiff,Int.reduceLT,Int.reduceLE,Int.reduceEq,Int.reduceNeg,Int.reduceToNat]; simp; rfl⟩
 rintro m T D H' ⟨i,n,rfl,hi,rfl,rfl,t1,ti,t3⟩
 by_cases hlt : i < c.faces.length
 ·have hlt' : (i : Int) < c.faces.length := by omega
  have q1 := (o1 _ (fcE.at_mem hlt)).1
  simp (disch := first | rfl | omega | exact lt_new _ | assumption | decide | (simp [dkS] <;> omega) | fail) only [l21_6,r21_3,r21_4,r21_5,loadV_ptr,storeV_ptr,tkS,t1,ti,t3,hlt',go_sem,↓reduceIte,Nat.reduceLT,Nat.reduceEqDiff,Nat.reduceAdd,Nat.reduceMul,Nat.reduceSub,Int.reduceAdd,Int.reduceSub,Nat.reduceLeDiff,Int.reduceLT,Int.reduceLE,Int.reduceEq,Int.reduceNeg,Int.reduceToNat]
  exact ⟨_,by omega,i + 1,_,rfl,hlt,rfl,rfl⟩
 ·obtain rfl : i = c.faces.length := by omega
  simp (disch := first | rfl | omega | exact lt_new _ | assumption | decide | (simp [dkS] <;> omega) | fail) only [l21_6,r21_3,r21_7,loadV_ptr,storeV_ptr,tkS,t1,ti,t3,Int.lt_irrefl,go_sem,↓reduceIte,Nat.reduceLT,Nat.reduceEqDiff,Nat.reduceAdd,Nat.reduceMul,Nat.reduceSub,Int.reduceAdd,Int.reduceSub,Nat.reduceLeDiff,Int.reduceLT,Int.reduceLE,Int.reduceEq,Int.reduceNeg,Int.reduceToNat]
  refine Wp_loop (fun m T D H' => ∃ i n,m = c.names.length - i ∧ i ≤ c.names.length ∧ D = [] ∧ H' = H ++ [.row 0 (cpE.f c) true] ∧ get T 1 = .ptr H.length 0 0 ∧ get T 5 = .int .i64 i ∧ get T 3 = .int .i64 n) ?_ c.names.length _ _ _ ?_
  case refine_2 => exact ⟨0,_,by simp (disch := first | rfl | omega | exact lt_new _ | assumption | decide | (simp [dkS] <;> omega) | fail) only [go_sem,↓reduceIte,Nat.reduceLT,Nat.reduceEqDiff,Nat.reduceAdd,Nat.reduceMul,Nat.reduceSub,Int.reduceAdd,Int.reduceSub,Nat.reduceLeDiff,Int.reduceLT,Int.reduceLE,Int.reduceEq,Int.reduceNeg,Int.reduceToNat,t1,t3]; simp; rfl⟩
  clear t1 t3 ti
  rintro m T D H' ⟨i,n,rfl,hi,rfl,rfl,t1,ti,t3⟩
  by_cases hlt : i < c.names.length
  ·have hlt' : (i : Int) < c.names.length := by omega
   have q1 := o2 _ (nmE.at_mem hlt)
   have q2 := q1.2
   simp (disch := first | rfl | omega | exact lt_new _ | assumption | decide | (simp [dkS] <;> omega) | fail) only [l21_11,r21_8,r21_9,r21_10,loadV_ptr,storeV_ptr,tkS,t1,ti,t3,hlt',go_sem,↓reduceIte,Nat.reduceLT,Nat.reduceEqDiff,Nat.reduceAdd,Nat.reduceMul,Nat.reduceSub,Int.reduceAdd,Int.reduceSub,Nat.reduceLeDiff,Int.reduceLT,Int.reduceLE,Int.reduceEq,Int.reduceNeg,Int.reduceToNat]
   exact ⟨_,by omega,i + 1,_,rfl,hlt,rfl,rfl⟩
  ·obtain rfl : i = c.names.length := by omega
   simp (disch := first | rfl | omega | exact lt_new _ | assumption | decide | (simp [dkS] <;> omega) | fail) only [l21_11,r21_8,r21_12,loadV_ptr,storeV_ptr,tkS,t1,ti,t3,Int.lt_irrefl,go_sem,↓reduceIte,Nat.reduceLT,Nat.reduceEqDiff,Nat.reduceAdd,Nat.reduceMul,Nat.reduceSub,Int.reduceAdd,Int.reduceSub,Nat.reduceLeDiff,Int.reduceLT,Int.reduceLE,Int.reduceEq,Int.reduceNeg,Int.reduceToNat]
   refine Wp_loop (fun m T D H' => ∃ i n,m = c.secrets.length - i ∧ i ≤ c.secrets.length ∧ D = [] ∧ H' = H ++ [.row 0 (cpE.f c) true] ∧ get T 1 = .ptr H.length 0 0 ∧ get T 6 = .int .i64 i ∧ get T 3 = .int .i64 n) ?_ c.secrets.length _ _ _ ?_
   case refine_2 => exact ⟨0,_,by simp (disch := first | rfl | omega | exact lt_new _ | assumption | decide | (simp [dkS] <;> omega) | fail) only [go_sem,↓reduceIte,Nat.reduceLT,Nat.reduceEqDiff,Nat.reduceAdd,Nat.reduceMul,Nat.reduceSub,Int.reduceAdd,Int.reduceSub,Nat.reduceLeDiff,Int.reduceLT,Int.reduceLE,Int.reduceEq,Int.reduceNeg,Int.reduceToNat,t1,t3]; simp; rfl⟩
   clear t1 t3 ti
   rintro m T D H' ⟨i,n,rfl,hi,rfl,rfl,t1,ti,t3⟩
   by_cases hlt : i < c.secrets.length
   ·have hlt' : (i : Int) < c.secrets.length := by omega
    have q1 := (o3 _ (scE.at_mem hlt)).1
    simp (disch := first | rfl | omega | exact lt_new _ | assumption | decide | (simp [dkS] <;> omega) | fail) only [l21_16,r21_13,r21_14,r21_15,loadV_ptr,storeV_ptr,tkS,t1,ti,t3,hlt',go_sem,↓reduceIte,Nat.reduceLT,Nat.reduceEqDiff,Nat.reduceAdd,Nat.reduceMul,Nat.reduceSub,Int.reduceAdd,Int.reduceSub,Nat.reduceLeDiff,Int.reduceLT,Int.reduceLE,Int.reduceEq,Int.reduceNeg,Int.reduceToNat]
    exact ⟨_,by omega,i + 1,_,rfl,hlt,rfl,rfl⟩
   ·obtain rfl : i = c.secrets.length := by omega
    simp (disch := first | rfl | omega | exact lt_new _ | assumption | decide | (simp [dkS] <;> omega) | fail) only [l21_16,r21_13,r21_17,loadV_ptr,storeV_ptr,tkS,t1,ti,t3,Int.lt_irrefl,go_sem,↓reduceIte,Nat.reduceLT,Nat.reduceEqDiff,Nat.reduceAdd,Nat.reduceMul,Nat.reduceSub,Int.reduceAdd,Int.reduceSub,Nat.reduceLeDiff,Int.reduceLT,Int.reduceLE,Int.reduceEq,Int.reduceNeg,Int.reduceToNat]
    refine Wp_loop (fun m T D H' => ∃ i n,m = c.packets.length - i ∧ i ≤ c.packets.length ∧ D = [] ∧ H' = H ++ [.row 0 (cpE.f c) true] ∧ get T 1 = .ptr H.length 0 0 ∧ get T 7 = .int .i64 i ∧ get T 3 = .int .i64 n) ?_ c.packets.length _ _ _ ?_
    case refine_2 => exact ⟨0,_,by simp (disch := first | rfl | omega | exact lt_new _ | assumption | decide | (simp [dkS] <;> omega) | fail) only [go_sem,↓reduceIte,Nat.reduceLT,Nat.reduceEqDiff,Nat.reduceAdd,Nat.reduceMul,Nat.reduceSub,Int.reduceAdd,Int.reduceSub,Nat.reduceLeDiff,Int.reduceLT,Int.reduceLE,Int.reduceEq,Int.reduceNeg,Int.reduceToNat,t1,t3]; simp; rfl⟩
    clear t1 t3 ti
    rintro m T D H' ⟨i,n,rfl,hi,rfl,rfl,t1,ti,t3⟩
    by_cases hlt : i < c.packets.length
    ·have hlt' : (i : Int) < c.packets.length := by omega
     have q1 := (o4 _ (pkE.at_mem hlt)).2.2.2.2
     simp (disch := first | rfl | omega | exact lt_new _ | assumption | decide | (simp [dkS] <;> omega) | fail) only [l21_21,r21_18,r21_19,r21_20,loadV_ptr,storeV_ptr,tkS,t1,ti,t3,hlt',go_sem,↓reduceIte,Nat.reduceLT,Nat.reduceEqDiff,Nat.reduceAdd,Nat.reduceMul,Nat.reduceSub,Int.reduceAdd,Int.reduceSub,Nat.reduceLeDiff,Int.reduceLT,Int.reduceLE,Int.reduceEq,Int.reduceNeg,Int.reduceToNat]
     exact ⟨_,by omega,i + 1,_,rfl,hlt,rfl,rfl⟩
    ·obtain rfl : i = c.packets.length := by omega
     simp (disch := first | rfl | omega | exact lt_new _ | assumption | decide | (simp [dkS] <;> omega) | fail) only [l21_21,r21_18,r21_22,rs21,gc21,loadV_ptr,storeV_ptr,tkS,t1,ti,t3,Int.lt_irrefl,go_sem,↓reduceIte,Nat.reduceLT,Nat.reduceEqDiff,Nat.reduceAdd,Nat.reduceMul,Nat.reduceSub,Int.reduceAdd,Int.reduceSub,Nat.reduceLeDiff,Int.reduceLT,Int.reduceLE,Int.reduceEq,Int.reduceNeg,Int.reduceToNat]
     exact ⟨n,finQ_app (by simp (disch := first | rfl | omega | exact lt_new _ | assumption | decide | (simp [dkS] <;> omega) | fail) only [go_sem,↓reduceIte,Nat.reduceLT,Nat.reduceEqDiff,Nat.reduceAdd,Nat.reduceMul,Nat.reduceSub,Int.reduceAdd,Int.reduceSub,Nat.reduceLeDiff,Int.reduceLT,Int.reduceLE,Int.reduceEq,Int.reduceNeg,Int.reduceToNat])⟩
theorem fn64 {b b' : Bool} {l l' : List UInt8} (H : Hp) : callL Try.prog pr 64 [slV b byE l,slV b' byE l'] H = some (.bool (decide (l = l')),H) := by
 refine run64 (Nat.le_of_ble_eq_true rfl) ?_
 have hy := True.intro
 repeat' (first | simp (disch := first | rfl | omega | exact lt_new _ | assumption | decide | (simp [dkS] <;> omega) | fail) only [r64_0,r64_1,c64,rs64,gc64,go_sem,↓reduceIte,Nat.reduceLT,Nat.reduceEqDiff,Nat.reduceAdd,Nat.reduceMul,Nat.reduceSub,Int.reduceAdd,Int.reduceSub,Nat.reduceLeDiff,Int.reduceLT,Int.reduceLE,Int.reduceEq,Int.reduceNeg,Int.reduceToNat,hy] | ((first | refine guardB_dec (fun hy => ?_) (fun hy => ?_) | refine guardB_bool (fun hy => ?_) (fun hy => ?_) | refine guardQ_ite (fun hy => ?_) (fun hy => ?_) | refine brQ_dec (fun hy => ?_) (fun hy => ?_) | refine brQ_bool (fun hy => ?_) (fun hy => ?_)) <;> (try simp only [Bool.not_eq_true',Bool.not_eq_false',Bool.and_eq_true,Bool.or_eq_false_iff,decide_eq_true_eq,decide_eq_false_iff_not] at hy)))
 all_goals (try ((first | refine finQ_same ?_ | refine finQ_app ?_ | (rw [List.append_assoc]; refine finQ_app ?_)) <;> simp (disch := first | rfl | omega | exact lt_new _ | assumption | decide | (simp [dkS] <;> omega) | fail) only [go_sem,↓reduceIte,Nat.reduceLT,Nat.reduceEqDiff,Nat.reduceAdd,Nat.reduceMul,Nat.reduceSub,Int.reduceAdd,Int.reduceSub,Nat.reduceLeDiff,Int.reduceLT,Int.reduceLE,Int.reduceEq,Int.reduceNeg,Int.reduceToNat,List.append_assoc,List.cons_append,List.nil_append, *]))
 all_goals (try first | rfl | (simp [*]; done) | grind)
def pkS (p q : Pk) : Bool := decide (p.time = q.time) && decide (p.face = q.face) && decide (p.real = q.real) && decide (p.note = q.note) && decide (p.data = q.data)
def nmS (p q : Nm) : Bool := decide (p.text = q.text) && decide (p.addr = q.addr)
def scS (p q : Sc) : Bool := decide (p.label = q.label) && decide (p.key = q.key)
def fcS (p q : Fc) : Bool := decide (p = q)
def sameB (c d : Cp) : Bool := decide (c.note = d.note) && sameL fcS c.faces d.faces && sameL nmS c.names d.names && sameL scS c.secrets d.secrets && sameL pkS c.packets d.packets
theorem fn65 (p q : Pk) (H : Hp) : callL Try.prog pr 65 [.agg (pkE.f p),.agg (pkE.f q)] H = some (.bool (pkS p q),H) := by
 have h64 := fun H => fn64 (b := p.dataN) (b' := q.dataN) (l := p.data) (l' := q.data) H
 refine run65 (Nat.le_of_ble_eq_true rfl) ?_
 unfold pkS
 have hy := True.intro
 repeat' (first | simp (disch := first | rfl | omega | exact lt_new _ | assumption | decide | (simp [dkS] <;> omega) | fail) only [r65_0,r65_1,c65,rs65,gc65,h64,go_sem,↓reduceIte,Nat.reduceLT,Nat.reduceEqDiff,Nat.reduceAdd,Nat.reduceMul,Nat.reduceSub,Int.reduceAdd,Int.reduceSub,Nat.reduceLeDiff,Int.reduceLT,Int.reduceLE,Int.reduceEq,Int.reduceNeg,Int.reduceToNat,hy] | ((first | refine guardB_dec (fun hy => ?_) (fun hy => ?_) | refine guardB_bool (fun hy => ?_) (fun hy => ?_) | refine guardQ_ite (fun hy => ?_) (fun hy => ?_) | refine brQ_dec (fun hy => ?_) (fun hy => ?_) | refine brQ_bool (fun hy => ?_) (fun hy => ?_)) <;> (try simp only [Bool.not_eq_true',Bool.not_eq_false',Bool.and_eq_true,Bool.or_eq_false_iff,decide_eq_true_eq,decide_eq_false_iff_not] at hy)))
 all_goals (try ((first | refine finQ_same ?_ | refine finQ_app ?_ | (rw [List.append_assoc]; refine finQ_app ?_)) <;> simp (disch := first | rfl | omega | exact lt_new _ | assumption | decide | (simp [dkS] <;> omega) | fail) only [go_sem,↓reduceIte,Nat.reduceLT,Nat.reduceEqDiff,Nat.reduceAdd,Nat.reduceMul,Nat.reduceSub,Int.reduceAdd,Int.reduceSub,Nat.reduceLeDiff,Int.reduceLT,Int.reduceLE,Int.reduceEq,Int.reduceNeg,Int.reduceToNat,List.append_assoc,List.cons_append,List.nil_append, *]))
 all_goals (try first | rfl | (simp [*]; done) | grind)
@[go_sem] theorem ck_fcE (x : Fc) : ckOks [.str,.int .i64,.int .i64] (fcE.f x) = true := rfl
@[go_sem] theorem eq_fcE (x y : Fc) : eqCells (fcE.f x) (fcE.f y) = fcS x y := by
 obtain ⟨a,b,c⟩ := x
 obtain ⟨a',b',c'⟩ := y
 simp only [fcE_f,fcS,eqCells_cons,eqCells_nil,eqCell_str,eqCell_int,Fc.mk.injEq,Bool.decide_and,Bool.and_true]
def Fits (c : Cp) : Prop := c.faces.length ≤ 2 ^ 62 ∧ c.names.length ≤ 2 ^ 62 ∧ c.secrets.length ≤ 2 ^ 62 ∧ c.packets.length ≤ 2 ^ 62
theorem CpOk.fits {c : Cp} (h : CpOk c) : Fits c := by
 obtain ⟨o0,o1,o1l,o2,o2l,o3,o3l,o4,o4l⟩ := h
 exact ⟨by omega,by omega,by omega,by omega⟩
set_option maxHeartbeats 8000000 in
theorem fn18 (c d : Cp) (hF : Fits c) (H : Hp) : callL Try.prog pr 18 [.agg (cpE.f c),.agg (cpE.f d)] H = some (.bool (sameB c d),H) := by
 obtain ⟨f1,f2,f3,f4⟩ := hF
 refine pur_eq rfl rfl (by simp [go_sem]) rfl ?_
 clear H
 intro H
 refine run18 (Nat.le_of_ble_eq_true rfl) ?_
 by_cases hg : c.note = d.note ∧ (c.faces.length : Int) = d.faces.length ∧ (c.names.length : Int) = d.names.length ∧ (c.secrets.length : Int) = d.secrets.length ∧ (c.packets.length : Int) = d.packets.length
 case neg =>
  have hS : sameB c d = false := by
   unfold sameB
   by_cases h0 : c.note = d.note
   ·by_cases h1 : c.faces.length = d.faces.length
    ·by_cases h2 : c.names.length = d.names.length
     ·by_cases h3 : c.secrets.length = d.secrets.length
      ·rw [sameL_len (l := c.packets) (fun e => hg ⟨h0,by omega,by omega,by omega,by omega⟩)]; simp
      ·rw [sameL_len (l := c.secrets) h3]; simp
     ·rw [sameL_len (l := c.names) h2]; simp
    ·rw [sameL_len (l := c.faces) h1]; simp
   ·simp [h0]
  rw [hS]
  have g5 : c.note = d.note → (c.faces.length : Int) = d.faces.length → (c.names.length : Int) = d.names.length → (c.secrets.length : Int) = d.secrets.length → ¬ (c.packets.length : Int) = d.packets.length := fun a b e f g => hg ⟨a,b,e,f,g⟩
  have hy := True.intro
  repeat' (first | simp (disch := first | rfl | omega | exact lt_new _ | assumption | decide | (simp [dkS] <;> omega) | fail) only [r18_0,r18_1,r18_2,c18,rs18,gc18,loadV_ptr,storeV_ptr,tkS,g5,go_sem,↓reduceIte,Nat.reduceLT,Nat.reduceEqDiff,Nat.reduceAdd,Nat.reduceMul,Nat.reduceSub,Int.reduceAdd,Int.reduceSub,Nat.reduceLeDiff,Int.reduceLT,Int.reduceLE,Int.reduceEq,Int.reduceNeg,Int.reduceToNat,hy] | ((first | refine guardB_dec (fun hy => ?_) (fun hy => ?_) | refine guardB_bool (fun hy => ?_) (fun hy => ?_) | refine guardQ_ite (fun hy => ?_) (fun hy => ?_) | refine brQ_dec (fun hy => ?_) (fun hy => ?_) | refine brQ_bool (fun hy => ?_) (fun hy => ?_)) <;> (try simp only [Bool.not_eq_true',Bool.not_eq_false',Bool.and_eq_true,Bool.or_eq_false_iff,decide_eq_true_eq,decide_eq_false_iff_not] at hy)))
  all_goals (refine finQ_app ?_; simp (disch := first | rfl | omega | exact lt_new _ | assumption | decide | (simp [dkS] <;> omega) | fail) only [go_sem,↓reduceIte,Nat.reduceLT,Nat.reduceEqDiff,Nat.reduceAdd,Nat.reduceMul,Nat.reduceSub,Int.reduceAdd,Int.reduceSub,Nat.reduceLeDiff,Int.reduceLT,Int.reduceLE,Int.reduceEq,Int.reduceNeg,Int.reduceToNat])
 obtain ⟨g1,g2,g3,g4,g5⟩ := hg
 have hy := True.intro
 repeat' (first | simp (disch := first | rfl | omega | exact lt_new _ | assumption | decide | (simp [dkS] <;> omega) | fail) only [r18_0,r18_1,r18_3,c18,loadV_ptr,storeV_ptr,tkS,g1,g2,g3,g4,g5,go_sem,↓reduceIte,Nat.reduceLT,Nat.reduceEqDiff,Nat.reduceAdd,Nat.reduceMul,Nat.reduceSub,Int.reduceAdd,Int.reduceSub,Nat.reduceLeDiff,Int.reduceLT,Int.reduceLE,Int.reduceEq,Int.reduceNeg,Int.reduceToNat,hy] | ((first | refine guardB_dec (fun hy => ?_) (fun hy => ?_) | refine guardB_bool (fun hy => ?_) (fun hy => ?_) | refine guardQ_ite (fun hy => ?_) (fun hy => ?_) | refine brQ_dec (fun hy => ?_) (fun hy => ?_) | refine brQ_bool (fun hy => ?_) (fun hy => ?_)) <;> (try simp only [Bool.not_eq_true',Bool.not_eq_false',Bool.and_eq_true,Bool.or_eq_false_iff,decide_eq_true_eq,decide_eq_false_iff_not] at hy)))
 refine Wp_loop (fun m T D H' => ∃ i,m = c.faces.length - i ∧ i ≤ c.faces.length ∧ D = [] ∧ H' = H ++ [.row 0 (cpE.f c) true] ∧ get T 2 = .ptr H.length 0 0 ∧ get T 3 = .ipt (cpE.f d) 0 ∧ get T 5 = .int .i64 i ∧ sameL fcS c.faces d.faces = sameL fcS (c.faces.drop i) (d.faces.drop i)) ?_ c.faces.length _ _ _ ?_
 case refine_2 => exact ⟨0,by simp (disch := first | rfl | omega | exact lt_new _ | assumption | decide | (simp [dkS] <;> omega) | fail) only [go_sem,↓reduceIte,Nat.reduceLT,Nat.reduceEqDiff,Nat.reduceAdd,Nat.reduceMul,Nat.reduceSub,Int.reduceAdd,Int.reduceSub,Nat.reduceLeDiff,Int.reduceLT,Int.reduceLE,Int.reduceEq,Int.reduceNeg,Int.reduceToNat]; simp⟩
 rintro m T D H' ⟨i,rfl,hi,rfl,rfl,t2,t3,ti,hs⟩
 by_cases hlt : i < c.faces.length
 ·have hlt' : (i : Int) < c.faces.length := by omega
  have hlt2 : (i : Int) < d.faces.length := by omega
  have hlt3 : i < d.faces.length := by omega
  rw [sameL_drop fcE hlt hlt3] at hs
  obtain ⟨x,hx⟩ : ∃ x,fcE.at c.faces i = x := ⟨_,rfl⟩
  obtain ⟨y,hy2⟩ : ∃ x,fcE.at d.faces i = x := ⟨_,rfl⟩
  rw [hx,hy2] at hs
  by_cases hq : fcS x y = true
  ·rw [hq,Bool.true_and] at hs
   have hy := True.intro
   repeat' (first | simp (disch := first | rfl | omega | exact lt_new _ | assumption | decide | (simp [dkS] <;> omega) | fail) only [l18_8,r18_4,r18_5,r18_7,loadV_ptr,storeV_ptr,tkS,t2,t3,ti,hlt',hx,hy2,hq,go_sem,↓reduceIte,Nat.reduceLT,Nat.reduceEqDiff,Nat.reduceAdd,Nat.reduceMul,Nat.reduceSub,Int.reduceAdd,Int.reduceSub,Nat.reduceLeDiff,Int.reduceLT,Int.reduceLE,Int.reduceEq,Int.reduceNeg,Int.reduceToNat,hy] | ((first | refine guardB_dec (fun hy => ?_) (fun hy => ?_) | refine guardB_bool (fun hy => ?_) (fun hy => ?_) | refine guardQ_ite (fun hy => ?_) (fun hy => ?_) | refine brQ_dec (fun hy => ?_) (fun hy => ?_) | refine brQ_bool (fun hy => ?_) (fun hy => ?_)) <;> (try simp only [Bool.not_eq_true',Bool.not_eq_false',Bool.and_eq_true,Bool.or_eq_false_iff,decide_eq_true_eq,decide_eq_false_iff_not] at hy)))
   exact ⟨_,by omega,i + 1,rfl,hlt,rfl,hs⟩
  ·have hS : sameB c d = false := by unfold sameB; rw [hs,Bool.eq_false_iff.2 hq]; simp
   have hy := True.intro
   repeat' (first | simp (disch := first | rfl | omega | exact lt_new _ | assumption | decide | (simp [dkS] <;> omega) | fail) only [l18_8,r18_4,r18_5,r18_7,r18_6,rs18,gc18,loadV_ptr,storeV_ptr,tkS,t2,t3,ti,hlt',hx,hy2,hq,go_sem,↓reduceIte,Nat.reduceLT,Nat.reduceEqDiff,Nat.reduceAdd,Nat.reduceMul,Nat.reduceSub,Int.reduceAdd,Int.reduceSub,Nat.reduceLeDiff,Int.reduceLT,Int.reduceLE,Int.reduceEq,Int.reduceNeg,Int.reduceToNat,hy] | ((first | refine guardB_dec (fun hy => ?_) (fun hy => ?_) | refine guardB_bool (fun hy => ?_) (fun hy => ?_) | refine guardQ_ite (fun hy => ?_) (fun hy => ?_) | refine brQ_dec (fun hy => ?_) (fun hy => ?_) | refine brQ_bool (fun hy => ?_) (fun hy => ?_)) <;> (try simp only [Bool.not_eq_true',Bool.not_eq_false',Bool.and_eq_true,Bool.or_eq_false_iff,decide_eq_true_eq,decide_eq_false_iff_not] at hy)))
   all_goals (refine finQ_app ?_; simp (disch := first | rfl | omega | exact lt_new _ | assumption | decide | (simp [dkS] <;> omega) | fail) only [go_sem,↓reduceIte,Nat.reduceLT,Nat.reduceEqDiff,Nat.reduceAdd,Nat.reduceMul,Nat.reduceSub,Int.reduceAdd,Int.reduceSub,Nat.reduceLeDiff,Int.reduceLT,Int.reduceLE,Int.reduceEq,Int.reduceNeg,Int.reduceToNat,hS])
 ·obtain rfl : i = c.faces.length := by omega
  have hs0 : sameL fcS c.faces d.faces = true := by rw [hs,List.drop_length,List.drop_eq_nil_of_le (by omega)]; rfl
  clear hs
  simp (disch := first | rfl | omega | exact lt_new _ | assumption | decide | (simp [dkS] <;> omega) | fail) only [l18_8,r18_4,r18_9,loadV_ptr,storeV_ptr,tkS,t2,t3,ti,Int.lt_irrefl,go_sem,↓reduceIte,Nat.reduceLT,Nat.reduceEqDiff,Nat.reduceAdd,Nat.reduceMul,Nat.reduceSub,Int.reduceAdd,Int.reduceSub,Nat.reduceLeDiff,Int.reduceLT,Int.reduceLE,Int.reduceEq,Int.reduceNeg,Int.reduceToNat]
  refine Wp_loop (fun m T D H' => ∃ i,m = c.names.length - i ∧ i ≤ c.names.length ∧ D = [] ∧ H' = H ++ [.row 0 (cpE.f c) true] ∧ get T 2 = .ptr H.length 0 0 ∧ get T 3 = .ipt (cpE.f d) 0 ∧ get T 6 = .int .i64 i ∧ sameL nmS c.names d.names = sameL nmS (c.names.drop i) (d.names.drop i)) ?_ c.names.length _ _ _ ?_
  case refine_2 => exact ⟨0,by simp (disch := first | rfl | omega | exact lt_new _ | assumption | decide | (simp [dkS] <;> omega) | fail) only [go_sem,↓reduceIte,Nat.reduceLT,Nat.reduceEqDiff,Nat.reduceAdd,Nat.reduceMul,Nat.reduceSub,Int.reduceAdd,Int.reduceSub,Nat.reduceLeDiff,Int.reduceLT,Int.reduceLE,Int.reduceEq,Int.reduceNeg,Int.reduceToNat,t2,t3]; simp⟩
  clear t2 t3 ti
  rintro m T D H' ⟨i,rfl,hi,rfl,rfl,t2,t3,ti,hs⟩
  by_cases hlt : i < c.names.length
  ·have hlt' : (i : Int) < c.names.length := by omega
   have hlt2 : (i : Int) < d.names.length := by omega
   have hlt3 : i < d.names.length := by omega
   rw [sameL_drop nmE hlt hlt3] at hs
   obtain ⟨x,hx⟩ : ∃ x,nmE.at c.names i = x := ⟨_,rfl⟩
   obtain ⟨y,hy2⟩ : ∃ x,nmE.at d.names i = x := ⟨_,rfl⟩
   rw [hx,hy2] at hs
   by_cases hq : nmS x y = true
   ·rw [hq,Bool.true_and] at hs
    obtain ⟨q1,q2⟩ : x.text = y.text ∧ x.addr = y.addr := by simpa [nmS] using hq
    have hy := True.intro
    repeat' (first | simp (disch := first | rfl | omega | exact lt_new _ | assumption | decide | (simp [dkS] <;> omega) | fail) only [l18_14,r18_10,r18_11,r18_13,loadV_ptr,storeV_ptr,tkS,t2,t3,ti,hlt',hx,hy2,q1,q2,fn64,go_sem,↓reduceIte,Nat.reduceLT,Nat.reduceEqDiff,Nat.reduceAdd,Nat.reduceMul,Nat.reduceSub,Int.reduceAdd,Int.reduceSub,Nat.reduceLeDiff,Int.reduceLT,Int.reduceLE,Int.reduceEq,Int.reduceNeg,Int.reduceToNat,hy] | ((first | refine guardB_dec (fun hy => ?_) (fun hy => ?_) | refine guardB_bool (fun hy => ?_) (fun hy => ?_) | refine guardQ_ite (fun hy => ?_) (fun hy => ?_) | refine brQ_dec (fun hy => ?_) (fun hy => ?_) | refine brQ_bool (fun hy => ?_) (fun hy => ?_)) <;> (try simp only [Bool.not_eq_true',Bool.not_eq_false',Bool.and_eq_true,Bool.or_eq_false_iff,decide_eq_true_eq,decide_eq_false_iff_not] at hy)))
    exact ⟨_,by omega,i + 1,rfl,hlt,rfl,hs⟩
   ·have hS : sameB c d = false := by unfold sameB; rw [hs,Bool.eq_false_iff.2 hq]; simp
    have q2 : x.text = y.text → ¬ x.addr = y.addr := fun a b => hq (by simp [nmS,a,b])
    have hy := True.intro
    repeat' (first | simp (disch := first | rfl | omega | exact lt_new _ | assumption | decide | (simp [dkS] <;> omega) | fail) only [l18_14,r18_10,r18_11,r18_13,r18_12,rs18,gc18,loadV_ptr,storeV_ptr,tkS,t2,t3,ti,hlt',hx,hy2,q2,fn64,go_sem,↓reduceIte,Nat.reduceLT,Nat.reduceEqDiff,Nat.reduceAdd,Nat.reduceMul,Nat.reduceSub,Int.reduceAdd,Int.reduceSub,Nat.reduceLeDiff,Int.reduceLT,Int.reduceLE,Int.reduceEq,Int.reduceNeg,Int.reduceToNat,hy] | ((first | refine guardB_dec (fun hy => ?_) (fun hy => ?_) | refine guardB_bool (fun hy => ?_) (fun hy => ?_) | refine guardQ_ite (fun hy => ?_) (fun hy => ?_) | refine brQ_dec (fun hy => ?_) (fun hy => ?_) | refine brQ_bool (fun hy => ?_) (fun hy => ?_)) <;> (try simp only [Bool.not_eq_true',Bool.not_eq_false',Bool.and_eq_true,Bool.or_eq_false_iff,decide_eq_true_eq,decide_eq_false_iff_not] at hy)))
    all_goals (refine finQ_app ?_; simp (disch := first | rfl | omega | exact lt_new _ | assumption | decide | (simp [dkS] <;> omega) | fail) only [go_sem,↓reduceIte,Nat.reduceLT,Nat.reduceEqDiff,Nat.reduceAdd,Nat.reduceMul,Nat.reduceSub,Int.reduceAdd,Int.reduceSub,Nat.reduceLeDiff,Int.reduceLT,Int.reduceLE,Int.reduceEq,Int.reduceNeg,Int.reduceToNat,hS])
  ·obtain rfl : i = c.names.length := by omega
   have hs1 : sameL nmS c.names d.names = true := by rw [hs,List.drop_length,List.drop_eq_nil_of_le (by omega)]; rfl
   clear hs
   simp (disch := first | rfl | omega | exact lt_new _ | assumption | decide | (simp [dkS] <;> omega) | fail) only [l18_14,r18_10,r18_15,loadV_ptr,storeV_ptr,tkS,t2,t3,ti,Int.lt_irrefl,go_sem,↓reduceIte,Nat.reduceLT,Nat.reduceEqDiff,Nat.reduceAdd,Nat.reduceMul,Nat.reduceSub,Int.reduceAdd,Int.reduceSub,Nat.reduceLeDiff,Int.reduceLT,Int.reduceLE,Int.reduceEq,Int.reduceNeg,Int.reduceToNat]
   refine Wp_loop (fun m T D H' => ∃ i,m = c.secrets.length - i ∧ i ≤ c.secrets.length ∧ D = [] ∧ H' = H ++ [.row 0 (cpE.f c) true] ∧ get T 2 = .ptr H.length 0 0 ∧ get T 3 = .ipt (cpE.f d) 0 ∧ get T 7 = .int .i64 i ∧ sameL scS c.secrets d.secrets = sameL scS (c.secrets.drop i) (d.secrets.drop i)) ?_ c.secrets.length _ _ _ ?_
   case refine_2 => exact ⟨0,by simp (disch := first | rfl | omega | exact lt_new _ | assumption | decide | (simp [dkS] <;> omega) | fail) only [go_sem,↓reduceIte,Nat.reduceLT,Nat.reduceEqDiff,Nat.reduceAdd,Nat.reduceMul,Nat.reduceSub,Int.reduceAdd,Int.reduceSub,Nat.reduceLeDiff,Int.reduceLT,Int.reduceLE,Int.reduceEq,Int.reduceNeg,Int.reduceToNat,t2,t3]; simp⟩
   clear t2 t3 ti
   rintro m T D H' ⟨i,rfl,hi,rfl,rfl,t2,t3,ti,hs⟩
   by_cases hlt : i < c.secrets.length
   ·have hlt' : (i : Int) < c.secrets.length := by omega
    have hlt2 : (i : Int) < d.secrets.length := by omega
    have hlt3 : i < d.secrets.length := by omega
    rw [sameL_drop scE hlt hlt3] at hs
    obtain ⟨x,hx⟩ : ∃ x,scE.at c.secrets i = x := ⟨_,rfl⟩
    obtain ⟨y,hy2⟩ : ∃ x,scE.at d.secrets i = x := ⟨_,rfl⟩
    rw [hx,hy2] at hs
    by_cases hq : scS x y = true
    ·rw [hq,Bool.true_and] at hs
     obtain ⟨q1,q2⟩ : x.label = y.label ∧ x.key = y.key := by simpa [scS] using hq
     have hy := True.intro
     repeat' (first | simp (disch := first | rfl | omega | exact lt_new _ | assumption | decide | (simp [dkS] <;> omega) | fail) only [l18_20,r18_16,r18_17,r18_19,loadV_ptr,storeV_ptr,tkS,t2,t3,ti,hlt',hx,hy2,q1,q2,fn64,go_sem,↓reduceIte,Nat.reduceLT,Nat.reduceEqDiff,Nat.reduceAdd,Nat.reduceMul,Nat.reduceSub,Int.reduceAdd,Int.reduceSub,Nat.reduceLeDiff,Int.reduceLT,Int.reduceLE,Int.reduceEq,Int.reduceNeg,Int.reduceToNat,hy] | ((first | refine guardB_dec (fun hy => ?_) (fun hy => ?_) | refine guardB_bool (fun hy => ?_) (fun hy => ?_) | refine guardQ_ite (fun hy => ?_) (fun hy => ?_) | refine brQ_dec (fun hy => ?_) (fun hy => ?_) | refine brQ_bool (fun hy => ?_) (fun hy => ?_)) <;> (try simp only [Bool.not_eq_true',Bool.not_eq_false',Bool.and_eq_true,Bool.or_eq_false_iff,decide_eq_true_eq,decide_eq_false_iff_not] at hy)))
     exact ⟨_,by omega,i + 1,rfl,hlt,rfl,hs⟩
    ·have hS : sameB c d = false := by unfold sameB; rw [hs,Bool.eq_false_iff.2 hq]; simp
     have q2 : x.label = y.label → ¬ x.key = y.key := fun a b => hq (by simp [scS,a,b])
     have hy := True.intro
     repeat' (first | simp (disch := first | rfl | omega | exact lt_new _ | assumption | decide | (simp [dkS] <;> omega) | fail) only [l18_20,r18_16,r18_17,r18_19,r18_18,rs18,gc18,loadV_ptr,storeV_ptr,tkS,t2,t3,ti,hlt',hx,hy2,q2,fn64,go_sem,↓reduceIte,Nat.reduceLT,Nat.reduceEqDiff,Nat.reduceAdd,Nat.reduceMul,Nat.reduceSub,Int.reduceAdd,Int.reduceSub,Nat.reduceLeDiff,Int.reduceLT,Int.reduceLE,Int.reduceEq,Int.reduceNeg,Int.reduceToNat,hy] | ((first | refine guardB_dec (fun hy => ?_) (fun hy => ?_) | refine guardB_bool (fun hy => ?_) (fun hy => ?_) | refine guardQ_ite (fun hy => ?_) (fun hy => ?_) | refine brQ_dec (fun hy => ?_) (fun hy => ?_) | refine brQ_bool (fun hy => ?_) (fun hy => ?_)) <;> (try simp only [Bool.not_eq_true',Bool.not_eq_false',Bool.and_eq_true,Bool.or_eq_false_iff,decide_eq_true_eq,decide_eq_false_iff_not] at hy)))
     all_goals (refine finQ_app ?_; simp (disch := first | rfl | omega | exact lt_new _ | assumption | decide | (simp [dkS] <;> omega) | fail) only [go_sem,↓reduceIte,Nat.reduceLT,Nat.reduceEqDiff,Nat.reduceAdd,Nat.reduceMul,Nat.reduceSub,Int.reduceAdd,Int.reduceSub,Nat.reduceLeDiff,Int.reduceLT,Int.reduceLE,Int.reduceEq,Int.reduceNeg,Int.reduceToNat,hS])
   ·obtain rfl : i = c.secrets.length := by omega
    have hs2 : sameL scS c.secrets d.secrets = true := by rw [hs,List.drop_length,List.drop_eq_nil_of_le (by omega)]; rfl
    clear hs
    simp (disch := first | rfl | omega | exact lt_new _ | assumption | decide | (simp [dkS] <;> omega) | fail) only [l18_20,r18_16,r18_21,loadV_ptr,storeV_ptr,tkS,t2,t3,ti,Int.lt_irrefl,go_sem,↓reduceIte,Nat.reduceLT,Nat.reduceEqDiff,Nat.reduceAdd,Nat.reduceMul,Nat.reduceSub,Int.reduceAdd,Int.reduceSub,Nat.reduceLeDiff,Int.reduceLT,Int.reduceLE,Int.reduceEq,Int.reduceNeg,Int.reduceToNat]
    refine Wp_loop (fun m T D H' => ∃ i,m = c.packets.length - i ∧ i ≤ c.packets.length ∧ D = [] ∧ H' = H ++ [.row 0 (cpE.f c) true] ∧ get T 2 = .ptr H.length 0 0 ∧ get T 3 = .ipt (cpE.f d) 0 ∧ get T 8 = .int .i64 i ∧ sameL pkS c.packets d.packets = sameL pkS (c.packets.drop i) (d.packets.drop i)) ?_ c.packets.length _ _ _ ?_
    case refine_2 => exact ⟨0,by simp (disch := first | rfl | omega | exact lt_new _ | assumption | decide | (simp [dkS] <;> omega) | fail) only [go_sem,↓reduceIte,Nat.reduceLT,Nat.reduceEqDiff,Nat.reduceAdd,Nat.reduceMul,Nat.reduceSub,Int.reduceAdd,Int.reduceSub,Nat.reduceLeDiff,Int.reduceLT,Int.reduceLE,Int.reduceEq,Int.reduceNeg,Int.reduceToNat,t2,t3]; simp⟩
    clear t2 t3 ti
    rintro m T D H' ⟨i,rfl,hi,rfl,rfl,t2,t3,ti,hs⟩
    by_cases hlt : i < c.packets.length
    ·have hlt' : (i : Int) < c.packets.length := by omega
     have hlt2 : (i : Int) < d.packets.length := by omega
     have hlt3 : i < d.packets.length := by omega
     rw [sameL_drop pkE hlt hlt3] at hs
     obtain ⟨x,hx⟩ : ∃ x,pkE.at c.packets i = x := ⟨_,rfl⟩
     obtain ⟨y,hy2⟩ : ∃ x,pkE.at d.packets i = x := ⟨_,rfl⟩
     rw [hx,hy2] at hs
     by_cases hq : pkS x y = true
     ·rw [hq,Bool.true_and] at hs
      have hy := True.intro
      repeat' (first | simp (disch := first | rfl | omega | exact lt_new _ | assumption | decide | (simp [dkS] <;> omega) | fail) only [l18_26,r18_22,r18_23,r18_25,loadV_ptr,storeV_ptr,tkS,t2,t3,ti,hlt',hx,hy2,hq,fn65,go_sem,↓reduceIte,Nat.reduceLT,Nat.reduceEqDiff,Nat.reduceAdd,Nat.reduceMul,Nat.reduceSub,Int.reduceAdd,Int.reduceSub,Nat.reduceLeDiff,Int.reduceLT,Int.reduceLE,Int.reduceEq,Int.reduceNeg,Int.reduceToNat,hy] | ((first | refine guardB_dec (fun hy => ?_) (fun hy => ?_) | refine guardB_bool (fun hy => ?_) (fun hy => ?_) | refine guardQ_ite (fun hy => ?_) (fun hy => ?_) | refine brQ_dec (fun hy => ?_) (fun hy => ?_) | refine brQ_bool (fun hy => ?_) (fun hy => ?_)) <;> (try simp only [Bool.not_eq_true',Bool.not_eq_false',Bool.and_eq_true,Bool.or_eq_false_iff,decide_eq_true_eq,decide_eq_false_iff_not] at hy)))
      exact ⟨_,by omega,i + 1,rfl,hlt,rfl,hs⟩
     ·have hS : sameB c d = false := by unfold sameB; rw [hs,Bool.eq_false_iff.2 hq]; simp
      have hy := True.intro
      repeat' (first | simp (disch := first | rfl | omega | exact lt_new _ | assumption | decide | (simp [dkS] <;> omega) | fail) only [l18_26,r18_22,r18_23,r18_25,r18_24,rs18,gc18,loadV_ptr,storeV_ptr,tkS,t2,t3,ti,hlt',hx,hy2,hq,fn65,go_sem,↓reduceIte,Nat.reduceLT,Nat.reduceEqDiff,Nat.reduceAdd,Nat.reduceMul,Nat.reduceSub,Int.reduceAdd,Int.reduceSub,Nat.reduceLeDiff,Int.reduceLT,Int.reduceLE,Int.reduceEq,Int.reduceNeg,Int.reduceToNat,hy] | ((first | refine guardB_dec (fun hy => ?_) (fun hy => ?_) | refine guardB_bool (fun hy => ?_) (fun hy => ?_) | refine guardQ_ite (fun hy => ?_) (fun hy => ?_) | refine brQ_dec (fun hy => ?_) (fun hy => ?_) | refine brQ_bool (fun hy => ?_) (fun hy => ?_)) <;> (try simp only [Bool.not_eq_true',Bool.not_eq_false',Bool.and_eq_true,Bool.or_eq_false_iff,decide_eq_true_eq,decide_eq_false_iff_not] at hy)))
      all_goals (refine finQ_app ?_; simp (disch := first | rfl | omega | exact lt_new _ | assumption | decide | (simp [dkS] <;> omega) | fail) only [go_sem,↓reduceIte,Nat.reduceLT,Nat.reduceEqDiff,Nat.reduceAdd,Nat.reduceMul,Nat.reduceSub,Int.reduceAdd,Int.reduceSub,Nat.reduceLeDiff,Int.reduceLT,Int.reduceLE,Int.reduceEq,Int.reduceNeg,Int.reduceToNat,hS])
    ·obtain rfl : i = c.packets.length := by omega
     have hs3 : sameL pkS c.packets d.packets = true := by rw [hs,List.drop_length,List.drop_eq_nil_of_le (by omega)]; rfl
     clear hs
     have hS : sameB c d = true := by unfold sameB; rw [hs0,hs1,hs2,hs3,decide_eq_true g1]; rfl
     simp (disch := first | rfl | omega | exact lt_new _ | assumption | decide | (simp [dkS] <;> omega) | fail) only [l18_26,r18_22,r18_27,rs18,gc18,loadV_ptr,storeV_ptr,tkS,t2,t3,ti,Int.lt_irrefl,go_sem,↓reduceIte,Nat.reduceLT,Nat.reduceEqDiff,Nat.reduceAdd,Nat.reduceMul,Nat.reduceSub,Int.reduceAdd,Int.reduceSub,Nat.reduceLeDiff,Int.reduceLT,Int.reduceLE,Int.reduceEq,Int.reduceNeg,Int.reduceToNat]
     refine finQ_app ?_
     simp (disch := first | rfl | omega | exact lt_new _ | assumption | decide | (simp [dkS] <;> omega) | fail) only [go_sem,↓reduceIte,Nat.reduceLT,Nat.reduceEqDiff,Nat.reduceAdd,Nat.reduceMul,Nat.reduceSub,Int.reduceAdd,Int.reduceSub,Nat.reduceLeDiff,Int.reduceLT,Int.reduceLE,Int.reduceEq,Int.reduceNeg,Int.reduceToNat,hS]
def okT (n : Int) : Bool := decide (0 ≤ n) && decide (n ≤ 1000000000000000)
theorem fn68 (n : Int) (H : Hp) : callL Try.prog pr 68 [.int .i64 n] H = some (.bool (okT n),H) := by
 refine run68 (Nat.le_of_ble_eq_true rfl) ?_
 unfold okT
 have hy := True.intro
 repeat' (first | simp (disch := first | rfl | omega | exact lt_new _ | assumption | decide | (simp [dkS] <;> omega) | fail) only [r68_0,r68_1,c68,rs68,gc68,go_sem,↓reduceIte,Nat.reduceLT,Nat.reduceEqDiff,Nat.reduceAdd,Nat.reduceMul,Nat.reduceSub,Int.reduceAdd,Int.reduceSub,Nat.reduceLeDiff,Int.reduceLT,Int.reduceLE,Int.reduceEq,Int.reduceNeg,Int.reduceToNat,hy] | ((first | refine guardB_dec (fun hy => ?_) (fun hy => ?_) | refine guardB_bool (fun hy => ?_) (fun hy => ?_) | refine guardQ_ite (fun hy => ?_) (fun hy => ?_) | refine brQ_dec (fun hy => ?_) (fun hy => ?_) | refine brQ_bool (fun hy => ?_) (fun hy => ?_)) <;> (try simp only [Bool.not_eq_true',Bool.not_eq_false',Bool.and_eq_true,Bool.or_eq_false_iff,decide_eq_true_eq,decide_eq_false_iff_not] at hy)))
 all_goals (try ((first | refine finQ_same ?_ | refine finQ_app ?_ | (rw [List.append_assoc]; refine finQ_app ?_)) <;> simp (disch := first | rfl | omega | exact lt_new _ | assumption | decide | (simp [dkS] <;> omega) | fail) only [go_sem,↓reduceIte,Nat.reduceLT,Nat.reduceEqDiff,Nat.reduceAdd,Nat.reduceMul,Nat.reduceSub,Int.reduceAdd,Int.reduceSub,Nat.reduceLeDiff,Int.reduceLT,Int.reduceLE,Int.reduceEq,Int.reduceNeg,Int.reduceToNat,List.append_assoc,List.cons_append,List.nil_append, *]))
 all_goals (try first | rfl | (simp [*]; done) | grind)
theorem fn72 (n : Int) (H : Hp) : callL Try.prog pr 72 [.int .i64 n] H = some (.bool (okT n),H) := by
 refine run72 (Nat.le_of_ble_eq_true rfl) ?_
 unfold okT
 have hy := True.intro
 repeat' (first | simp (disch := first | rfl | omega | exact lt_new _ | assumption | decide | (simp [dkS] <;> omega) | fail) only [r72_0,r72_1,c72,rs72,gc72,go_sem,↓reduceIte,Nat.reduceLT,Nat.reduceEqDiff,Nat.reduceAdd,Nat.reduceMul,Nat.reduceSub,Int.reduceAdd,Int.reduceSub,Nat.reduceLeDiff,Int.reduceLT,Int.reduceLE,Int.reduceEq,Int.reduceNeg,Int.reduceToNat,hy] | ((first | refine guardB_dec (fun hy => ?_) (fun hy => ?_) | refine guardB_bool (fun hy => ?_) (fun hy => ?_) | refine guardQ_ite (fun hy => ?_) (fun hy => ?_) | refine brQ_dec (fun hy => ?_) (fun hy => ?_) | refine brQ_bool (fun hy => ?_) (fun hy => ?_)) <;> (try simp only [Bool.not_eq_true',Bool.not_eq_false',Bool.and_eq_true,Bool.or_eq_false_iff,decide_eq_true_eq,decide_eq_false_iff_not] at hy)))
 all_goals (try ((first | refine finQ_same ?_ | refine finQ_app ?_ | (rw [List.append_assoc]; refine finQ_app ?_)) <;> simp (disch := first | rfl | omega | exact lt_new _ | assumption | decide | (simp [dkS] <;> omega) | fail) only [go_sem,↓reduceIte,Nat.reduceLT,Nat.reduceEqDiff,Nat.reduceAdd,Nat.reduceMul,Nat.reduceSub,Int.reduceAdd,Int.reduceSub,Nat.reduceLeDiff,Int.reduceLT,Int.reduceLE,Int.reduceEq,Int.reduceNeg,Int.reduceToNat,List.append_assoc,List.cons_append,List.nil_append, *]))
 all_goals (try first | rfl | (simp [*]; done) | grind)
def askE : List Cp → Int
 | [] => 0
 | c :: l => if valE c = 0 then askE l else valE c
theorem askE_drop {l : List Cp} {i : Nat} (h : i < l.length) : askE (l.drop i) = if valE (cpE.at l i) = 0 then askE (l.drop (i + 1)) else valE (cpE.at l i) := by
 rw [cpE.drop_at h]; rfl
theorem fn54 {b : Bool} {l : List Cp} (hok : ∀ c ∈ l,CpOk c) (hl : l.length ≤ 2 ^ 62) (H : Hp) : callL Try.prog pr 54 [slV b cpE l] H = some (.int .i64 (askE l),H) := by
 refine run54 (Nat.le_of_ble_eq_true rfl) ?_
 simp (disch := first | rfl | omega | exact lt_new _ | assumption | decide | (simp [dkS] <;> omega) | fail) only [r54_0,r54_1,r54_2,r54_3,r54_4,r54_5,r54_6,r54_7,r54_9,c54,rs54,gc54,go_sem,↓reduceIte,Nat.reduceLT,Nat.reduceEqDiff,Nat.reduceAdd,Nat.reduceMul,Nat.reduceSub,Int.reduceAdd,Int.reduceSub,Nat.reduceLeDiff,Int.reduceLT,Int.reduceLE,Int.reduceEq,Int.reduceNeg,Int.reduceToNat]
 refine Wp_loop (fun m T D H' => ∃ i G,m = l.length - i ∧ i ≤ l.length ∧ D = [] ∧ H' = H ++ G ∧ get T 6 = slV b cpE l ∧ get T 7 = .int .i64 l.length ∧ get T 8 = .int .i64 i ∧ askE l = askE (l.drop i)) ?_ l.length _ _ _ ?_
 case refine_2 => exact ⟨0,[],by simp [go_sem]⟩
 rintro m T D H' ⟨i,G,rfl,hi,rfl,rfl,t6,t7,t8,hs⟩
 by_cases hlt : i < l.length
 ·have hlt' : (i : Int) < l.length := by omega
  have h57 := fn57 (cpE.at l i) (hok _ (cpE.at_mem hlt))
  rw [askE_drop hlt] at hs
  by_cases hq : valE (cpE.at l i) = 0
  ·rw [if_pos hq] at hs
   simp (disch := first | rfl | omega | exact lt_new _ | assumption | decide | (simp [dkS] <;> omega) | fail) only [r54_0,r54_1,r54_2,r54_3,r54_4,r54_5,r54_6,r54_7,l54_8,r54_9,c54,rs54,gc54,loadV_ptr,storeV_ptr,tkS,t6,t7,t8,hlt',h57,hq,go_sem,↓reduceIte,Nat.reduceLT,Nat.reduceEqDiff,Nat.reduceAdd,Nat.reduceMul,Nat.reduceSub,Int.reduceAdd,Int.reduceSub,Nat.reduceLeDiff,Int.reduceLT,Int.reduceLE,Int.reduceEq,Int.reduceNeg,Int.reduceToNat]
   exact ⟨_,by omega,i + 1,_,rfl,hlt,rfl,rfl,hs⟩
  ·rw [if_neg hq] at hs
   simp (disch := first | rfl | omega | exact lt_new _ | assumption | decide | (simp [dkS] <;> omega) | fail) only [r54_0,r54_1,r54_2,r54_3,r54_4,r54_5,r54_6,r54_7,l54_8,r54_9,c54,rs54,gc54,loadV_ptr,storeV_ptr,tkS,t6,t7,t8,hlt',h57,hq,go_sem,↓reduceIte,Nat.reduceLT,Nat.reduceEqDiff,Nat.reduceAdd,Nat.reduceMul,Nat.reduceSub,Int.reduceAdd,Int.reduceSub,Nat.reduceLeDiff,Int.reduceLT,Int.reduceLE,Int.reduceEq,Int.reduceNeg,Int.reduceToNat]
   exact finQ_app (by simp (disch := first | rfl | omega | exact lt_new _ | assumption | decide | (simp [dkS] <;> omega) | fail) only [go_sem,↓reduceIte,Nat.reduceLT,Nat.reduceEqDiff,Nat.reduceAdd,Nat.reduceMul,Nat.reduceSub,Int.reduceAdd,Int.reduceSub,Nat.reduceLeDiff,Int.reduceLT,Int.reduceLE,Int.reduceEq,Int.reduceNeg,Int.reduceToNat,hs])
 ·obtain rfl : i = l.length := by omega
  rw [List.drop_length] at hs
  simp (disch := first | rfl | omega | exact lt_new _ | assumption | decide | (simp [dkS] <;> omega) | fail) only [r54_0,r54_1,r54_2,r54_3,r54_4,r54_5,r54_6,r54_7,l54_8,r54_9,c54,rs54,gc54,t6,t7,t8,Int.lt_irrefl,go_sem,↓reduceIte,Nat.reduceLT,Nat.reduceEqDiff,Nat.reduceAdd,Nat.reduceMul,Nat.reduceSub,Int.reduceAdd,Int.reduceSub,Nat.reduceLeDiff,Int.reduceLT,Int.reduceLE,Int.reduceEq,Int.reduceNeg,Int.reduceToNat]
  exact finQ_app (by simp (disch := first | rfl | omega | exact lt_new _ | assumption | decide | (simp [dkS] <;> omega) | fail) only [go_sem,↓reduceIte,Nat.reduceLT,Nat.reduceEqDiff,Nat.reduceAdd,Nat.reduceMul,Nat.reduceSub,Int.reduceAdd,Int.reduceSub,Nat.reduceLeDiff,Int.reduceLT,Int.reduceLE,Int.reduceEq,Int.reduceNeg,Int.reduceToNat,hs,askE])
theorem askE_one (c : Cp) : askE [c] = valE c := by
 simp only [askE]
 split <;> simp [*]
theorem ask1 (c : Cp) (hc : CpOk c) (H : Hp) : callL Try.prog pr 54 [.isl (cpE.f c) 1 5] H = some (.int .i64 (valE c),H) := by
 have := fn54 (b := false) (l := [c]) (by simpa using hc) (by simp) H
 rw [askE_one] at this
 rw [← this]
 simp [slV,flatE,cpE_w]
theorem fn116 {b : Bool} {l : List Fc} (hl : l.length ≤ 2 ^ 30) (H : Hp) : ∃ v L,callL Try.prog pr 116 [slV b fcE l] H = some (v,H ++ L) ∧ RowM fcE H.length L v l := by
 suffices h : ∃ r,callL Try.prog pr 116 [slV b fcE l] H = some r ∧ ∃ v L,r = (v,H ++ L) ∧ RowM fcE H.length L v l by
  obtain ⟨_,h1,v,L,rfl,h2⟩ := h; exact ⟨v,L,h1,h2⟩
 refine ex116 (Nat.le_of_ble_eq_true rfl) ?_
 by_cases hb : b = true ∧ l = []
 ·obtain ⟨rfl,rfl⟩ := hb
  simp (disch := first | rfl | omega | exact lt_new _ | assumption | decide | (simp [dkS] <;> omega) | fail) only [r116_0,r116_1,r116_2,r116_3,c116,rs116,gc116,go_sem,↓reduceIte,Nat.reduceLT,Nat.reduceEqDiff,Nat.reduceAdd,Nat.reduceMul,Nat.reduceSub,Int.reduceAdd,Int.reduceSub,Nat.reduceLeDiff,Int.reduceLT,Int.reduceLE,Int.reduceEq,Int.reduceNeg,Int.reduceToNat,slV_nil]
  exact ⟨V.nilslice,[],by simp,Or.inl ⟨rfl,rfl⟩⟩
 ·have hb2 : (b && decide (l.length = 0)) = false := by
   cases b with
   | false => rfl
   | true => simp only [true_and] at hb; simp [hb]
  obtain ⟨g,ha⟩ : ∃ g,appOf 3 32 (H ++ [.row 0 [] true]) (.slice H.length 0 0 0 3 .full) (slV b fcE l) = some (.slice H.length g 0 l.length 3 .full,H ++ [.row g (flatE fcE l) true]) := by
   have hw : fcE.w = 3 := rfl
   have hfl := flatE_len (E := fcE) (l := l)
   rw [hw] at hfl
   have hfc := flatE_cells fcE l
   unfold appOf
   rw [src_slV]
   simp only [Option.bind_some]
   rw [if_pos ⟨hfl,hfc⟩]
   simp only [getRow_last,Option.bind_some]
   rw [if_pos ⟨trivial,by omega,by omega,by simp⟩]
   by_cases hz : l.length = 0
   ·obtain rfl : l = [] := List.eq_nil_of_length_eq_zero hz
    exact ⟨0,by simp [flatE]⟩
   ·refine ⟨1,?_⟩
    rw [if_neg hz,if_pos trivial,if_neg (by simp; omega),if_pos (by simp)]
    simp
  simp (disch := first | rfl | omega | exact lt_new _ | assumption | decide | (simp [dkS] <;> omega) | fail) only [r116_0,r116_1,r116_2,r116_3,c116,rs116,gc116,go_sem,↓reduceIte,Nat.reduceLT,Nat.reduceEqDiff,Nat.reduceAdd,Nat.reduceMul,Nat.reduceSub,Int.reduceAdd,Int.reduceSub,Nat.reduceLeDiff,Int.reduceLT,Int.reduceLE,Int.reduceEq,Int.reduceNeg,Int.reduceToNat,hb2,ha]
  exact ⟨_,_,rfl,Or.inr ⟨0,g,rfl,by simp,by simp [getRow]⟩⟩
theorem fn117 {b : Bool} {l : List Nm} (hl : l.length ≤ 2 ^ 30) (H : Hp) : ∃ v L,callL Try.prog pr 117 [slV b nmE l] H = some (v,H ++ L) ∧ RowM nmE H.length L v l := by
 suffices h : ∃ r,callL Try.prog pr 117 [slV b nmE l] H = some r ∧ ∃ v L,r = (v,H ++ L) ∧ RowM nmE H.length L v l by
  obtain ⟨_,h1,v,L,rfl,h2⟩ := h; exact ⟨v,L,h1,h2⟩
 refine ex117 (Nat.le_of_ble_eq_true rfl) ?_
 by_cases hb : b = true ∧ l = []
 ·obtain ⟨rfl,rfl⟩ := hb
  simp (disch := first | rfl | omega | exact lt_new _ | assumption | decide | (simp [dkS] <;> omega) | fail) only [r117_0,r117_1,r117_2,r117_3,c117,rs117,gc117,go_sem,↓reduceIte,Nat.reduceLT,Nat.reduceEqDiff,Nat.reduceAdd,Nat.reduceMul,Nat.reduceSub,Int.reduceAdd,Int.reduceSub,Nat.reduceLeDiff,Int.reduceLT,Int.reduceLE,Int.reduceEq,Int.reduceNeg,Int.reduceToNat,slV_nil]
  exact ⟨V.nilslice,[],by simp,Or.inl ⟨rfl,rfl⟩⟩
 ·have hb2 : (b && decide (l.length = 0)) = false := by
   cases b with
   | false => rfl
   | true => simp only [true_and] at hb; simp [hb]
  obtain ⟨g,ha⟩ : ∃ g,appOf 2 40 (H ++ [.row 0 [] true]) (.slice H.length 0 0 0 2 .full) (slV b nmE l) = some (.slice H.length g 0 l.length 2 .full,H ++ [.row g (flatE nmE l) true]) := by
   have hw : nmE.w = 2 := rfl
   have hfl := flatE_len (E := nmE) (l := l)
   rw [hw] at hfl
   have hfc := flatE_cells nmE l
   unfold appOf
   rw [src_slV]
   simp only [Option.bind_some]
   rw [if_pos ⟨hfl,hfc⟩]
   simp only [getRow_last,Option.bind_some]
   rw [if_pos ⟨trivial,by omega,by omega,by simp⟩]
   by_cases hz : l.length = 0
   ·obtain rfl : l = [] := List.eq_nil_of_length_eq_zero hz
    exact ⟨0,by simp [flatE]⟩
   ·refine ⟨1,?_⟩
    rw [if_neg hz,if_pos trivial,if_neg (by simp; omega),if_pos (by simp)]
    simp
  simp (disch := first | rfl | omega | exact lt_new _ | assumption | decide | (simp [dkS] <;> omega) | fail) only [r117_0,r117_1,r117_2,r117_3,c117,rs117,gc117,go_sem,↓reduceIte,Nat.reduceLT,Nat.reduceEqDiff,Nat.reduceAdd,Nat.reduceMul,Nat.reduceSub,Int.reduceAdd,Int.reduceSub,Nat.reduceLeDiff,Int.reduceLT,Int.reduceLE,Int.reduceEq,Int.reduceNeg,Int.reduceToNat,hb2,ha]
  exact ⟨_,_,rfl,Or.inr ⟨0,g,rfl,by simp,by simp [getRow]⟩⟩
theorem fn119 {b : Bool} {l : List Sc} (hl : l.length ≤ 2 ^ 30) (H : Hp) : ∃ v L,callL Try.prog pr 119 [slV b scE l] H = some (v,H ++ L) ∧ RowM scE H.length L v l := by
 suffices h : ∃ r,callL Try.prog pr 119 [slV b scE l] H = some r ∧ ∃ v L,r = (v,H ++ L) ∧ RowM scE H.length L v l by
  obtain ⟨_,h1,v,L,rfl,h2⟩ := h; exact ⟨v,L,h1,h2⟩
 refine ex119 (Nat.le_of_ble_eq_true rfl) ?_
 by_cases hb : b = true ∧ l = []
 ·obtain ⟨rfl,rfl⟩ := hb
  simp (disch := first | rfl | omega | exact lt_new _ | assumption | decide | (simp [dkS] <;> omega) | fail) only [r119_0,r119_1,r119_2,r119_3,c119,rs119,gc119,go_sem,↓reduceIte,Nat.reduceLT,Nat.reduceEqDiff,Nat.reduceAdd,Nat.reduceMul,Nat.reduceSub,Int.reduceAdd,Int.reduceSub,Nat.reduceLeDiff,Int.reduceLT,Int.reduceLE,Int.reduceEq,Int.reduceNeg,Int.reduceToNat,slV_nil]
  exact ⟨V.nilslice,[],by simp,Or.inl ⟨rfl,rfl⟩⟩
 ·have hb2 : (b && decide (l.length = 0)) = false := by
   cases b with
   | false => rfl
   | true => simp only [true_and] at hb; simp [hb]
  obtain ⟨g,ha⟩ : ∃ g,appOf 2 40 (H ++ [.row 0 [] true]) (.slice H.length 0 0 0 2 .full) (slV b scE l) = some (.slice H.length g 0 l.length 2 .full,H ++ [.row g (flatE scE l) true]) := by
   have hw : scE.w = 2 := rfl
   have hfl := flatE_len (E := scE) (l := l)
   rw [hw] at hfl
   have hfc := flatE_cells scE l
   unfold appOf
   rw [src_slV]
   simp only [Option.bind_some]
   rw [if_pos ⟨hfl,hfc⟩]
   simp only [getRow_last,Option.bind_some]
   rw [if_pos ⟨trivial,by omega,by omega,by simp⟩]
   by_cases hz : l.length = 0
   ·obtain rfl : l = [] := List.eq_nil_of_length_eq_zero hz
    exact ⟨0,by simp [flatE]⟩
   ·refine ⟨1,?_⟩
    rw [if_neg hz,if_pos trivial,if_neg (by simp; omega),if_pos (by simp)]
    simp
  simp (disch := first | rfl | omega | exact lt_new _ | assumption | decide | (simp [dkS] <;> omega) | fail) only [r119_0,r119_1,r119_2,r119_3,c119,rs119,gc119,go_sem,↓reduceIte,Nat.reduceLT,Nat.reduceEqDiff,Nat.reduceAdd,Nat.reduceMul,Nat.reduceSub,Int.reduceAdd,Int.reduceSub,Nat.reduceLeDiff,Int.reduceLT,Int.reduceLE,Int.reduceEq,Int.reduceNeg,Int.reduceToNat,hb2,ha]
  exact ⟨_,_,rfl,Or.inr ⟨0,g,rfl,by simp,by simp [getRow]⟩⟩
theorem fn120 {b : Bool} {l : List Pk} (hl : l.length ≤ 2 ^ 30) (H : Hp) : ∃ v L,callL Try.prog pr 120 [slV b pkE l] H = some (v,H ++ L) ∧ RowM pkE H.length L v l := by
 suffices h : ∃ r,callL Try.prog pr 120 [slV b pkE l] H = some r ∧ ∃ v L,r = (v,H ++ L) ∧ RowM pkE H.length L v l by
  obtain ⟨_,h1,v,L,rfl,h2⟩ := h; exact ⟨v,L,h1,h2⟩
 refine ex120 (Nat.le_of_ble_eq_true rfl) ?_
 by_cases hb : b = true ∧ l = []
 ·obtain ⟨rfl,rfl⟩ := hb
  simp (disch := first | rfl | omega | exact lt_new _ | assumption | decide | (simp [dkS] <;> omega) | fail) only [r120_0,r120_1,r120_2,r120_3,c120,rs120,gc120,go_sem,↓reduceIte,Nat.reduceLT,Nat.reduceEqDiff,Nat.reduceAdd,Nat.reduceMul,Nat.reduceSub,Int.reduceAdd,Int.reduceSub,Nat.reduceLeDiff,Int.reduceLT,Int.reduceLE,Int.reduceEq,Int.reduceNeg,Int.reduceToNat,slV_nil]
  exact ⟨V.nilslice,[],by simp,Or.inl ⟨rfl,rfl⟩⟩
 ·have hb2 : (b && decide (l.length = 0)) = false := by
   cases b with
   | false => rfl
   | true => simp only [true_and] at hb; simp [hb]
  obtain ⟨g,ha⟩ : ∃ g,appOf 5 64 (H ++ [.row 0 [] true]) (.slice H.length 0 0 0 5 .full) (slV b pkE l) = some (.slice H.length g 0 l.length 5 .full,H ++ [.row g (flatE pkE l) true]) := by
   have hw : pkE.w = 5 := rfl
   have hfl := flatE_len (E := pkE) (l := l)
   rw [hw] at hfl
   have hfc := flatE_cells pkE l
   unfold appOf
   rw [src_slV]
   simp only [Option.bind_some]
   rw [if_pos ⟨hfl,hfc⟩]
   simp only [getRow_last,Option.bind_some]
   rw [if_pos ⟨trivial,by omega,by omega,by simp⟩]
   by_cases hz : l.length = 0
   ·obtain rfl : l = [] := List.eq_nil_of_length_eq_zero hz
    exact ⟨0,by simp [flatE]⟩
   ·refine ⟨1,?_⟩
    rw [if_neg hz,if_pos trivial,if_neg (by simp; omega),if_pos (by simp)]
    simp
  simp (disch := first | rfl | omega | exact lt_new _ | assumption | decide | (simp [dkS] <;> omega) | fail) only [r120_0,r120_1,r120_2,r120_3,c120,rs120,gc120,go_sem,↓reduceIte,Nat.reduceLT,Nat.reduceEqDiff,Nat.reduceAdd,Nat.reduceMul,Nat.reduceSub,Int.reduceAdd,Int.reduceSub,Nat.reduceLeDiff,Int.reduceLT,Int.reduceLE,Int.reduceEq,Int.reduceNeg,Int.reduceToNat,hb2,ha]
  exact ⟨_,_,rfl,Or.inr ⟨0,g,rfl,by simp,by simp [getRow]⟩⟩
theorem gr_l {G K : Hp} {j g : Nat} (h : j < G.length) : getRow (G ++ K) j g = getRow G j g := by
 unfold getRow; rw [List.getElem?_append_left h]
theorem st_l {G K : Hp} {j : Nat} {b : AB} (h : j < G.length) : (G ++ K).set j b = G.set j b ++ K := List.set_append_left _ _ h
theorem RowM.two {α : Type} {E : Enc α} {n : Nat} {M : Hp} {v : V} {l : List α} (h : RowM E (n + 2) M v l) : (v = .nilslice ∧ l = []) ∨ ∃ j g,v = .slice (n + (j + 1 + 1)) g 0 l.length E.w .full ∧ j < M.length ∧ getRow M j g = some (flatE E l,true) := by
 rcases h with h | ⟨j,g,rfl,h⟩
 ·exact Or.inl h
 ·exact Or.inr ⟨j,g,by rw [show n + 2 + j = n + (j + 1 + 1) by omega],h⟩
theorem fn118 {b : Bool} {l : List UInt8} (hl : l.length ≤ 2 ^ 30) (H : Hp) : callL Try.prog pr 118 [slV b byE l] H = some (slV b byE l,H) := by
 refine run118 (Nat.le_of_ble_eq_true rfl) ?_
 by_cases hb : b = true ∧ l = []
 ·obtain ⟨rfl,rfl⟩ := hb
  simp (disch := first | rfl | omega | exact lt_new _ | assumption | decide | (simp [dkS] <;> omega) | fail) only [r118_0,r118_1,r118_2,r118_3,c118,rs118,gc118,go_sem,↓reduceIte,Nat.reduceLT,Nat.reduceEqDiff,Nat.reduceAdd,Nat.reduceMul,Nat.reduceSub,Int.reduceAdd,Int.reduceSub,Nat.reduceLeDiff,Int.reduceLT,Int.reduceLE,Int.reduceEq,Int.reduceNeg,Int.reduceToNat,slV_nil]
  exact finQ_same (by simp (disch := first | rfl | omega | exact lt_new _ | assumption | decide | (simp [dkS] <;> omega) | fail) only [go_sem,↓reduceIte,Nat.reduceLT,Nat.reduceEqDiff,Nat.reduceAdd,Nat.reduceMul,Nat.reduceSub,Int.reduceAdd,Int.reduceSub,Nat.reduceLeDiff,Int.reduceLT,Int.reduceLE,Int.reduceEq,Int.reduceNeg,Int.reduceToNat])
 ·have hb2 : (b && decide (l.length = 0)) = false := by
   cases b with
   | false => rfl
   | true => simp only [true_and] at hb; simp [hb]
  obtain ⟨g,ha⟩ : ∃ g,appOf 1 1 (H ++ [.row 0 [] true]) (.slice H.length 0 0 0 1 .full) (slV b byE l) = some (.slice H.length g 0 l.length 1 .full,H ++ [.row g (flatE byE l) true]) := by
   have hw : byE.w = 1 := rfl
   have hfl := flatE_len (E := byE) (l := l)
   rw [hw] at hfl
   have hfc := flatE_cells byE l
   unfold appOf
   rw [src_slV]
   simp only [Option.bind_some]
   rw [if_pos ⟨hfl,hfc⟩]
   simp only [getRow_last,Option.bind_some]
   rw [if_pos ⟨trivial,by omega,by omega,by simp⟩]
   by_cases hz : l.length = 0
   ·obtain rfl : l = [] := List.eq_nil_of_length_eq_zero hz
    exact ⟨0,by simp [flatE]⟩
   ·refine ⟨1,?_⟩
    rw [if_neg hz,if_pos trivial,if_neg (by simpa using fun h => hz (by rw [h]; rfl)),if_pos (by simp)]
    simp
  simp (disch := first | rfl | omega | exact lt_new _ | assumption | decide | (simp [dkS] <;> omega) | fail) only [r118_0,r118_1,r118_2,r118_3,c118,rs118,gc118,go_sem,↓reduceIte,Nat.reduceLT,Nat.reduceEqDiff,Nat.reduceAdd,Nat.reduceMul,Nat.reduceSub,Int.reduceAdd,Int.reduceSub,Nat.reduceLeDiff,Int.reduceLT,Int.reduceLE,Int.reduceEq,Int.reduceNeg,Int.reduceToNat,hb2,ha]
  refine finQ_app (by rw [show ∀ n H' f id g off m sz cp,inlR n H' f (V.slice id g off m sz cp) = inlB n H' f (V.slice id g off m sz cp) from fun _ _ _ _ _ _ _ _ _ => rfl,inlB_row (Nat.le_refl _) (w := 1) (cs := flatE byE l) (g := g) (len := l.length) (by simp) flatE_len flatE_imm]; simp (disch := first | rfl | omega | exact lt_new _ | assumption | decide | (simp [dkS] <;> omega) | fail) only [go_sem,↓reduceIte,Nat.reduceLT,Nat.reduceEqDiff,Nat.reduceAdd,Nat.reduceMul,Nat.reduceSub,Int.reduceAdd,Int.reduceSub,Nat.reduceLeDiff,Int.reduceLT,Int.reduceLE,Int.reduceEq,Int.reduceNeg,Int.reduceToNat,slV,if_neg hb]; rfl)
def CpS (c : Cp) : Prop := (c.faces.length ≤ 2 ^ 30 ∧ c.names.length ≤ 2 ^ 30 ∧ c.secrets.length ≤ 2 ^ 30 ∧ c.packets.length ≤ 2 ^ 30) ∧ (∀ x ∈ c.names,x.addr.length ≤ 2 ^ 30) ∧ (∀ x ∈ c.secrets,x.key.length ≤ 2 ^ 30) ∧ ∀ x ∈ c.packets,x.data.length ≤ 2 ^ 30
set_option maxHeartbeats 4000000 in
theorem fn74s (c : Cp) (hs : CpS c) (H : Hp) : ∃ v1 v2 v3 v4 L X,callL Try.prog pr 74 [.agg (cpE.f c)] H = some (.agg [.str c.note,v1,v2,v3,v4],H ++ (L ++ X)) ∧ RowM fcE H.length L v1 c.faces ∧ RowM nmE H.length L v2 c.names ∧ RowM scE H.length L v3 c.secrets ∧ RowM pkE (H.length + L.length) X v4 c.packets := by
 suffices h : ∃ r,callL Try.prog pr 74 [.agg (cpE.f c)] H = some r ∧ ∃ v1 v2 v3 v4 L X,r = (.agg [.str c.note,v1,v2,v3,v4],H ++ (L ++ X)) ∧ RowM fcE H.length L v1 c.faces ∧ RowM nmE H.length L v2 c.names ∧ RowM scE H.length L v3 c.secrets ∧ RowM pkE (H.length + L.length) X v4 c.packets by
  obtain ⟨_,h1,v1,v2,v3,v4,L,X,rfl,h2⟩ := h; exact ⟨v1,v2,v3,v4,L,X,h1,h2⟩
 refine ex74 (Nat.le_of_ble_eq_true rfl) ?_
 obtain ⟨hlen,ha1,ha2,ha3⟩ := hs
 have e118 := fun {b l} h H => fn118 (b := b) (l := l) h H
 have hc0 : cpE.f c = [.str c.note,slV c.facesN fcE c.faces,slV c.namesN nmE c.names,slV c.secretsN scE c.secrets,slV c.packetsN pkE c.packets] := rfl
 obtain ⟨v1,L1,e1,r1⟩ := fn116 (b := c.facesN) hlen.1 (H ++ AB.row 0 [.str c.note,slV c.facesN fcE c.faces,slV c.namesN nmE c.names,slV c.secretsN scE c.secrets,slV c.packetsN pkE c.packets] true :: AB.row 0 [.str [],.nilslice,.nilslice,.nilslice,.nilslice] true :: [])
 rw [show (H ++ AB.row 0 [.str c.note,slV c.facesN fcE c.faces,slV c.namesN nmE c.names,slV c.secretsN scE c.secrets,slV c.packetsN pkE c.packets] true :: AB.row 0 [.str [],.nilslice,.nilslice,.nilslice,.nilslice] true :: []).length = H.length + 2 by simp] at r1
 obtain ⟨c11,c12,c13,c14,c15,c16,c17⟩ := r1.cell
 have n1 := fun H' => r1.len (P := Try.prog) (t := 26) (z := 3) (by kernel_rfl) H'
 have q1 := r1
 obtain ⟨v2,L2,e2,r2⟩ := fn117 (b := c.namesN) hlen.2.1 (H ++ AB.row 0 [.str c.note,v1,slV c.namesN nmE c.names,slV c.secretsN scE c.secrets,slV c.packetsN pkE c.packets] true :: AB.row 0 [.str [],.nilslice,.nilslice,.nilslice,.nilslice] true :: L1)
 rw [show (H ++ AB.row 0 [.str c.note,v1,slV c.namesN nmE c.names,slV c.secretsN scE c.secrets,slV c.packetsN pkE c.packets] true :: AB.row 0 [.str [],.nilslice,.nilslice,.nilslice,.nilslice] true :: L1).length = H.length + 2 + L1.length by simp; omega] at r2
 replace r2 := RowM.pre L1 r2
 replace q1 := RowM.app q1 L2
 obtain ⟨c21,c22,c23,c24,c25,c26,c27⟩ := r2.cell
 have n2 := fun H' => r2.len (P := Try.prog) (t := 27) (z := 2) (by kernel_rfl) H'
 simp (disch := first | rfl | omega | exact lt_new _ | assumption | decide | (simp [dkS] <;> omega) | fail) only [r74_0,r74_1,r74_2,r74_3,r74_4,r74_5,r74_6,r74_7,r74_9,r74_10,r74_11,r74_12,r74_13,r74_14,r74_16,r74_17,r74_18,r74_19,r74_20,r74_21,r74_23,c74,rs74,gc74,go_sem,↓reduceIte,Nat.reduceLT,Nat.reduceEqDiff,Nat.reduceAdd,Nat.reduceMul,Nat.reduceSub,Int.reduceAdd,Int.reduceSub,Nat.reduceLeDiff,Int.reduceLT,Int.reduceLE,Int.reduceEq,Int.reduceNeg,Int.reduceToNat,loadV_ptr,storeV_ptr,tkS,hc0,e1,e2,n2,c11,c12,c13,c14,c15,c16,c17,c21,c22,c23,c24,c25,c26,c27]
 refine Wp_loop (fun m T D H' => ∃ i M,m = c.names.length - i ∧ i ≤ c.names.length ∧ D = [] ∧ H' = H ++ AB.row 0 [.str c.note,v1,v2,slV c.secretsN scE c.secrets,slV c.packetsN pkE c.packets] true :: AB.row 0 [.str [],.nilslice,.nilslice,.nilslice,.nilslice] true :: M ∧ get T 1 = .ptr H.length 0 0 ∧ get T 2 = .ptr (H.length + 1) 0 0 ∧ get T 18 = v2 ∧ get T 19 = .int .i64 c.names.length ∧ get T 20 = .int .i64 i ∧ RowM fcE (H.length + 2) M v1 c.faces ∧ RowM nmE (H.length + 2) M v2 c.names) ?_ c.names.length _ _ _ ?_
 case refine_2 => exact ⟨0,_,by simp (disch := first | rfl | omega | exact lt_new _ | assumption | decide | (simp [dkS] <;> omega) | fail) only [go_sem,↓reduceIte,Nat.reduceLT,Nat.reduceEqDiff,Nat.reduceAdd,Nat.reduceMul,Nat.reduceSub,Int.reduceAdd,Int.reduceSub,Nat.reduceLeDiff,Int.reduceLT,Int.reduceLE,Int.reduceEq,Int.reduceNeg,Int.reduceToNat],by omega,rfl,rfl,by simp [go_sem],by simp [go_sem],by simp [go_sem],by simp [go_sem],by simp [go_sem],q1,r2⟩
 rintro m T D H' ⟨i,M,rfl,hi,rfl,rfl,t1,t2,t18,t19,t20,q1,q2⟩
 by_cases hlt : i < c.names.length
 ·have hlt' : (i : Int) < c.names.length := by omega
  rcases RowM.two q2 with ⟨_,hnil⟩ | ⟨j,g,hv,hj,hr⟩
  ·rw [hnil] at hlt; cases hlt
  have hv' : v2 = .slice (H.length + (j + 1 + 1)) g 0 c.names.length 2 .full := hv
  have p1 : partV Try.prog 97 (flatE nmE c.names) (i * 2) = some (.agg (nmE.f (nmE.at c.names i))) := ld_nmE (H := H) hlt
  have ec := e118 (b := (nmE.at c.names i).addrN) (ha1 _ (nmE.at_mem hlt))
  have hfs : setAt (flatE nmE c.names) (i * 2 + 0) [slV (nmE.at c.names i).addrN byE (nmE.at c.names i).addr] = flatE nmE c.names := flatE_same (E := nmE) hlt (by decide) rfl
  have hfl : (flatE nmE c.names).length = c.names.length * 2 := flatE_len
  have hle : i * 2 + 0 + 1 ≤ c.names.length * 2 := by omega
  have hse := (RowM.get hr).2
  subst hv'
  rw [Nat.add_zero] at hfs hle
  simp (disch := first | rfl | omega | exact lt_new _ | assumption | decide | (simp [dkS] <;> omega) | fail) only [r74_0,r74_1,r74_2,r74_3,r74_4,r74_5,r74_6,r74_7,l74_8,r74_9,r74_10,r74_11,r74_12,r74_13,r74_14,l74_15,r74_16,r74_17,r74_18,r74_19,r74_20,r74_21,l74_22,r74_23,c74,rs74,gc74,go_sem,↓reduceIte,Nat.reduceLT,Nat.reduceEqDiff,Nat.reduceAdd,Nat.reduceMul,Nat.reduceSub,Int.reduceAdd,Int.reduceSub,Nat.reduceLeDiff,Int.reduceLT,Int.reduceLE,Int.reduceEq,Int.reduceNeg,Int.reduceToNat,loadV_ptr,storeV_ptr,tkS,gr_l hj,st_l hj,hr,hse,t1,t2,t18,t19,t20,hlt',p1,ec,hfs,hfl,hle]
  exact ⟨_,by omega,i + 1,M ++ [_],rfl,hlt,rfl,rfl,RowM.app q1 _,RowM.app q2 _⟩
 ·obtain rfl : i = c.names.length := by omega
  have t0 := Int.lt_irrefl
  obtain ⟨v3,L3,e3,r3⟩ := fn119 (b := c.secretsN) hlen.2.2.1 (H ++ AB.row 0 [.str c.note,v1,v2,slV c.secretsN scE c.secrets,slV c.packetsN pkE c.packets] true :: AB.row 0 [.str [],.nilslice,.nilslice,.nilslice,.nilslice] true :: M)
  rw [show (H ++ AB.row 0 [.str c.note,v1,v2,slV c.secretsN scE c.secrets,slV c.packetsN pkE c.packets] true :: AB.row 0 [.str [],.nilslice,.nilslice,.nilslice,.nilslice] true :: M).length = H.length + 2 + M.length by simp; omega] at r3
  replace r3 := RowM.pre M r3
  replace q1 := RowM.app q1 L3
  replace q2 := RowM.app q2 L3
  obtain ⟨c31,c32,c33,c34,c35,c36,c37⟩ := r3.cell
  have n3 := fun H' => r3.len (P := Try.prog) (t := 28) (z := 2) (by kernel_rfl) H'
  simp (disch := first | rfl | omega | exact lt_new _ | assumption | decide | (simp [dkS] <;> omega) | fail) only [r74_0,r74_1,r74_2,r74_3,r74_4,r74_5,r74_6,r74_7,l74_8,r74_9,r74_10,r74_11,r74_12,r74_13,r74_14,l74_15,r74_16,r74_17,r74_18,r74_19,r74_20,r74_21,l74_22,r74_23,c74,rs74,gc74,go_sem,↓reduceIte,Nat.reduceLT,Nat.reduceEqDiff,Nat.reduceAdd,Nat.reduceMul,Nat.reduceSub,Int.reduceAdd,Int.reduceSub,Nat.reduceLeDiff,Int.reduceLT,Int.reduceLE,Int.reduceEq,Int.reduceNeg,Int.reduceToNat,loadV_ptr,storeV_ptr,tkS,t1,t2,t18,t19,t20,t0,e3,n3,c11,c12,c13,c14,c15,c16,c17,c21,c22,c23,c24,c25,c26,c27,c31,c32,c33,c34,c35,c36,c37]
  refine Wp_loop (fun m T D H' => ∃ i M,m = c.secrets.length - i ∧ i ≤ c.secrets.length ∧ D = [] ∧ H' = H ++ AB.row 0 [.str c.note,v1,v2,v3,slV c.packetsN pkE c.packets] true :: AB.row 0 [.str [],.nilslice,.nilslice,.nilslice,.nilslice] true :: M ∧ get T 1 = .ptr H.length 0 0 ∧ get T 2 = .ptr (H.length + 1) 0 0 ∧ get T 39 = v3 ∧ get T 40 = .int .i64 c.secrets.length ∧ get T 41 = .int .i64 i ∧ RowM fcE (H.length + 2) M v1 c.faces ∧ RowM nmE (H.length + 2) M v2 c.names ∧ RowM scE (H.length + 2) M v3 c.secrets) ?_ c.secrets.length _ _ _ ?_
  case refine_2 => exact ⟨0,_,by simp (disch := first | rfl | omega | exact lt_new _ | assumption | decide | (simp [dkS] <;> omega) | fail) only [go_sem,↓reduceIte,Nat.reduceLT,Nat.reduceEqDiff,Nat.reduceAdd,Nat.reduceMul,Nat.reduceSub,Int.reduceAdd,Int.reduceSub,Nat.reduceLeDiff,Int.reduceLT,Int.reduceLE,Int.reduceEq,Int.reduceNeg,Int.reduceToNat],by omega,rfl,rfl,by simp [go_sem,t1,t2],by simp [go_sem,t1,t2],by simp [go_sem],by simp [go_sem],by simp [go_sem],q1,q2,r3⟩
  rintro m T D H' ⟨i,M,rfl,hi,rfl,rfl,t1,t2,t39,t40,t41,q1,q2,q3⟩
  by_cases hlt : i < c.secrets.length
  ·have hlt' : (i : Int) < c.secrets.length := by omega
   rcases RowM.two q3 with ⟨_,hnil⟩ | ⟨j,g,hv,hj,hr⟩
   ·rw [hnil] at hlt; cases hlt
   have hv' : v3 = .slice (H.length + (j + 1 + 1)) g 0 c.secrets.length 2 .full := hv
   have p1 : partV Try.prog 100 (flatE scE c.secrets) (i * 2) = some (.agg (scE.f (scE.at c.secrets i))) := ld_scE (H := H) hlt
   have ec := e118 (b := (scE.at c.secrets i).keyN) (ha2 _ (scE.at_mem hlt))
   have hfs : setAt (flatE scE c.secrets) (i * 2 + 1) [slV (scE.at c.secrets i).keyN byE (scE.at c.secrets i).key] = flatE scE c.secrets := flatE_same (E := scE) hlt (by decide) rfl
   have hfl : (flatE scE c.secrets).length = c.secrets.length * 2 := flatE_len
   have hle : i * 2 + 1 + 1 ≤ c.secrets.length * 2 := by omega
   have hse := (RowM.get hr).2
   subst hv'
   simp (disch := first | rfl | omega | exact lt_new _ | assumption | decide | (simp [dkS] <;> omega) | fail) only [r74_0,r74_1,r74_2,r74_3,r74_4,r74_5,r74_6,r74_7,l74_8,r74_9,r74_10,r74_11,r74_12,r74_13,r74_14,l74_15,r74_16,r74_17,r74_18,r74_19,r74_20,r74_21,l74_22,r74_23,c74,rs74,gc74,go_sem,↓reduceIte,Nat.reduceLT,Nat.reduceEqDiff,Nat.reduceAdd,Nat.reduceMul,Nat.reduceSub,Int.reduceAdd,Int.reduceSub,Nat.reduceLeDiff,Int.reduceLT,Int.reduceLE,Int.reduceEq,Int.reduceNeg,Int.reduceToNat,loadV_ptr,storeV_ptr,tkS,gr_l hj,st_l hj,hr,hse,t1,t2,t39,t40,t41,hlt',p1,ec,hfs,hfl,hle]
   exact ⟨_,by omega,i + 1,M ++ [_],rfl,hlt,rfl,rfl,RowM.app q1 _,RowM.app q2 _,RowM.app q3 _⟩
  ·obtain rfl : i = c.secrets.length := by omega
   have t0 := Int.lt_irrefl
   obtain ⟨v4,L4,e4,r4⟩ := fn120 (b := c.packetsN) hlen.2.2.2 (H ++ AB.row 0 [.str c.note,v1,v2,v3,slV c.packetsN pkE c.packets] true :: AB.row 0 [.str [],.nilslice,.nilslice,.nilslice,.nilslice] true :: M)
   rw [show (H ++ AB.row 0 [.str c.note,v1,v2,v3,slV c.packetsN pkE c.packets] true :: AB.row 0 [.str [],.nilslice,.nilslice,.nilslice,.nilslice] true :: M).length = H.length + 2 + M.length by simp; omega] at r4
   obtain ⟨c41,c42,c43,c44,c45,c46,c47⟩ := r4.cell
   have n4 := fun H' => r4.len (P := Try.prog) (t := 29) (z := 5) (by kernel_rfl) H'
   simp (disch := first | rfl | omega | exact lt_new _ | assumption | decide | (simp [dkS] <;> omega) | fail) only [r74_0,r74_1,r74_2,r74_3,r74_4,r74_5,r74_6,r74_7,l74_8,r74_9,r74_10,r74_11,r74_12,r74_13,r74_14,l74_15,r74_16,r74_17,r74_18,r74_19,r74_20,r74_21,l74_22,r74_23,c74,rs74,gc74,go_sem,↓reduceIte,Nat.reduceLT,Nat.reduceEqDiff,Nat.reduceAdd,Nat.reduceMul,Nat.reduceSub,Int.reduceAdd,Int.reduceSub,Nat.reduceLeDiff,Int.reduceLT,Int.reduceLE,Int.reduceEq,Int.reduceNeg,Int.reduceToNat,loadV_ptr,storeV_ptr,tkS,t1,t2,t39,t40,t41,t0,e4,n4,c11,c12,c13,c14,c15,c16,c17,c21,c22,c23,c24,c25,c26,c27,c31,c32,c33,c34,c35,c36,c37,c41,c42,c43,c44,c45,c46,c47]
   refine Wp_loop (fun m T D H' => ∃ i Y X,m = c.packets.length - i ∧ i ≤ c.packets.length ∧ D = [] ∧ H' = H ++ AB.row 0 [.str c.note,v1,v2,v3,v4] true :: AB.row 0 [.str [],.nilslice,.nilslice,.nilslice,.nilslice] true :: Y ∧ get T 1 = .ptr H.length 0 0 ∧ get T 2 = .ptr (H.length + 1) 0 0 ∧ get T 60 = v4 ∧ get T 61 = .int .i64 c.packets.length ∧ get T 62 = .int .i64 i ∧ Y = M ++ X ∧ RowM pkE (H.length + 2 + M.length) X v4 c.packets) ?_ c.packets.length _ _ _ ?_
   case refine_2 => exact ⟨0,_,L4,by simp (disch := first | rfl | omega | exact lt_new _ | assumption | decide | (simp [dkS] <;> omega) | fail) only [go_sem,↓reduceIte,Nat.reduceLT,Nat.reduceEqDiff,Nat.reduceAdd,Nat.reduceMul,Nat.reduceSub,Int.reduceAdd,Int.reduceSub,Nat.reduceLeDiff,Int.reduceLT,Int.reduceLE,Int.reduceEq,Int.reduceNeg,Int.reduceToNat],by omega,rfl,rfl,by simp [go_sem,t1,t2],by simp [go_sem,t1,t2],by simp [go_sem],by simp [go_sem],by simp [go_sem],rfl,r4⟩
   rintro m T D H' ⟨i,Y,X,rfl,hi,rfl,rfl,t1,t2,t60,t61,t62,hY,qX⟩
   have q4 : RowM pkE (H.length + 2) Y v4 c.packets := by rw [hY]; exact RowM.pre M qX
   by_cases hlt : i < c.packets.length
   ·have hlt' : (i : Int) < c.packets.length := by omega
    rcases RowM.two q4 with ⟨_,hnil⟩ | ⟨j,g,hv,hj,hr⟩
    ·rw [hnil] at hlt; cases hlt
    have hv' : v4 = .slice (H.length + (j + 1 + 1)) g 0 c.packets.length 5 .full := hv
    have p1 : partV Try.prog 56 (flatE pkE c.packets) (i * 5) = some (.agg (pkE.f (pkE.at c.packets i))) := ld_pkE (H := H) hlt
    have ec := e118 (b := (pkE.at c.packets i).dataN) (ha3 _ (pkE.at_mem hlt))
    have hfs : setAt (flatE pkE c.packets) (i * 5 + 3) [slV (pkE.at c.packets i).dataN byE (pkE.at c.packets i).data] = flatE pkE c.packets := flatE_same (E := pkE) hlt (by decide) rfl
    have hfl : (flatE pkE c.packets).length = c.packets.length * 5 := flatE_len
    have hle : i * 5 + 3 + 1 ≤ c.packets.length * 5 := by omega
    have hse := (RowM.get hr).2
    subst hv'
    simp (disch := first | rfl | omega | exact lt_new _ | assumption | decide | (simp [dkS] <;> omega) | fail) only [r74_0,r74_1,r74_2,r74_3,r74_4,r74_5,r74_6,r74_7,l74_8,r74_9,r74_10,r74_11,r74_12,r74_13,r74_14,l74_15,r74_16,r74_17,r74_18,r74_19,r74_20,r74_21,l74_22,r74_23,c74,rs74,gc74,go_sem,↓reduceIte,Nat.reduceLT,Nat.reduceEqDiff,Nat.reduceAdd,Nat.reduceMul,Nat.reduceSub,Int.reduceAdd,Int.reduceSub,Nat.reduceLeDiff,Int.reduceLT,Int.reduceLE,Int.reduceEq,Int.reduceNeg,Int.reduceToNat,loadV_ptr,storeV_ptr,tkS,gr_l hj,st_l hj,hr,hse,t1,t2,t60,t61,t62,hlt',p1,ec,hfs,hfl,hle]
    exact ⟨_,by omega,i + 1,Y ++ [_],X ++ [_],rfl,hlt,rfl,rfl,by rw [hY,List.append_assoc],RowM.app qX _⟩
   ·obtain rfl : i = c.packets.length := by omega
    have t0 := Int.lt_irrefl
    simp (disch := first | rfl | omega | exact lt_new _ | assumption | decide | (simp [dkS] <;> omega) | fail) only [r74_0,r74_1,r74_2,r74_3,r74_4,r74_5,r74_6,r74_7,l74_8,r74_9,r74_10,r74_11,r74_12,r74_13,r74_14,l74_15,r74_16,r74_17,r74_18,r74_19,r74_20,r74_21,l74_22,r74_23,c74,rs74,gc74,go_sem,↓reduceIte,Nat.reduceLT,Nat.reduceEqDiff,Nat.reduceAdd,Nat.reduceMul,Nat.reduceSub,Int.reduceAdd,Int.reduceSub,Nat.reduceLeDiff,Int.reduceLT,Int.reduceLE,Int.reduceEq,Int.reduceNeg,Int.reduceToNat,loadV_ptr,storeV_ptr,tkS,t1,t2,t60,t61,t62,t0,c11,c12,c13,c14,c15,c16,c17,c21,c22,c23,c24,c25,c26,c27,c31,c32,c33,c34,c35,c36,c37,c41,c42,c43,c44,c45,c46,c47]
    subst hY
    refine ⟨v1,v2,v3,v4,AB.row 0 [.str c.note,v1,v2,v3,v4] true :: AB.row 0 [.str c.note,v1,v2,v3,v4] true :: M,X,by simp,RowM.pre [_,_] q1,RowM.pre [_,_] q2,RowM.pre [_,_] q3,?_⟩
    rw [show H.length + (AB.row 0 [.str c.note,v1,v2,v3,v4] true :: AB.row 0 [.str c.note,v1,v2,v3,v4] true :: M).length = H.length + 2 + M.length by simp; omega]
    exact qX
theorem fn74 (c : Cp) (hs : CpS c) (H : Hp) : ∃ v1 v2 v3 v4 L,callL Try.prog pr 74 [.agg (cpE.f c)] H = some (.agg [.str c.note,v1,v2,v3,v4],H ++ L) ∧ RowM fcE H.length L v1 c.faces ∧ RowM nmE H.length L v2 c.names ∧ RowM scE H.length L v3 c.secrets ∧ RowM pkE H.length L v4 c.packets := by
 obtain ⟨v1,v2,v3,v4,L,X,h1,h2,h3,h4,h5⟩ := fn74s c hs H
 exact ⟨v1,v2,v3,v4,L ++ X,h1,h2.app X,h3.app X,h4.app X,RowM.pre L h5⟩
end Go.Proofs.Ytejkgnmjdaohdaa
namespace Go.An
open Go
variable {α : Type}
theorem setAt_set {cs : List V} {j : Nat} (h : j < cs.length) (v : V) : setAt cs j [v] = cs.set j v := by
 rw [List.set_eq_take_append_cons_drop,if_pos h]
 simp [setAt]
theorem flatE_cons (E : Enc α) (a : α) (l : List α) : flatE E (a :: l) = E.f a ++ flatE E l := by simp [flatE]
theorem flatE_setc {E : Enc α} {j : Nat} {v : V} {x : α} (hj : j < E.w) : ∀ {l : List α} {i : Nat},i < l.length → (E.f (E.at l i)).set j v = E.f x → (flatE E l).set (i * E.w + j) v = flatE E (l.set i x)
 | [],_,h,_ => by cases h
 | y :: ys,0,_,h => by
  have e : E.at (y :: ys) 0 = y := by simp [Enc.at]
  rw [e] at h
  rw [flatE_cons,List.set_cons_zero,flatE_cons,List.set_append_left _ _ (by rw [E.len]; omega),Nat.zero_mul,Nat.zero_add,h]
 | y :: ys,i + 1,hi,h => by
  have e : E.at (y :: ys) (i + 1) = E.at ys i := by simp [Enc.at]
  rw [e] at h
  have ih := flatE_setc (E := E) (v := v) (x := x) hj (l := ys) (i := i) (by simpa using hi) h
  rw [flatE_cons,List.set_cons_succ,flatE_cons,List.set_append_right _ _ (by rw [E.len,Nat.add_mul]; omega),E.len,show (i + 1) * E.w + j - E.w = i * E.w + j by rw [Nat.add_mul]; omega,ih]
theorem flatE_at_set [Orc] {E : Enc α} {l : List α} {i j : Nat} {v : V} {x : α} (hi : i < l.length) (hj : j < E.w) (h : (E.f (E.at l i)).set j v = E.f x) : setAt (flatE E l) (i * E.w + j) [v] = flatE E (l.set i x) := by
 rw [setAt_set (by rw [flatE_len]; have : i * E.w + E.w ≤ l.length * E.w := (by rw [← Nat.succ_mul]; exact Nat.mul_le_mul_right _ hi); omega),flatE_setc hj hi h]
def mix (g : α → α) (l : List α) (i : Nat) : List α := (l.take i).map g ++ l.drop i
theorem mix_0 (g : α → α) (l : List α) : mix g l 0 = l := by simp [mix]
theorem mix_len (g : α → α) (l : List α) (i : Nat) : (mix g l i).length = l.length := by simp [mix]; omega
theorem mix_all (g : α → α) (l : List α) : mix g l l.length = l.map g := by simp [mix]
theorem mix_get (g : α → α) {l : List α} {i : Nat} (h : i < l.length) : (mix g l i)[i]? = l[i]? := by
 have : ((l.take i).map g).length = i := by simp; omega
 rw [mix,List.getElem?_append_right (by omega),this,Nat.sub_self]
 simp
theorem mix_at (E : Enc α) (g : α → α) {l : List α} {i : Nat} (h : i < l.length) : E.at (mix g l i) i = E.at l i := by
 have h1 := E.at_some (l := mix g l i) (i := i) (by rw [mix_len]; exact h)
 rw [mix_get g h,E.at_some h] at h1
 exact (Option.some.inj h1).symm
theorem mix_set (E : Enc α) (g : α → α) {l : List α} {i : Nat} (h : i < l.length) : (mix g l i).set i (g (E.at l i)) = mix g l (i + 1) := by
 have h0 : ((l.take i).map g).length = i := by simp; omega
 have h1 : l.drop i = E.at l i :: l.drop (i + 1) := by
  rw [List.drop_eq_getElem_cons h]
  have h2 := E.at_some h
  rw [List.getElem?_eq_getElem h] at h2
  rw [Option.some.inj h2]
 have h3 : (l.take (i + 1)).map g = (l.take i).map g ++ [g (E.at l i)] := by
  rw [List.take_add_one,E.at_some h]; simp
 unfold mix
 rw [List.set_append_right _ _ (by omega),h0,Nat.sub_self,h1,List.set_cons_zero,h3]
 simp
end Go.An
namespace Go.Proofs.Ytejkgnmjdaohdaa
open Go Go.An
set_option maxRecDepth 4000
def CpEq (c d : Cp) : Prop := c.note = d.note ∧ c.faces = d.faces ∧ c.names = d.names ∧ c.secrets = d.secrets ∧ c.packets = d.packets
def PkT (p : Pk) : Prop := 0 ≤ p.time ∧ p.time ≤ 1000000000000000
theorem val_pk {c : Cp} (h : valE c = 0) : (∀ p ∈ c.packets,pfB p c.faces = true) ∧ (c.packets.length ≤ 100 ∧ c.secrets.length ≤ 60 ∧ c.names.length ≤ 60 ∧ c.faces.length ≤ 4) ∧ 1 ≤ c.faces.length := by
 unfold valE at h
 split at h
 ·cases h
 ·rename_i h1
  split at h
  ·cases h
  ·rename_i h2
   unfold largeB at h1
   unfold wrongB at h2
   simp only [Bool.or_eq_true,decide_eq_true_eq,not_or,List.any_eq_true,not_exists,not_and,Bool.not_eq_true',Bool.not_eq_false] at h1 h2
   refine ⟨fun p hp => h2.2 p hp,by omega,?_⟩
   have := h2.1.1.1.1.1
   omega
theorem pf_pk {p : Pk} {fs : List Fc} (h : pfB p fs = true) : PkT p ∧ 0 ≤ p.face ∧ p.face < fs.length ∧ p.data.length ≤ 400 ∧ (p.data.length : Int) ≤ p.real ∧ p.real ≤ 1000000 := by
 unfold pfB pkB at h
 simp only [Bool.and_eq_true,decide_eq_true_eq,Bool.or_eq_true] at h
 exact ⟨⟨h.2.1.1.1.1.1.1,h.2.1.1.1.1.1.2⟩,h.1.1,h.1.2,by have := h.2.1.1.1.1.2; omega,h.2.1.2,h.2.2⟩
theorem val_S {c : Cp} (hv : valE c = 0) : CpS c := by
 obtain ⟨hpf,⟨h1,h2,h3,h4⟩,_⟩ := val_pk hv
 have hw : (∀ n ∈ c.names,nmB n = true) ∧ ∀ s ∈ c.secrets,scB s = true := by
  unfold valE at hv
  split at hv
  ·cases hv
  ·split at hv
   ·cases hv
   ·rename_i h2
    unfold wrongB at h2
    simp only [Bool.or_eq_true,decide_eq_true_eq,not_or,List.any_eq_true,not_exists,not_and,Bool.not_eq_true',Bool.not_eq_false] at h2
    exact ⟨fun n hn => h2.1.1.2 n hn,fun n hn => h2.1.2 n hn⟩
 refine ⟨by omega,fun x hx => ?_,fun x hx => ?_,fun x hx => ?_⟩
 ·have := hw.1 x hx
  unfold nmB at this
  simp only [Bool.and_eq_true,decide_eq_true_eq] at this
  omega
 ·have := hw.2 x hx
  unfold scB at this
  simp only [Bool.and_eq_true,decide_eq_true_eq] at this
  omega
 ·have := pf_pk (hpf x hx)
  omega
def noCp : Cp := ⟨[],true,[],true,[],true,[],true,[]⟩
theorem noCp_f : cpE.f noCp = [.str [],.nilslice,.nilslice,.nilslice,.nilslice] := by
 rw [cpE_f]
 simp only [noCp,slV_nil]
theorem CpEq.rfl' (c : Cp) : CpEq c c := ⟨rfl,rfl,rfl,rfl,rfl⟩
theorem fn76 (c : Cp) {b : Bool} {l : List Pk} (H : Hp) : callL Try.prog pr 76 [.agg (cpE.f c),slV b pkE l] H = some (.agg (cpE.f {c with packetsN := b,packets := l}),H) := by
 refine run76 (Nat.le_of_ble_eq_true rfl) ?_
 simp only [cpE_f]
 simp (disch := first | rfl | omega | exact lt_new _ | assumption | decide | (simp [dkS] <;> omega) | fail) only [r76_0,r76_1,r76_2,c76,rs76,gc76,go_sem,↓reduceIte,Nat.reduceLT,Nat.reduceEqDiff,Nat.reduceAdd,Nat.reduceMul,Nat.reduceSub,Int.reduceAdd,Int.reduceSub,Nat.reduceLeDiff,Int.reduceLT,Int.reduceLE,Int.reduceEq,Int.reduceNeg,Int.reduceToNat,loadV_ptr,storeV_ptr,tkS]
 exact finQ_app (by simp (disch := first | rfl | omega | exact lt_new _ | assumption | decide | (simp [dkS] <;> omega) | fail) only [go_sem,↓reduceIte,Nat.reduceLT,Nat.reduceEqDiff,Nat.reduceAdd,Nat.reduceMul,Nat.reduceSub,Int.reduceAdd,Int.reduceSub,Nat.reduceLeDiff,Int.reduceLT,Int.reduceLE,Int.reduceEq,Int.reduceNeg,Int.reduceToNat])
theorem RowM.four {α : Type} {E : Enc α} {n : Nat} {L M : Hp} {v : V} {l : List α} (h : RowM E (n + 2 + L.length) M v l) : (v = .nilslice ∧ l = []) ∨ ∃ j g,v = .slice (n + (L.length + j + 1 + 1)) g 0 l.length E.w .full ∧ j < M.length ∧ getRow M j g = some (flatE E l,true) := by
 rcases h with h | ⟨j,g,rfl,h⟩
 ·exact Or.inl h
 ·exact Or.inr ⟨j,g,by rw [show n + 2 + L.length + j = n + (L.length + j + 1 + 1) by omega],h⟩
def addF (t b : Int) : Int × Bool := if 1000000000000000 < b ∨ b < -1000000000000000 then (0,false) else (t + b,okT (t + b))
theorem fn93 {t b : Int} (h0 : 0 ≤ t) (h1 : t ≤ 1000000000000000) (H : Hp) : callL Try.prog pr 93 [.int .i64 t,.int .i64 b] H = some (.tup [.int .i64 (addF t b).1,.bool (addF t b).2],H) := by
 have h68 := fun n H => fn68 n H
 unfold addF
 by_cases hb : 1000000000000000 < b ∨ b < -1000000000000000
 ·rw [if_pos hb]
  have hb2 : ¬ 1000000000000000 < b → b < -1000000000000000 := fun h => hb.resolve_left h
  refine run93 (Nat.le_of_ble_eq_true rfl) ?_
  have hy := True.intro
  repeat' (first | simp (disch := first | rfl | omega | exact lt_new _ | assumption | decide | (simp [dkS] <;> omega) | fail) only [r93_0,r93_1,r93_2,r93_3,c93,rs93,gc93,h68,hb2,go_sem,↓reduceIte,Nat.reduceLT,Nat.reduceEqDiff,Nat.reduceAdd,Nat.reduceMul,Nat.reduceSub,Int.reduceAdd,Int.reduceSub,Nat.reduceLeDiff,Int.reduceLT,Int.reduceLE,Int.reduceEq,Int.reduceNeg,Int.reduceToNat,hy] | ((first | refine guardB_dec (fun hy => ?_) (fun hy => ?_) | refine guardB_bool (fun hy => ?_) (fun hy => ?_) | refine guardQ_ite (fun hy => ?_) (fun hy => ?_) | refine brQ_dec (fun hy => ?_) (fun hy => ?_) | refine brQ_bool (fun hy => ?_) (fun hy => ?_)) <;> (try simp only [Bool.not_eq_true',Bool.not_eq_false',Bool.and_eq_true,Bool.or_eq_false_iff,decide_eq_true_eq,decide_eq_false_iff_not] at hy)))
  all_goals (try ((first | refine finQ_same ?_ | refine finQ_app ?_ | (rw [List.append_assoc]; refine finQ_app ?_)) <;> simp (disch := first | rfl | omega | exact lt_new _ | assumption | decide | (simp [dkS] <;> omega) | fail) only [go_sem,↓reduceIte,Nat.reduceLT,Nat.reduceEqDiff,Nat.reduceAdd,Nat.reduceMul,Nat.reduceSub,Int.reduceAdd,Int.reduceSub,Nat.reduceLeDiff,Int.reduceLT,Int.reduceLE,Int.reduceEq,Int.reduceNeg,Int.reduceToNat,List.append_assoc,List.cons_append,List.nil_append, *]))
  all_goals (try first | rfl | (simp [*]; done) | grind)
 ·rw [if_neg hb]
  have hb1 : ¬ 1000000000000000 < b := fun h => hb (.inl h)
  have hb2 : ¬ b < -1000000000000000 := fun h => hb (.inr h)
  have hw : IntKind.i64.wrap (t + b) = t + b := IntWalk.i64_in _ (by omega)
  refine run93 (Nat.le_of_ble_eq_true rfl) ?_
  have hy := True.intro
  repeat' (first | simp (disch := first | rfl | omega | exact lt_new _ | assumption | decide | (simp [dkS] <;> omega) | fail) only [r93_0,r93_1,r93_2,r93_3,c93,rs93,gc93,h68,hb1,hb2,hw,go_sem,↓reduceIte,Nat.reduceLT,Nat.reduceEqDiff,Nat.reduceAdd,Nat.reduceMul,Nat.reduceSub,Int.reduceAdd,Int.reduceSub,Nat.reduceLeDiff,Int.reduceLT,Int.reduceLE,Int.reduceEq,Int.reduceNeg,Int.reduceToNat,hy] | ((first | refine guardB_dec (fun hy => ?_) (fun hy => ?_) | refine guardB_bool (fun hy => ?_) (fun hy => ?_) | refine guardQ_ite (fun hy => ?_) (fun hy => ?_) | refine brQ_dec (fun hy => ?_) (fun hy => ?_) | refine brQ_bool (fun hy => ?_) (fun hy => ?_)) <;> (try simp only [Bool.not_eq_true',Bool.not_eq_false',Bool.and_eq_true,Bool.or_eq_false_iff,decide_eq_true_eq,decide_eq_false_iff_not] at hy)))
  all_goals (try ((first | refine finQ_same ?_ | refine finQ_app ?_ | (rw [List.append_assoc]; refine finQ_app ?_)) <;> simp (disch := first | rfl | omega | exact lt_new _ | assumption | decide | (simp [dkS] <;> omega) | fail) only [go_sem,↓reduceIte,Nat.reduceLT,Nat.reduceEqDiff,Nat.reduceAdd,Nat.reduceMul,Nat.reduceSub,Int.reduceAdd,Int.reduceSub,Nat.reduceLeDiff,Int.reduceLT,Int.reduceLE,Int.reduceEq,Int.reduceNeg,Int.reduceToNat,List.append_assoc,List.cons_append,List.nil_append, *]))
  all_goals (try first | rfl | (simp [*]; done) | grind)
theorem fn92 {t b : Int} (h0 : 0 ≤ t) (h1 : t ≤ 1000000000000000) (H : Hp) : callL Try.prog pr 92 [.int .i64 t,.ipt [.int .i64 b] 0] H = some (.tup [.int .i64 (addF t b).1,.bool (addF t b).2],H) := by
 have h93 := fun H => fn93 (b := b) h0 h1 H
 refine run92 (Nat.le_of_ble_eq_true rfl) ?_
 have hy := True.intro
 repeat' (first | simp (disch := first | rfl | omega | exact lt_new _ | assumption | decide | (simp [dkS] <;> omega) | fail) only [r92_0,r92_1,c92,rs92,gc92,h93,go_sem,↓reduceIte,Nat.reduceLT,Nat.reduceEqDiff,Nat.reduceAdd,Nat.reduceMul,Nat.reduceSub,Int.reduceAdd,Int.reduceSub,Nat.reduceLeDiff,Int.reduceLT,Int.reduceLE,Int.reduceEq,Int.reduceNeg,Int.reduceToNat,hy] | ((first | refine guardB_dec (fun hy => ?_) (fun hy => ?_) | refine guardB_bool (fun hy => ?_) (fun hy => ?_) | refine guardQ_ite (fun hy => ?_) (fun hy => ?_) | refine brQ_dec (fun hy => ?_) (fun hy => ?_) | refine brQ_bool (fun hy => ?_) (fun hy => ?_)) <;> (try simp only [Bool.not_eq_true',Bool.not_eq_false',Bool.and_eq_true,Bool.or_eq_false_iff,decide_eq_true_eq,decide_eq_false_iff_not] at hy)))
 all_goals (try ((first | refine finQ_same ?_ | refine finQ_app ?_ | (rw [List.append_assoc]; refine finQ_app ?_)) <;> simp (disch := first | rfl | omega | exact lt_new _ | assumption | decide | (simp [dkS] <;> omega) | fail) only [go_sem,↓reduceIte,Nat.reduceLT,Nat.reduceEqDiff,Nat.reduceAdd,Nat.reduceMul,Nat.reduceSub,Int.reduceAdd,Int.reduceSub,Nat.reduceLeDiff,Int.reduceLT,Int.reduceLE,Int.reduceEq,Int.reduceNeg,Int.reduceToNat,List.append_assoc,List.cons_append,List.nil_append, *]))
 all_goals (try first | rfl | (simp [*]; done) | grind)
theorem fn71 {b b' : Bool} {l l' : List UInt8} (hl : l.length ≤ 2 ^ 62) (H : Hp) : callL Try.prog pr 71 [slV b byE l,slV b' byE l'] H = some (.bool (decide (l = l')),H) := by
 rw [← sameL_eq]
 refine run71 (Nat.le_of_ble_eq_true rfl) ?_
 by_cases hg : (l.length : Int) = l'.length
 case neg =>
  rw [sameL_len (by omega)]
  simp (disch := first | rfl | omega | exact lt_new _ | assumption | decide | (simp [dkS] <;> omega) | fail) only [r71_0,r71_1,r71_2,r71_3,r71_4,r71_5,r71_6,r71_7,r71_8,l71_9,r71_10,c71,rs71,gc71,go_sem,↓reduceIte,Nat.reduceLT,Nat.reduceEqDiff,Nat.reduceAdd,Nat.reduceMul,Nat.reduceSub,Int.reduceAdd,Int.reduceSub,Nat.reduceLeDiff,Int.reduceLT,Int.reduceLE,Int.reduceEq,Int.reduceNeg,Int.reduceToNat,hg]
  exact finQ_same (by simp (disch := first | rfl | omega | exact lt_new _ | assumption | decide | (simp [dkS] <;> omega) | fail) only [go_sem,↓reduceIte,Nat.reduceLT,Nat.reduceEqDiff,Nat.reduceAdd,Nat.reduceMul,Nat.reduceSub,Int.reduceAdd,Int.reduceSub,Nat.reduceLeDiff,Int.reduceLT,Int.reduceLE,Int.reduceEq,Int.reduceNeg,Int.reduceToNat])
 simp (disch := first | rfl | omega | exact lt_new _ | assumption | decide | (simp [dkS] <;> omega) | fail) only [r71_0,r71_1,r71_2,r71_3,r71_4,r71_5,r71_6,r71_7,r71_8,r71_10,c71,rs71,gc71,go_sem,↓reduceIte,Nat.reduceLT,Nat.reduceEqDiff,Nat.reduceAdd,Nat.reduceMul,Nat.reduceSub,Int.reduceAdd,Int.reduceSub,Nat.reduceLeDiff,Int.reduceLT,Int.reduceLE,Int.reduceEq,Int.reduceNeg,Int.reduceToNat,hg]
 refine Wp_loop (fun m T D H' => ∃ i,m = l.length - i ∧ i ≤ l.length ∧ D = [] ∧ H' = H ∧ get T 0 = slV b byE l ∧ get T 1 = slV b' byE l' ∧ get T 12 = .int .i64 l.length ∧ get T 13 = .int .i64 i ∧ sameL (fun x y => decide (x = y)) l l' = sameL (fun x y => decide (x = y)) (l.drop i) (l'.drop i)) ?_ l.length _ _ _ ?_
 case refine_2 => exact ⟨0,by simp [go_sem,hg]⟩
 rintro m T D H' ⟨i,rfl,hi,rfl,rfl,t0,t1,t12,t13,hs⟩
 by_cases hlt : i < l.length
 ·have hlt' : (i : Int) < l.length := by omega
  have hlt3 : i < l'.length := by omega
  have hlt2 : (i : Int) < l'.length := by omega
  rw [sameL_drop byE hlt hlt3] at hs
  by_cases hq : byE.at l i = byE.at l' i
  ·rw [decide_eq_true hq,Bool.true_and] at hs
   simp (disch := first | rfl | omega | exact lt_new _ | assumption | decide | (simp [dkS] <;> omega) | fail) only [r71_0,r71_1,r71_2,r71_3,r71_4,r71_5,r71_6,r71_7,r71_8,l71_9,r71_10,c71,rs71,gc71,go_sem,↓reduceIte,Nat.reduceLT,Nat.reduceEqDiff,Nat.reduceAdd,Nat.reduceMul,Nat.reduceSub,Int.reduceAdd,Int.reduceSub,Nat.reduceLeDiff,Int.reduceLT,Int.reduceLE,Int.reduceEq,Int.reduceNeg,Int.reduceToNat,t0,t1,t12,t13,hlt',hq]
   exact ⟨_,by omega,i + 1,rfl,hlt,rfl,hs⟩
  ·rw [decide_eq_false hq,Bool.false_and] at hs
   have hq2 := hq
   rw [← UInt8.toNat_inj,← Int.natCast_inj] at hq2
   simp (disch := first | rfl | omega | exact lt_new _ | assumption | decide | (simp [dkS] <;> omega) | fail) only [r71_0,r71_1,r71_2,r71_3,r71_4,r71_5,r71_6,r71_7,r71_8,l71_9,r71_10,c71,rs71,gc71,go_sem,↓reduceIte,Nat.reduceLT,Nat.reduceEqDiff,Nat.reduceAdd,Nat.reduceMul,Nat.reduceSub,Int.reduceAdd,Int.reduceSub,Nat.reduceLeDiff,Int.reduceLT,Int.reduceLE,Int.reduceEq,Int.reduceNeg,Int.reduceToNat,t0,t1,t12,t13,hlt',hq2]
   exact finQ_same (by simp (disch := first | rfl | omega | exact lt_new _ | assumption | decide | (simp [dkS] <;> omega) | fail) only [go_sem,↓reduceIte,Nat.reduceLT,Nat.reduceEqDiff,Nat.reduceAdd,Nat.reduceMul,Nat.reduceSub,Int.reduceAdd,Int.reduceSub,Nat.reduceLeDiff,Int.reduceLT,Int.reduceLE,Int.reduceEq,Int.reduceNeg,Int.reduceToNat,hs])
 ·obtain rfl : i = l.length := by omega
  have hs1 : sameL (fun x y => decide (x = y)) l l' = true := by rw [hs,List.drop_length,List.drop_eq_nil_of_le (by omega)]; rfl
  simp (disch := first | rfl | omega | exact lt_new _ | assumption | decide | (simp [dkS] <;> omega) | fail) only [r71_0,r71_1,r71_2,r71_3,r71_4,r71_5,r71_6,r71_7,r71_8,l71_9,r71_10,c71,rs71,gc71,go_sem,↓reduceIte,Nat.reduceLT,Nat.reduceEqDiff,Nat.reduceAdd,Nat.reduceMul,Nat.reduceSub,Int.reduceAdd,Int.reduceSub,Nat.reduceLeDiff,Int.reduceLT,Int.reduceLE,Int.reduceEq,Int.reduceNeg,Int.reduceToNat,t0,t1,t12,t13,Int.lt_irrefl]
  exact finQ_same (by simp (disch := first | rfl | omega | exact lt_new _ | assumption | decide | (simp [dkS] <;> omega) | fail) only [go_sem,↓reduceIte,Nat.reduceLT,Nat.reduceEqDiff,Nat.reduceAdd,Nat.reduceMul,Nat.reduceSub,Int.reduceAdd,Int.reduceSub,Nat.reduceLeDiff,Int.reduceLT,Int.reduceLE,Int.reduceEq,Int.reduceNeg,Int.reduceToNat,hs1])
theorem val_tx {c : Cp} (hv : valE c = 0) : c.note.length ≤ 200 ∧ (∀ x ∈ c.faces,x.name.length ≤ 200) ∧ (∀ x ∈ c.names,x.text.length ≤ 200 ∧ x.addr.length ≤ 16) ∧ (∀ x ∈ c.secrets,x.label.length ≤ 200 ∧ x.key.length ≤ 200) ∧ ∀ x ∈ c.packets,x.note.length ≤ 200 ∧ x.data.length ≤ 400 := by
 have tx : ∀ {s},txB s = true → s.length ≤ 200 := fun h => by
  unfold txB at h
  simp only [Bool.and_eq_true,decide_eq_true_eq] at h
  exact h.1
 unfold valE at hv
 split at hv
 ·cases hv
 ·split at hv
  ·cases hv
  ·rename_i h2
   unfold wrongB at h2
   simp only [Bool.or_eq_true,decide_eq_true_eq,not_or,List.any_eq_true,not_exists,not_and,Bool.not_eq_true',Bool.not_eq_false] at h2
   obtain ⟨⟨⟨⟨⟨_,a0⟩,a1⟩,a2⟩,a3⟩,a4⟩ := h2
   refine ⟨tx a0,fun x hx => ?_,fun x hx => ?_,fun x hx => ?_,fun x hx => ?_⟩
   ·have := a1 x hx
    unfold fcB at this
    simp only [Bool.and_eq_true,decide_eq_true_eq] at this
    exact tx this.1.1.1.1
   ·have := a2 x hx
    unfold nmB at this
    simp only [Bool.and_eq_true,decide_eq_true_eq] at this
    exact ⟨tx this.1.1,by omega⟩
   ·have := a3 x hx
    unfold scB at this
    simp only [Bool.and_eq_true,decide_eq_true_eq] at this
    exact ⟨tx this.1.1.1,by omega⟩
   ·have := a4 x hx
    unfold pfB pkB at this
    simp only [Bool.and_eq_true,decide_eq_true_eq] at this
    exact ⟨tx this.2.1.1.1.2,by omega⟩
theorem fn21v (c : Cp) (hc : CpOk c) (hv : valE c = 0) (H : Hp) : ∃ n,callL Try.prog pr 21 [.agg (cpE.f c)] H = some (.int .i64 n,H) ∧ 0 ≤ n ∧ n ≤ 1000000 := by
 suffices h : ∃ r,callL Try.prog pr 21 [.agg (cpE.f c)] H = some r ∧ ∃ n,r = (.int .i64 n,H) ∧ 0 ≤ n ∧ n ≤ 1000000 by
  obtain ⟨r,h1,n,rfl,h2⟩ := h; exact ⟨n,h1,h2⟩
 obtain ⟨w0,w1,w2,w3,w4⟩ := val_tx hv
 obtain ⟨_,⟨l4,l3,l2,l1⟩,_⟩ := val_pk hv
 obtain ⟨o0,o1,o1l,o2,o2l,o3,o3l,o4,o4l⟩ := hc
 refine ex21 (Nat.le_of_ble_eq_true rfl) ?_
 simp (disch := first | rfl | omega | exact lt_new _ | assumption | decide | (simp [dkS] <;> omega) | fail) only [r21_0,r21_1,r21_2,c21,loadV_ptr,storeV_ptr,tkS,go_sem,↓reduceIte,Nat.reduceLT,Nat.reduceEqDiff,Nat.reduceAdd,Nat.reduceMul,Nat.reduceSub,Int.reduceAdd,Int.reduceSub,Nat.reduceLeDiff,Int.reduceLT,Int.reduceLE,Int.reduceEq,Int.reduceNeg,Int.reduceToNat]
 refine Wp_loop (fun m T D H' => ∃ i n,m = c.faces.length - i ∧ i ≤ c.faces.length ∧ D = [] ∧ H' = H ++ [.row 0 (cpE.f c) true] ∧ get T 1 = .ptr H.length 0 0 ∧ get T 4 = .int .i64 i ∧ get T 3 = .int .i64 n ∧ 0 ≤ n ∧ n ≤ 3000 + i * 200) ?_ c.faces.length _ _ _ ?_
 case refine_2 => exact ⟨0,_,by simp (disch := first | rfl | omega | exact lt_new _ | assumption | decide | (simp [dkS] <;> omega) | fail) only [go_sem,↓reduceIte,Nat.reduceLT,Nat.reduceEqDiff,Nat.reduceAdd,Nat.reduceMul,Nat.reduceSub,Int.reduceAdd,Int.reduceSub,Nat.reduceLeDiff,Int.reduceLT,Int.reduceLE,Int.reduceEq,Int.reduceNeg,Int.reduceToNat]; simp; exact ⟨rfl,by omega,by omega⟩⟩
 rintro m T D H' ⟨i,n,rfl,hi,rfl,rfl,t1,ti,t3,n0,n1⟩
 by_cases hlt : i < c.faces.length
 ·have hlt' : (i : Int) < c.faces.length := by omega
  have qw := w1 _ (fcE.at_mem hlt)
  have q1 := (o1 _ (fcE.at_mem hlt)).1
  simp (disch := first | rfl | omega | exact lt_new _ | assumption | decide | (simp [dkS] <;> omega) | fail) only [l21_6,r21_3,r21_4,r21_5,loadV_ptr,storeV_ptr,tkS,t1,ti,t3,hlt',go_sem,↓reduceIte,Nat.reduceLT,Nat.reduceEqDiff,Nat.reduceAdd,Nat.reduceMul,Nat.reduceSub,Int.reduceAdd,Int.reduceSub,Nat.reduceLeDiff,Int.reduceLT,Int.reduceLE,Int.reduceEq,Int.reduceNeg,Int.reduceToNat]
  exact ⟨_,by omega,i + 1,_,rfl,hlt,rfl,rfl,by omega,by omega⟩
 ·obtain rfl : i = c.faces.length := by omega
  simp (disch := first | rfl | omega | exact lt_new _ | assumption | decide | (simp [dkS] <;> omega) | fail) only [l21_6,r21_3,r21_7,loadV_ptr,storeV_ptr,tkS,t1,ti,t3,Int.lt_irrefl,go_sem,↓reduceIte,Nat.reduceLT,Nat.reduceEqDiff,Nat.reduceAdd,Nat.reduceMul,Nat.reduceSub,Int.reduceAdd,Int.reduceSub,Nat.reduceLeDiff,Int.reduceLT,Int.reduceLE,Int.reduceEq,Int.reduceNeg,Int.reduceToNat]
  refine Wp_loop (fun m T D H' => ∃ i n,m = c.names.length - i ∧ i ≤ c.names.length ∧ D = [] ∧ H' = H ++ [.row 0 (cpE.f c) true] ∧ get T 1 = .ptr H.length 0 0 ∧ get T 5 = .int .i64 i ∧ get T 3 = .int .i64 n ∧ 0 ≤ n ∧ n ≤ 4000 + i * 300) ?_ c.names.length _ _ _ ?_
  case refine_2 => exact ⟨0,_,by simp (disch := first | rfl | omega | exact lt_new _ | assumption | decide | (simp [dkS] <;> omega) | fail) only [go_sem,↓reduceIte,Nat.reduceLT,Nat.reduceEqDiff,Nat.reduceAdd,Nat.reduceMul,Nat.reduceSub,Int.reduceAdd,Int.reduceSub,Nat.reduceLeDiff,Int.reduceLT,Int.reduceLE,Int.reduceEq,Int.reduceNeg,Int.reduceToNat,t1,t3]; simp; exact ⟨rfl,by omega,by omega⟩⟩
  clear t1 t3 ti
  rintro m T D H' ⟨i,n,rfl,hi,rfl,rfl,t1,ti,t3,n0,n1⟩
  by_cases hlt : i < c.names.length
  ·have hlt' : (i : Int) < c.names.length := by omega
   have qw := w2 _ (nmE.at_mem hlt)
   have q1 := o2 _ (nmE.at_mem hlt)
   have q2 := q1.2
   simp (disch := first | rfl | omega | exact lt_new _ | assumption | decide | (simp [dkS] <;> omega) | fail) only [l21_11,r21_8,r21_9,r21_10,loadV_ptr,storeV_ptr,tkS,t1,ti,t3,hlt',go_sem,↓reduceIte,Nat.reduceLT,Nat.reduceEqDiff,Nat.reduceAdd,Nat.reduceMul,Nat.reduceSub,Int.reduceAdd,Int.reduceSub,Nat.reduceLeDiff,Int.reduceLT,Int.reduceLE,Int.reduceEq,Int.reduceNeg,Int.reduceToNat]
   exact ⟨_,by omega,i + 1,_,rfl,hlt,rfl,rfl,by omega,by omega⟩
  ·obtain rfl : i = c.names.length := by omega
   simp (disch := first | rfl | omega | exact lt_new _ | assumption | decide | (simp [dkS] <;> omega) | fail) only [l21_11,r21_8,r21_12,loadV_ptr,storeV_ptr,tkS,t1,ti,t3,Int.lt_irrefl,go_sem,↓reduceIte,Nat.reduceLT,Nat.reduceEqDiff,Nat.reduceAdd,Nat.reduceMul,Nat.reduceSub,Int.reduceAdd,Int.reduceSub,Nat.reduceLeDiff,Int.reduceLT,Int.reduceLE,Int.reduceEq,Int.reduceNeg,Int.reduceToNat]
   refine Wp_loop (fun m T D H' => ∃ i n,m = c.secrets.length - i ∧ i ≤ c.secrets.length ∧ D = [] ∧ H' = H ++ [.row 0 (cpE.f c) true] ∧ get T 1 = .ptr H.length 0 0 ∧ get T 6 = .int .i64 i ∧ get T 3 = .int .i64 n ∧ 0 ≤ n ∧ n ≤ 30000 + i * 500) ?_ c.secrets.length _ _ _ ?_
   case refine_2 => exact ⟨0,_,by simp (disch := first | rfl | omega | exact lt_new _ | assumption | decide | (simp [dkS] <;> omega) | fail) only [go_sem,↓reduceIte,Nat.reduceLT,Nat.reduceEqDiff,Nat.reduceAdd,Nat.reduceMul,Nat.reduceSub,Int.reduceAdd,Int.reduceSub,Nat.reduceLeDiff,Int.reduceLT,Int.reduceLE,Int.reduceEq,Int.reduceNeg,Int.reduceToNat,t1,t3]; simp; exact ⟨rfl,by omega,by omega⟩⟩
   clear t1 t3 ti
   rintro m T D H' ⟨i,n,rfl,hi,rfl,rfl,t1,ti,t3,n0,n1⟩
   by_cases hlt : i < c.secrets.length
   ·have hlt' : (i : Int) < c.secrets.length := by omega
    have qw := w3 _ (scE.at_mem hlt)
    have q1 := (o3 _ (scE.at_mem hlt)).1
    simp (disch := first | rfl | omega | exact lt_new _ | assumption | decide | (simp [dkS] <;> omega) | fail) only [l21_16,r21_13,r21_14,r21_15,loadV_ptr,storeV_ptr,tkS,t1,ti,t3,hlt',go_sem,↓reduceIte,Nat.reduceLT,Nat.reduceEqDiff,Nat.reduceAdd,Nat.reduceMul,Nat.reduceSub,Int.reduceAdd,Int.reduceSub,Nat.reduceLeDiff,Int.reduceLT,Int.reduceLE,Int.reduceEq,Int.reduceNeg,Int.reduceToNat]
    exact ⟨_,by omega,i + 1,_,rfl,hlt,rfl,rfl,by omega,by omega⟩
   ·obtain rfl : i = c.secrets.length := by omega
    simp (disch := first | rfl | omega | exact lt_new _ | assumption | decide | (simp [dkS] <;> omega) | fail) only [l21_16,r21_13,r21_17,loadV_ptr,storeV_ptr,tkS,t1,ti,t3,Int.lt_irrefl,go_sem,↓reduceIte,Nat.reduceLT,Nat.reduceEqDiff,Nat.reduceAdd,Nat.reduceMul,Nat.reduceSub,Int.reduceAdd,Int.reduceSub,Nat.reduceLeDiff,Int.reduceLT,Int.reduceLE,Int.reduceEq,Int.reduceNeg,Int.reduceToNat]
    refine Wp_loop (fun m T D H' => ∃ i n,m = c.packets.length - i ∧ i ≤ c.packets.length ∧ D = [] ∧ H' = H ++ [.row 0 (cpE.f c) true] ∧ get T 1 = .ptr H.length 0 0 ∧ get T 7 = .int .i64 i ∧ get T 3 = .int .i64 n ∧ 0 ≤ n ∧ n ≤ 70000 + i * 700) ?_ c.packets.length _ _ _ ?_
    case refine_2 => exact ⟨0,_,by simp (disch := first | rfl | omega | exact lt_new _ | assumption | decide | (simp [dkS] <;> omega) | fail) only [go_sem,↓reduceIte,Nat.reduceLT,Nat.reduceEqDiff,Nat.reduceAdd,Nat.reduceMul,Nat.reduceSub,Int.reduceAdd,Int.reduceSub,Nat.reduceLeDiff,Int.reduceLT,Int.reduceLE,Int.reduceEq,Int.reduceNeg,Int.reduceToNat,t1,t3]; simp; exact ⟨rfl,by omega,by omega⟩⟩
    clear t1 t3 ti
    rintro m T D H' ⟨i,n,rfl,hi,rfl,rfl,t1,ti,t3,n0,n1⟩
    by_cases hlt : i < c.packets.length
    ·have hlt' : (i : Int) < c.packets.length := by omega
     have qw := w4 _ (pkE.at_mem hlt)
     have q1 := (o4 _ (pkE.at_mem hlt)).2.2.2.2
     simp (disch := first | rfl | omega | exact lt_new _ | assumption | decide | (simp [dkS] <;> omega) | fail) only [l21_21,r21_18,r21_19,r21_20,loadV_ptr,storeV_ptr,tkS,t1,ti,t3,hlt',go_sem,↓reduceIte,Nat.reduceLT,Nat.reduceEqDiff,Nat.reduceAdd,Nat.reduceMul,Nat.reduceSub,Int.reduceAdd,Int.reduceSub,Nat.reduceLeDiff,Int.reduceLT,Int.reduceLE,Int.reduceEq,Int.reduceNeg,Int.reduceToNat]
     exact ⟨_,by omega,i + 1,_,rfl,hlt,rfl,rfl,by omega,by omega⟩
    ·obtain rfl : i = c.packets.length := by omega
     simp (disch := first | rfl | omega | exact lt_new _ | assumption | decide | (simp [dkS] <;> omega) | fail) only [l21_21,r21_18,r21_22,rs21,gc21,loadV_ptr,storeV_ptr,tkS,t1,ti,t3,Int.lt_irrefl,go_sem,↓reduceIte,Nat.reduceLT,Nat.reduceEqDiff,Nat.reduceAdd,Nat.reduceMul,Nat.reduceSub,Int.reduceAdd,Int.reduceSub,Nat.reduceLeDiff,Int.reduceLT,Int.reduceLE,Int.reduceEq,Int.reduceNeg,Int.reduceToNat]
     exact ⟨n,finQ_app (by simp (disch := first | rfl | omega | exact lt_new _ | assumption | decide | (simp [dkS] <;> omega) | fail) only [go_sem,↓reduceIte,Nat.reduceLT,Nat.reduceEqDiff,Nat.reduceAdd,Nat.reduceMul,Nat.reduceSub,Int.reduceAdd,Int.reduceSub,Nat.reduceLeDiff,Int.reduceLT,Int.reduceLE,Int.reduceEq,Int.reduceNeg,Int.reduceToNat]),by omega,by omega⟩
theorem fn58 {b : Bool} {l : List Cp} (hok : ∀ c ∈ l,CpOk c) (hl : l.length ≤ 2 ^ 62) (H : Hp) : callL Try.prog pr 58 [slV b cpE l] H = some (.int .i64 (askE l),H) := by
 refine run58 (Nat.le_of_ble_eq_true rfl) ?_
 simp (disch := first | rfl | omega | exact lt_new _ | assumption | decide | (simp [dkS] <;> omega) | fail) only [r58_0,r58_1,r58_2,r58_3,r58_4,r58_5,r58_6,r58_8,c58,rs58,gc58,go_sem,↓reduceIte,Nat.reduceLT,Nat.reduceEqDiff,Nat.reduceAdd,Nat.reduceMul,Nat.reduceSub,Int.reduceAdd,Int.reduceSub,Nat.reduceLeDiff,Int.reduceLT,Int.reduceLE,Int.reduceEq,Int.reduceNeg,Int.reduceToNat]
 refine Wp_loop (fun m T D H' => ∃ i G,m = l.length - i ∧ i ≤ l.length ∧ D = [] ∧ H' = H ++ G ∧ get T 0 = slV b cpE l ∧ get T 3 = .int .i64 i ∧ askE l = askE (l.drop i)) ?_ l.length _ _ _ ?_
 case refine_2 => exact ⟨0,[],by simp [go_sem]⟩
 rintro m T D H' ⟨i,G,rfl,hi,rfl,rfl,t0,t3,hs⟩
 by_cases hlt : i < l.length
 ·have hlt' : (i : Int) < l.length := by omega
  have h63 := fn63 (cpE.at l i) (hok _ (cpE.at_mem hlt))
  rw [askE_drop hlt] at hs
  by_cases hq : valE (cpE.at l i) = 0
  ·rw [if_pos hq] at hs
   simp (disch := first | rfl | omega | exact lt_new _ | assumption | decide | (simp [dkS] <;> omega) | fail) only [r58_0,r58_1,r58_2,r58_3,r58_4,r58_5,r58_6,l58_7,r58_8,c58,rs58,gc58,loadV_ptr,storeV_ptr,tkS,t0,t3,hlt',h63,hq,go_sem,↓reduceIte,Nat.reduceLT,Nat.reduceEqDiff,Nat.reduceAdd,Nat.reduceMul,Nat.reduceSub,Int.reduceAdd,Int.reduceSub,Nat.reduceLeDiff,Int.reduceLT,Int.reduceLE,Int.reduceEq,Int.reduceNeg,Int.reduceToNat]
   exact ⟨_,by omega,i + 1,_,rfl,hlt,rfl,rfl,hs⟩
  ·rw [if_neg hq] at hs
   simp (disch := first | rfl | omega | exact lt_new _ | assumption | decide | (simp [dkS] <;> omega) | fail) only [r58_0,r58_1,r58_2,r58_3,r58_4,r58_5,r58_6,l58_7,r58_8,c58,rs58,gc58,loadV_ptr,storeV_ptr,tkS,t0,t3,hlt',h63,hq,go_sem,↓reduceIte,Nat.reduceLT,Nat.reduceEqDiff,Nat.reduceAdd,Nat.reduceMul,Nat.reduceSub,Int.reduceAdd,Int.reduceSub,Nat.reduceLeDiff,Int.reduceLT,Int.reduceLE,Int.reduceEq,Int.reduceNeg,Int.reduceToNat]
   exact finQ_app (by simp (disch := first | rfl | omega | exact lt_new _ | assumption | decide | (simp [dkS] <;> omega) | fail) only [go_sem,↓reduceIte,Nat.reduceLT,Nat.reduceEqDiff,Nat.reduceAdd,Nat.reduceMul,Nat.reduceSub,Int.reduceAdd,Int.reduceSub,Nat.reduceLeDiff,Int.reduceLT,Int.reduceLE,Int.reduceEq,Int.reduceNeg,Int.reduceToNat,hs])
 ·obtain rfl : i = l.length := by omega
  rw [List.drop_length] at hs
  simp (disch := first | rfl | omega | exact lt_new _ | assumption | decide | (simp [dkS] <;> omega) | fail) only [r58_0,r58_1,r58_2,r58_3,r58_4,r58_5,r58_6,l58_7,r58_8,c58,rs58,gc58,t0,t3,Int.lt_irrefl,go_sem,↓reduceIte,Nat.reduceLT,Nat.reduceEqDiff,Nat.reduceAdd,Nat.reduceMul,Nat.reduceSub,Int.reduceAdd,Int.reduceSub,Nat.reduceLeDiff,Int.reduceLT,Int.reduceLE,Int.reduceEq,Int.reduceNeg,Int.reduceToNat]
  exact finQ_app (by simp (disch := first | rfl | omega | exact lt_new _ | assumption | decide | (simp [dkS] <;> omega) | fail) only [go_sem,↓reduceIte,Nat.reduceLT,Nat.reduceEqDiff,Nat.reduceAdd,Nat.reduceMul,Nat.reduceSub,Int.reduceAdd,Int.reduceSub,Nat.reduceLeDiff,Int.reduceLT,Int.reduceLE,Int.reduceEq,Int.reduceNeg,Int.reduceToNat,hs,askE])
theorem askE_all : ∀ {l : List Cp},askE l = 0 → ∀ c ∈ l,valE c = 0
 | [],_,c,h => by cases h
 | x :: l,h,c,hc => by
  rw [askE] at h
  by_cases hx : valE x = 0
  ·rw [if_pos hx] at h
   rcases List.mem_cons.1 hc with rfl | hc
   ·exact hx
   ·exact askE_all h c hc
  ·rw [if_neg hx] at h
   exact absurd h hx
theorem fn14 {b : Bool} {l : List Cp} (hok : ∀ c ∈ l,CpOk c) (hl : l.length ≤ 2 ^ 41) (H : Hp) : ∃ n,callL Try.prog pr 14 [slV b cpE l] H = some (.int .i64 n,H) ∧ (askE l = 0 → (l.length : Int) ≤ n) := by
 suffices h : ∃ r,callL Try.prog pr 14 [slV b cpE l] H = some r ∧ ∃ n,r = (.int .i64 n,H) ∧ (askE l = 0 → (l.length : Int) ≤ n) by
  obtain ⟨_,h1,n,rfl,h2⟩ := h; exact ⟨n,h1,h2⟩
 refine ex14 (Nat.le_of_ble_eq_true rfl) ?_
 simp (disch := first | rfl | omega | exact lt_new _ | assumption | decide | (simp [dkS] <;> omega) | fail) only [r14_0,r14_1,r14_2,r14_3,r14_4,r14_5,r14_7,c14,rs14,gc14,go_sem,↓reduceIte,Nat.reduceLT,Nat.reduceEqDiff,Nat.reduceAdd,Nat.reduceMul,Nat.reduceSub,Int.reduceAdd,Int.reduceSub,Nat.reduceLeDiff,Int.reduceLT,Int.reduceLE,Int.reduceEq,Int.reduceNeg,Int.reduceToNat]
 refine Wp_loop (fun m T D H' => ∃ i n,m = l.length - i ∧ i ≤ l.length ∧ D = [] ∧ H' = H ∧ get T 0 = slV b cpE l ∧ get T 4 = .int .i64 i ∧ get T 3 = .int .i64 n ∧ (askE l = 0 → (i : Int) ≤ n ∧ n ≤ i * 1000001)) ?_ l.length _ _ _ ?_
 case refine_2 => exact ⟨0,0,by simp [go_sem]⟩
 rintro m T D H' ⟨i,n,rfl,hi,rfl,rfl,t0,t4,t3,hs⟩
 by_cases hlt : i < l.length
 ·have hlt' : (i : Int) < l.length := by omega
  have hci := hok _ (cpE.at_mem hlt)
  by_cases ha : askE l = 0
  ·obtain ⟨n1,n2⟩ := hs ha
   obtain ⟨w,h21,w1,w2⟩ := fn21v _ hci (askE_all ha _ (cpE.at_mem hlt)) H'
   simp (disch := first | rfl | omega | exact lt_new _ | assumption | decide | (simp [dkS] <;> omega) | fail) only [r14_0,r14_1,r14_2,r14_3,r14_4,r14_5,l14_6,r14_7,c14,rs14,gc14,t0,t3,t4,hlt',h21,go_sem,↓reduceIte,Nat.reduceLT,Nat.reduceEqDiff,Nat.reduceAdd,Nat.reduceMul,Nat.reduceSub,Int.reduceAdd,Int.reduceSub,Nat.reduceLeDiff,Int.reduceLT,Int.reduceLE,Int.reduceEq,Int.reduceNeg,Int.reduceToNat]
   exact ⟨_,by omega,i + 1,_,rfl,hlt,rfl,rfl,fun _ => by omega⟩
  ·obtain ⟨w,h21⟩ := fn21 _ hci H'
   simp (disch := first | rfl | omega | exact lt_new _ | assumption | decide | (simp [dkS] <;> omega) | fail) only [r14_0,r14_1,r14_2,r14_3,r14_4,r14_5,l14_6,r14_7,c14,rs14,gc14,t0,t3,t4,hlt',h21,go_sem,↓reduceIte,Nat.reduceLT,Nat.reduceEqDiff,Nat.reduceAdd,Nat.reduceMul,Nat.reduceSub,Int.reduceAdd,Int.reduceSub,Nat.reduceLeDiff,Int.reduceLT,Int.reduceLE,Int.reduceEq,Int.reduceNeg,Int.reduceToNat]
   exact ⟨_,by omega,i + 1,_,rfl,hlt,rfl,rfl,fun h => absurd h ha⟩
 ·obtain rfl : i = l.length := by omega
  simp (disch := first | rfl | omega | exact lt_new _ | assumption | decide | (simp [dkS] <;> omega) | fail) only [r14_0,r14_1,r14_2,r14_3,r14_4,r14_5,l14_6,r14_7,c14,rs14,gc14,t0,t3,t4,Int.lt_irrefl,go_sem,↓reduceIte,Nat.reduceLT,Nat.reduceEqDiff,Nat.reduceAdd,Nat.reduceMul,Nat.reduceSub,Int.reduceAdd,Int.reduceSub,Nat.reduceLeDiff,Int.reduceLT,Int.reduceLE,Int.reduceEq,Int.reduceNeg,Int.reduceToNat]
  exact ⟨n,finQ_same (by simp (disch := first | rfl | omega | exact lt_new _ | assumption | decide | (simp [dkS] <;> omega) | fail) only [go_sem,↓reduceIte,Nat.reduceLT,Nat.reduceEqDiff,Nat.reduceAdd,Nat.reduceMul,Nat.reduceSub,Int.reduceAdd,Int.reduceSub,Nat.reduceLeDiff,Int.reduceLT,Int.reduceLE,Int.reduceEq,Int.reduceNeg,Int.reduceToNat]),fun ha => (hs ha).1⟩
theorem pk_ne {l : List Pk} {s : List UInt8} {cs : List V} : flatE pkE l ≠ .str s :: cs := by
 cases l with
 | nil => intro h; cases h
 | cons p l =>
  intro h
  rw [flatE_cons,pkE_f] at h
  injection h with h _
  cases h
theorem RowM.setO {n i : Nat} {K : Hp} {w : V} {l : List Pk} {s : List UInt8} {cs : List V} {o : Bool} {g0 : Nat} (h : RowM pkE n K w l) (hi : K[i]? = some (.row g0 (.str s :: cs) o)) (b : AB) : RowM pkE n (K.set i b) w l := by
 rcases h with h | ⟨j,g,e,hj,hr⟩
 ·exact Or.inl h
 ·refine Or.inr ⟨j,g,e,by simpa using hj,?_⟩
  have hne : i ≠ j := by
   rintro rfl
   unfold getRow at hr
   rw [hi] at hr
   simp only at hr
   split at hr
   ·injection hr with hr
    injection hr with hr _
    exact pk_ne hr.symm
   ·cases hr
  unfold getRow at hr ⊢
  rwa [List.getElem?_set_ne hne]
theorem app_rows {n : Nat} {A K : Hp} {w u : V} {acc ps : List Pk} (hn : n = A.length) (hw : RowM pkE n K w acc) (hu : RowM pkE n K u ps) (hb : acc.length + ps.length ≤ 2 ^ 30) :
  ∃ w' K',appOf 5 64 (A ++ K) w u = some (w',A ++ K') ∧ RowM pkE n K' w' (acc ++ ps) ∧ (∀ (i g0 : Nat) (s : List UInt8) (cs : List V) (o : Bool),K[i]? = some (AB.row g0 (V.str s :: cs) o) → K'[i]? = K[i]?) ∧ K.length ≤ K'.length := by
 have hsrc : ∃ k,k = ps.length ∧ srcCells (A ++ K) u = some (flatE pkE ps,k) := by
  rcases hu with ⟨rfl,rfl⟩ | ⟨j,g,rfl,hj,hr⟩
  ·exact ⟨0,rfl,rfl⟩
  ·refine ⟨_,rfl,?_⟩
   have hg : getRow (A ++ K) (n + j) g = some (flatE pkE ps,true) := by
    subst hn
    unfold getRow at hr ⊢
    rwa [List.getElem?_append_right (by omega),show A.length + j - A.length = j by omega]
   rw [src_sl hg (by rw [flatE_len]; omega),List.drop_zero,List.take_of_length_le (by rw [flatE_len]; exact Nat.le_refl _)]
 obtain ⟨k,rfl,hsrc⟩ := hsrc
 have hfl : (flatE pkE ps).length = ps.length * 5 := flatE_len
 have hfa : (flatE pkE acc).length = acc.length * 5 := flatE_len
 have hfc := flatE_cells pkE ps
 rcases hw with ⟨rfl,rfl⟩ | ⟨j,g,rfl,hj,hr⟩
 ·by_cases hz : ps.length = 0
  ·obtain rfl : ps = [] := List.eq_nil_of_length_eq_zero hz
   refine ⟨.nilslice,K,?_,Or.inl ⟨rfl,rfl⟩,fun _ _ _ _ _ _ => rfl,Nat.le_refl _⟩
   unfold appOf
   rw [hsrc]
   simp [flatE]
  ·refine ⟨.slice (A ++ K).length 0 0 ps.length 5 .full,K ++ [.row 0 (flatE pkE ps) true],?_,Or.inr ⟨K.length,0,by rw [hn]; simp; rfl,by simp,by simp [getRow]⟩,fun i g0 s cs o h => ?_,by simp⟩
   ·unfold appOf
    rw [hsrc]
    simp only [Option.bind_some]
    rw [if_pos ⟨hfl,hfc⟩,if_neg hz,if_pos (by simp at hb; omega)]
    simp
   ·rw [List.getElem?_append_left (List.getElem?_eq_some_iff.1 h).1]
 ·have hg : getRow (A ++ K) (n + j) g = some (flatE pkE acc,true) := by
   subst hn
   unfold getRow at hr ⊢
   rwa [List.getElem?_append_right (by omega),show A.length + j - A.length = j by omega]
  by_cases hz : ps.length = 0
  ·obtain rfl : ps = [] := List.eq_nil_of_length_eq_zero hz
   refine ⟨.slice (n + j) g 0 acc.length 5 .full,K,?_,Or.inr ⟨j,g,by simp; rfl,hj,by simpa using hr⟩,fun _ _ _ _ _ _ => rfl,Nat.le_refl _⟩
   unfold appOf
   rw [hsrc]
   simp only [Option.bind_some]
   rw [if_pos ⟨hfl,hfc⟩]
   change (getRow (A ++ K) (n + j) g).bind _ = _
   rw [hg]
   simp only [Option.bind_some]
   rw [if_pos ⟨rfl,by omega,by omega,by omega⟩,if_pos (by simp)]
   rfl
  ·refine ⟨.slice (n + j) (g + 1) 0 (acc.length + ps.length) 5 .full,K.set j (.row (g + 1) (flatE pkE (acc ++ ps)) true),?_,Or.inr ⟨j,g + 1,by simp; rfl,by simpa using hj,by simp [getRow,hj]⟩,fun i g0 s cs o h => ?_,by simp⟩
   ·unfold appOf
    rw [hsrc]
    simp only [Option.bind_some]
    rw [if_pos ⟨hfl,hfc⟩]
    change (getRow (A ++ K) (n + j) g).bind _ = _
    rw [hg]
    simp only [Option.bind_some]
    rw [if_pos ⟨rfl,by omega,by omega,by omega⟩,if_neg hz]
    change (if _ then _ else _) = _
    rw [if_pos trivial,if_neg (by omega),if_pos (by change 0 + acc.length * 5 = _; omega)]
    subst hn
    rw [List.set_append_right _ _ (by omega),show A.length + j - A.length = j by omega]
    simp [flatE]
   ·have hne : j ≠ i := by
     rintro rfl
     unfold getRow at hr
     rw [h] at hr
     simp only at hr
     split at hr
     ·injection hr with hr
      injection hr with hr _
      exact pk_ne hr.symm
     ·cases hr
    rw [List.getElem?_set_ne hne]
def RowN {α : Type} (E : Enc α) (n : Nat) (K : Hp) (v : V) (l : List α) : Prop := (v = .nilslice ∧ l = []) ∨ (l ≠ [] ∧ ∃ j g,v = .slice (n + j) g 0 l.length E.w .full ∧ j < K.length ∧ getRow K j g = some (flatE E l,true))
theorem RowN.m {α : Type} {E : Enc α} {n : Nat} {K : Hp} {v : V} {l : List α} (h : RowN E n K v l) : RowM E n K v l := h.imp id fun h => h.2
def Keep (K K' : Hp) (cs : List V) : Prop := ∀ (i : Nat) (b : AB),K[i]? = some b → (cs = [] ∨ ∀ g : Nat,b ≠ AB.row g cs true) → K'[i]? = some b
theorem push_row {α : Type} {E : Enc α} {n w by_ : Nat} {A K : Hp} {v : V} {l : List α} (hn : n = A.length) (hw : E.w = w) (h : RowN E n K v l) (x : α) (hb : (l.length + 1) * by_ ≤ 2 ^ 40) (hb2 : l.length + 1 ≤ 2 ^ 40) :
  ∃ v' K',appOf w by_ (A ++ K) v (.isl (E.f x) 1 w) = some (v',A ++ K') ∧ RowN E n K' v' (l ++ [x]) ∧ Keep K K' (flatE E l) ∧ K.length ≤ K'.length := by
 subst hw
 have hl1 : (E.f x).length = 1 * E.w := by rw [E.len,Nat.one_mul]
 have hc1 := E.all (a := x)
 have hp := E.pos
 have hsrc : ∀ H : Hp,srcCells H (.isl (E.f x) 1 E.w) = some (E.f x,1) := fun H => by simp only [srcCells,if_pos hl1]
 rcases h with ⟨rfl,rfl⟩ | ⟨hne,j,g,rfl,hj,hr⟩
 ·refine ⟨.slice (A ++ K).length 0 0 1 E.w .full,K ++ [.row 0 (E.f x) true],?_,Or.inr ⟨by simp,K.length,0,by rw [hn]; simp,by simp,by simp [getRow,flatE]⟩,fun i b hi _ => ?_,by simp⟩
  ·unfold appOf
   rw [hsrc]
   simp only [Option.bind_some]
   rw [if_pos ⟨hl1,hc1⟩,if_neg (by decide),if_pos (by simp at hb; omega)]
   simp
  ·rw [List.getElem?_append_left (List.getElem?_eq_some_iff.1 hi).1,hi]
 ·have hg : getRow (A ++ K) (n + j) g = some (flatE E l,true) := by
   subst hn
   unfold getRow at hr ⊢
   rwa [List.getElem?_append_right (by omega),show A.length + j - A.length = j by omega]
  have hfl : (flatE E l).length = l.length * E.w := flatE_len
  have hadd : (l.length + 1) * E.w = l.length * E.w + E.w := by rw [Nat.add_mul,Nat.one_mul]
  refine ⟨.slice (n + j) (g + 1) 0 (l.length + 1) E.w .full,K.set j (.row (g + 1) (flatE E (l ++ [x])) true),?_,Or.inr ⟨by simp,j,g + 1,by simp,by simpa using hj,by simp [getRow,hj]⟩,fun i b hi hk => ?_,by simp⟩
  ·unfold appOf
   rw [hsrc]
   simp only [Option.bind_some]
   rw [if_pos ⟨hl1,hc1⟩]
   simp only [hg,Option.bind_some]
   rw [if_pos ⟨trivial,by omega,by omega,by omega⟩,if_neg (by decide),if_pos trivial,if_neg (by omega),if_pos (by omega)]
   subst hn
   rw [List.set_append_right _ _ (by omega),show A.length + j - A.length = j by omega]
   simp [flatE]
  ·have hne2 : j ≠ i := by
    rintro rfl
    unfold getRow at hr
    rw [hi] at hr
    cases b with
    | row g' cs o =>
     simp only at hr
     split at hr
     ·injection hr with hr
      injection hr with h1 h2
      subst h1 h2
      rcases hk with hk | hk
      ·have : l.length * E.w = 0 := by rw [← hfl,hk]; rfl
       have h0 : 0 < l.length := List.length_pos_iff.2 hne
       have := Nat.mul_pos h0 hp
       omega
      ·exact hk _ rfl
     ·cases hr
    | _ => cases hr
   rw [List.getElem?_set_ne hne2,hi]
theorem RowN.app {α : Type} {E : Enc α} {n : Nat} {K : Hp} {v : V} {l : List α} (h : RowN E n K v l) (G : Hp) : RowN E n (K ++ G) v l := by
 rcases h with h | ⟨h0,j,g,e,hj,hr⟩
 ·exact Or.inl h
 ·exact Or.inr ⟨h0,j,g,e,by simp; omega,by rw [gr_l hj]; exact hr⟩
def kd : V → Nat
 | .int .. => 1
 | .str _ => 2
 | .isl .. => 3
 | .nilslice => 3
 | _ => 0
def cl (cs : List V) : Nat := match (cs.take 4).map kd with
 | 2 :: 3 :: 3 :: _ => 1
 | 2 :: 1 :: _ => 2
 | 3 :: 2 :: _ => 3
 | 2 :: 3 :: _ => 4
 | 1 :: 1 :: 1 :: 3 :: _ => 6
 | 3 :: _ => 5
 | 1 :: _ => 7
 | _ => 0
theorem kd_int (k : IntKind) (m : Int) : kd (.int k m) = 1 := rfl
theorem kd_str (s : List UInt8) : kd (.str s) = 2 := rfl
theorem kd_sl {α : Type} (b : Bool) (E : Enc α) (l : List α) : kd (slV b E l) = 3 := by
 unfold slV
 split <;> rfl
def tbE : Enc (List Int) := ⟨fun l => [slV true inE l],1,[],fun _ => rfl,by decide,fun p => by simp only [immL,slV_imm]; rfl⟩
theorem tbE_f (l : List Int) : tbE.f l = [slV true inE l] := rfl
@[go_sem] theorem tbE_w : tbE.w = 1 := rfl
theorem inE_f (x : Int) : inE.f x = [.int .i64 x] := rfl
theorem cl_fc {l : List Fc} (h : l ≠ []) : cl (flatE fcE l) = 2 := by
 cases l with
 | nil => exact absurd rfl h
 | cons p l => rw [flatE_cons,fcE_f]; simp [cl,kd_int,kd_str]
theorem cl_nm {l : List Nm} (h : l ≠ []) : cl (flatE nmE l) = 3 := by
 cases l with
 | nil => exact absurd rfl h
 | cons p l => rw [flatE_cons,nmE_f]; simp [cl,kd_int,kd_str,kd_sl]
theorem cl_sc {l : List Sc} (h : l ≠ []) : cl (flatE scE l) = 4 := by
 cases l with
 | nil => exact absurd rfl h
 | cons p l =>
  cases l with
  | nil => rw [flatE_cons,scE_f]; simp [cl,kd_int,kd_str,kd_sl,flatE]
  | cons q l => rw [flatE_cons,flatE_cons,scE_f,scE_f]; simp [cl,kd_int,kd_str,kd_sl]
theorem cl_cp {l : List Cp} (h : l ≠ []) : cl (flatE cpE l) = 1 := by
 cases l with
 | nil => exact absurd rfl h
 | cons p l => rw [flatE_cons,cpE_f]; simp [cl,kd_int,kd_str,kd_sl]
theorem cl_pk {l : List Pk} (h : l ≠ []) : cl (flatE pkE l) = 6 := by
 cases l with
 | nil => exact absurd rfl h
 | cons p l => rw [flatE_cons,pkE_f]; simp [cl,kd_int,kd_str,kd_sl]
theorem cl_tb {l : List (List Int)} (h : l ≠ []) : cl (flatE tbE l) = 5 := by
 cases l with
 | nil => exact absurd rfl h
 | cons p l =>
  cases l with
  | nil => rw [flatE_cons,tbE_f]; simp [cl,kd_int,kd_str,kd_sl,flatE]
  | cons q l => rw [flatE_cons,flatE_cons,tbE_f,tbE_f]; simp [cl,kd_int,kd_str,kd_sl]
theorem cl_in {l : List Int} (h : l ≠ []) : cl (flatE inE l) = 7 := by
 match l,h with
 | [],h => exact absurd rfl h
 | [_],_ => rfl
 | [_,_],_ => rfl
 | [_,_,_],_ => rfl
 | _ :: _ :: _ :: _ :: l,_ => rw [flatE_cons,flatE_cons,flatE_cons,flatE_cons]; simp [cl,kd_int,inE_f]
def KeepQ (q : Nat) (K K' : Hp) : Prop := K.length ≤ K'.length ∧ ∀ (i : Nat) (b : AB),K[i]? = some b → (∀ g cs o,b = AB.row g cs o → cl cs ≠ q) → K'[i]? = some b
theorem KeepQ.same (q : Nat) (K : Hp) : KeepQ q K K := ⟨Nat.le_refl _,fun _ _ h _ => h⟩
theorem KeepQ.trans {q : Nat} {K1 K2 K3 : Hp} (h : KeepQ q K1 K2) (h' : KeepQ q K2 K3) : KeepQ q K1 K3 := ⟨Nat.le_trans h.1 h'.1,fun i b hb hq => h'.2 i b (h.2 i b hb hq) hq⟩
theorem KeepQ.more (q : Nat) (K G : Hp) : KeepQ q K (K ++ G) := ⟨by simp,fun i b h _ => by rw [List.getElem?_append_left (List.getElem?_eq_some_iff.1 h).1,h]⟩
theorem RowN.row {α : Type} {E : Enc α} {n : Nat} {K : Hp} {v : V} {l : List α} (h : RowN E n K v l) (h0 : l ≠ []) : ∃ j g,v = .slice (n + j) g 0 l.length E.w .full ∧ j < K.length ∧ getRow K j g = some (flatE E l,true) ∧ K[j]? = some (.row g (flatE E l) true) := by
 rcases h with ⟨_,h⟩ | ⟨_,j,g,e,hj,hr⟩
 ·exact absurd h h0
 ·exact ⟨j,g,e,hj,hr,(RowM.get hr).1⟩
theorem RowN.keepQ {α : Type} {E : Enc α} {n q : Nat} {K K' : Hp} {v : V} {l : List α} (h : RowN E n K v l) (hk : KeepQ q K K') (c : Nat) (hc : l ≠ [] → cl (flatE E l) = c) (hq : c ≠ q) : RowN E n K' v l := by
 by_cases h0 : l = []
 ·rcases h with h | ⟨h1,_⟩
  ·exact Or.inl h
  ·exact absurd h0 h1
 ·obtain ⟨j,g,e,hj,hr,hb⟩ := h.row h0
  refine Or.inr ⟨h0,j,g,e,Nat.lt_of_lt_of_le hj hk.1,getRow_of (hk.2 j _ hb fun g' cs o he => ?_)⟩
  injection he with _ he _
  rw [← he,hc h0]
  exact hq
theorem push_rowQ {α : Type} {E : Enc α} {n w by_ q : Nat} {A K : Hp} {v : V} {l : List α} (hn : n = A.length) (hw : E.w = w) (h : RowN E n K v l) (x : α) (hb : (l.length + 1) * by_ ≤ 2 ^ 40) (hb2 : l.length + 1 ≤ 2 ^ 40) (hq : l ≠ [] → cl (flatE E l) = q) :
  ∃ v' K',appOf w by_ (A ++ K) v (.isl (E.f x) 1 w) = some (v',A ++ K') ∧ RowN E n K' v' (l ++ [x]) ∧ KeepQ q K K' := by
 obtain ⟨v',K',e,hr,hk,hl⟩ := push_row hn hw h x hb hb2
 refine ⟨v',K',e,hr,hl,fun i b hi hc => hk i b hi ?_⟩
 by_cases h0 : l = []
 ·exact Or.inl (by rw [h0]; rfl)
 ·exact Or.inr fun g he => hc g _ _ he (hq h0)
theorem set_rowQ {α : Type} {E : Enc α} {n j g : Nat} {K : Hp} {l l' : List α} (h : K[j]? = some (.row g (flatE E l) true)) (h0 : l ≠ []) (hl : l'.length = l.length) {q : Nat} (hq : cl (flatE E l) = q) : KeepQ q K (K.set j (.row g (flatE E l') true)) ∧ RowN E n (K.set j (.row g (flatE E l') true)) (.slice (n + j) g 0 l.length E.w .full) l' := by
 have hj := (List.getElem?_eq_some_iff.1 h).1
 refine ⟨⟨by simp,fun i b hi hc => ?_⟩,Or.inr ⟨fun h => h0 (by rw [h] at hl; exact List.eq_nil_of_length_eq_zero hl.symm),j,g,by rw [hl],by simpa using hj,by simp [getRow,hj]⟩⟩
 have hne : j ≠ i := by
  rintro rfl
  rw [h] at hi
  injection hi with hi
  exact hc _ _ _ hi.symm hq
 rw [List.getElem?_set_ne hne,hi]
def Sq {α : Type} (E : Enc α) (t e : TypeId) (H : Hp) (u : V) (l : List α) (A : Nat → V) : Prop := (u.dem = u ∧ u.dem1 = u) ∧ lenV Try.prog t H u = some (.int .i64 l.length) ∧ ∀ i : Nat,i < l.length → indexAddrV Try.prog t u (.int .i64 (i : Int)) = some (A i) ∧ loadV Try.prog e H (A i) = some (.agg (E.f (E.at l i)))
theorem sq_fcE {P K G : Hp} {u : V} {l : List Fc} (h : RowN fcE P.length K u l) : ∃ A,Sq fcE 26 82 (P ++ (K ++ G)) u l A := by
 obtain ⟨c1,c2,c3,c4,c5,c6,c7⟩ := h.m.cell
 rcases h with ⟨rfl,rfl⟩ | ⟨_,j,g,rfl,hj,hr⟩
 ·exact ⟨fun _ => .nilslice,⟨c7,c6⟩,m26,fun i hi => absurd hi (Nat.not_lt_zero i)⟩
 ·refine ⟨fun i => .ptr (P.length + j) g (i * 3),⟨c7,c6⟩,n26 _ _ _ _ _,fun i hi => ⟨?_,?_⟩⟩
  ·have := i26 (id := P.length + j) (g := g) (off := 0) (n := l.length) (cp := .full) (k := .i64) (j := (i : Int)) ⟨by omega,by omega⟩
   rw [Int.toNat_natCast,Nat.zero_add] at this
   exact this
  ·have hg : getRow (P ++ (K ++ G)) (P.length + j) g = some (flatE fcE l,true) := by
    have h0 := gr_l (K := G) (g := g) hj
    unfold getRow at hr h0 ⊢
    rw [List.getElem?_append_right (by omega),show P.length + j - P.length = j by omega,h0,hr]
   rw [loadV_ptr,hg]
   exact ld_fcE (H := []) hi
theorem fn101 (x y : Fc) (hx : True) (H : Hp) : callL Try.prog pr 101 [.agg (fcE.f x),.agg (fcE.f y)] H = some (.bool (fcS x y),H) := by
 refine run101 (Nat.le_of_ble_eq_true rfl) ?_
 unfold fcS
 have hy := True.intro
 repeat' (first | simp (disch := first | rfl | omega | exact lt_new _ | assumption | decide | (simp [dkS] <;> omega) | fail) only [r101_0,r101_1,c101,rs101,gc101,loadV_ptr,storeV_ptr,tkS,go_sem,↓reduceIte,Nat.reduceLT,Nat.reduceEqDiff,Nat.reduceAdd,Nat.reduceMul,Nat.reduceSub,Int.reduceAdd,Int.reduceSub,Nat.reduceLeDiff,Int.reduceLT,Int.reduceLE,Int.reduceEq,Int.reduceNeg,Int.reduceToNat,hy] | ((first | refine guardB_dec (fun hy => ?_) (fun hy => ?_) | refine guardB_bool (fun hy => ?_) (fun hy => ?_) | refine guardQ_ite (fun hy => ?_) (fun hy => ?_) | refine brQ_dec (fun hy => ?_) (fun hy => ?_) | refine brQ_bool (fun hy => ?_) (fun hy => ?_)) <;> (try simp only [Bool.not_eq_true',Bool.not_eq_false',Bool.and_eq_true,Bool.or_eq_false_iff,decide_eq_true_eq,decide_eq_false_iff_not] at hy)))
 exact finQ_same (by simp (disch := first | rfl | omega | exact lt_new _ | assumption | decide | (simp [dkS] <;> omega) | fail) only [go_sem,↓reduceIte,Nat.reduceLT,Nat.reduceEqDiff,Nat.reduceAdd,Nat.reduceMul,Nat.reduceSub,Int.reduceAdd,Int.reduceSub,Nat.reduceLeDiff,Int.reduceLT,Int.reduceLE,Int.reduceEq,Int.reduceNeg,Int.reduceToNat,fcS])
theorem fn142 (x y : Fc) (hx : True) {P : Hp} {b : Nat} (hb : getRow P b 0 = some ([.fn 101 [] []],true)) : callL Try.prog pr 142 [.agg (fcE.f y),.ptr b 0 0,.ipt (fcE.f x) 0] P = some (.bool (fcS x y),P) := by
 have h1 := fn101 x y hx
 refine run142 (Nat.le_of_ble_eq_true rfl) ?_
 have hy := True.intro
 repeat' (first | simp (disch := first | rfl | omega | exact lt_new _ | assumption | decide | (simp [dkS] <;> omega) | fail) only [r142_0,r142_1,c142,rs142,gc142,loadV_ptr,storeV_ptr,tkS,hb,h1,go_sem,↓reduceIte,Nat.reduceLT,Nat.reduceEqDiff,Nat.reduceAdd,Nat.reduceMul,Nat.reduceSub,Int.reduceAdd,Int.reduceSub,Nat.reduceLeDiff,Int.reduceLT,Int.reduceLE,Int.reduceEq,Int.reduceNeg,Int.reduceToNat,hy] | ((first | refine guardB_dec (fun hy => ?_) (fun hy => ?_) | refine guardB_bool (fun hy => ?_) (fun hy => ?_) | refine guardQ_ite (fun hy => ?_) (fun hy => ?_) | refine brQ_dec (fun hy => ?_) (fun hy => ?_) | refine brQ_bool (fun hy => ?_) (fun hy => ?_)) <;> (try simp only [Bool.not_eq_true',Bool.not_eq_false',Bool.and_eq_true,Bool.or_eq_false_iff,decide_eq_true_eq,decide_eq_false_iff_not] at hy)))
 exact finQ_same (by simp (disch := first | rfl | omega | exact lt_new _ | assumption | decide | (simp [dkS] <;> omega) | fail) only [go_sem,↓reduceIte,Nat.reduceLT,Nat.reduceEqDiff,Nat.reduceAdd,Nat.reduceMul,Nat.reduceSub,Int.reduceAdd,Int.reduceSub,Nat.reduceLeDiff,Int.reduceLT,Int.reduceLE,Int.reduceEq,Int.reduceNeg,Int.reduceToNat])
theorem fn141R {α : Type} {E : Enc α} {u : V} {l : List α} {H : Hp} {A : Nat → V} (hs : Sq E 26 82 H u l A) (hlen : l.length < 2 ^ 62) (p : α → Bool) (f : Nat) (ca cb : List V) (hk : ∀ v,demK f v = v.dem) (hf : ∀ x ∈ l,callL Try.prog pr f (ca ++ [.agg (E.f x)] ++ cb) H = some (.bool (p x),H)) : callL Try.prog pr 141 [u,.fn f ca cb] H = some (.int .i64 (findI p l 0),H) := by
 have hfy := ne_demK hk
 obtain ⟨⟨d1,d2⟩,s1,s2⟩ := hs
 refine run141 (Nat.le_of_ble_eq_true rfl) ?_
 simp (disch := first | rfl | omega | exact lt_new _ | assumption | decide | (simp [dkS] <;> omega) | fail) only [r141_0,r141_1,r141_2,r141_3,r141_4,r141_5,r141_6,r141_8,c141,rs141,gc141,go_sem,↓reduceIte,Nat.reduceLT,Nat.reduceEqDiff,Nat.reduceAdd,Nat.reduceMul,Nat.reduceSub,Int.reduceAdd,Int.reduceSub,Nat.reduceLeDiff,Int.reduceLT,Int.reduceLE,Int.reduceEq,Int.reduceNeg,Int.reduceToNat,s1,d1,d2]
 refine Wp_loop (fun m T D H' => ∃ i,m = l.length - i ∧ i ≤ l.length ∧ D = [] ∧ H' = H ∧ get T 0 = u ∧ get T 1 = .fn f ca cb ∧ get T 7 = .int .i64 l.length ∧ get T 8 = .int .i64 i ∧ findI p l 0 = findI p (l.drop i) i) ?_ l.length _ _ _ ?_
 ·rintro m T D H' ⟨i,rfl,hi,rfl,rfl,h0,h1,h7,h8,hp⟩
  by_cases hlt : i < l.length
  ·have hlt' : (i : Int) < l.length := by omega
   have hpi := findI_drop p (E.at_some hlt) i
   have hfi := hf _ (E.at_mem hlt)
   obtain ⟨x1,x2⟩ := s2 i hlt
   simp (disch := first | rfl | omega | exact lt_new _ | assumption | decide | (simp [dkS] <;> omega) | fail) only [r141_0,r141_1,r141_2,r141_3,r141_4,r141_5,r141_6,l141_7,r141_8,c141,rs141,gc141,go_sem,↓reduceIte,Nat.reduceLT,Nat.reduceEqDiff,Nat.reduceAdd,Nat.reduceMul,Nat.reduceSub,Int.reduceAdd,Int.reduceSub,Nat.reduceLeDiff,Int.reduceLT,Int.reduceLE,Int.reduceEq,Int.reduceNeg,Int.reduceToNat,h0,h1,h7,h8,x1,x2,d1,d2,hk,hfi,hlt',decide_true]
   refine brQ_bool (fun hy => ?_) (fun hy => ?_)
   ·rw [if_pos hy] at hpi
    simp (disch := first | rfl | omega | exact lt_new _ | assumption | decide | (simp [dkS] <;> omega) | fail) only [r141_0,r141_1,r141_2,r141_3,r141_4,r141_5,r141_6,l141_7,r141_8,c141,rs141,gc141,go_sem,↓reduceIte,Nat.reduceLT,Nat.reduceEqDiff,Nat.reduceAdd,Nat.reduceMul,Nat.reduceSub,Int.reduceAdd,Int.reduceSub,Nat.reduceLeDiff,Int.reduceLT,Int.reduceLE,Int.reduceEq,Int.reduceNeg,Int.reduceToNat,h0,h1,h7,h8]
    refine finQ_same ?_
    simp (disch := first | rfl | omega | exact lt_new _ | assumption | decide | (simp [dkS] <;> omega) | fail) only [go_sem,↓reduceIte,Nat.reduceLT,Nat.reduceEqDiff,Nat.reduceAdd,Nat.reduceMul,Nat.reduceSub,Int.reduceAdd,Int.reduceSub,Nat.reduceLeDiff,Int.reduceLT,Int.reduceLE,Int.reduceEq,Int.reduceNeg,Int.reduceToNat,hp,hpi]
   ·rw [if_neg (by simp [hy])] at hpi
    simp (disch := first | rfl | omega | exact lt_new _ | assumption | decide | (simp [dkS] <;> omega) | fail) only [r141_0,r141_1,r141_2,r141_3,r141_4,r141_5,r141_6,l141_7,r141_8,c141,rs141,gc141,go_sem,↓reduceIte,Nat.reduceLT,Nat.reduceEqDiff,Nat.reduceAdd,Nat.reduceMul,Nat.reduceSub,Int.reduceAdd,Int.reduceSub,Nat.reduceLeDiff,Int.reduceLT,Int.reduceLE,Int.reduceEq,Int.reduceNeg,Int.reduceToNat,h0,h1,h7,h8]
    exact ⟨_,by omega,i + 1,rfl,hlt,rfl,by rw [hp,hpi]; rfl⟩
  ·obtain rfl : i = l.length := by omega
   simp (disch := first | rfl | omega | exact lt_new _ | assumption | decide | (simp [dkS] <;> omega) | fail) only [r141_0,r141_1,r141_2,r141_3,r141_4,r141_5,r141_6,l141_7,r141_8,c141,rs141,gc141,go_sem,↓reduceIte,Nat.reduceLT,Nat.reduceEqDiff,Nat.reduceAdd,Nat.reduceMul,Nat.reduceSub,Int.reduceAdd,Int.reduceSub,Nat.reduceLeDiff,Int.reduceLT,Int.reduceLE,Int.reduceEq,Int.reduceNeg,Int.reduceToNat,h0,h1,h7,h8,Int.lt_irrefl,decide_false]
   refine finQ_same ?_
   rw [hp,List.drop_length]
   simp (disch := first | rfl | omega | exact lt_new _ | assumption | decide | (simp [dkS] <;> omega) | fail) only [go_sem,↓reduceIte,Nat.reduceLT,Nat.reduceEqDiff,Nat.reduceAdd,Nat.reduceMul,Nat.reduceSub,Int.reduceAdd,Int.reduceSub,Nat.reduceLeDiff,Int.reduceLT,Int.reduceLE,Int.reduceEq,Int.reduceNeg,Int.reduceToNat,findI]
 ·exact ⟨0,by simp [go_sem]⟩
theorem sq_nmE {P K G : Hp} {u : V} {l : List Nm} (h : RowN nmE P.length K u l) : ∃ A,Sq nmE 27 97 (P ++ (K ++ G)) u l A := by
 obtain ⟨c1,c2,c3,c4,c5,c6,c7⟩ := h.m.cell
 rcases h with ⟨rfl,rfl⟩ | ⟨_,j,g,rfl,hj,hr⟩
 ·exact ⟨fun _ => .nilslice,⟨c7,c6⟩,m27,fun i hi => absurd hi (Nat.not_lt_zero i)⟩
 ·refine ⟨fun i => .ptr (P.length + j) g (i * 2),⟨c7,c6⟩,n27 _ _ _ _ _,fun i hi => ⟨?_,?_⟩⟩
  ·have := i27 (id := P.length + j) (g := g) (off := 0) (n := l.length) (cp := .full) (k := .i64) (j := (i : Int)) ⟨by omega,by omega⟩
   rw [Int.toNat_natCast,Nat.zero_add] at this
   exact this
  ·have hg : getRow (P ++ (K ++ G)) (P.length + j) g = some (flatE nmE l,true) := by
    have h0 := gr_l (K := G) (g := g) hj
    unfold getRow at hr h0 ⊢
    rw [List.getElem?_append_right (by omega),show P.length + j - P.length = j by omega,h0,hr]
   rw [loadV_ptr,hg]
   exact ld_nmE (H := []) hi
theorem fn103 (x y : Nm) (hx : NmOk x) (H : Hp) : callL Try.prog pr 103 [.agg (nmE.f x),.agg (nmE.f y)] H = some (.bool (nmS x y),H) := by
 have h71 := fun H => fn71 (b := x.addrN) (b' := y.addrN) (l := x.addr) (l' := y.addr) (by have := hx.1; omega) H
 refine run103 (Nat.le_of_ble_eq_true rfl) ?_
 unfold nmS
 have hy := True.intro
 repeat' (first | simp (disch := first | rfl | omega | exact lt_new _ | assumption | decide | (simp [dkS] <;> omega) | fail) only [r103_0,r103_1,c103,rs103,gc103,loadV_ptr,storeV_ptr,tkS,h71,go_sem,↓reduceIte,Nat.reduceLT,Nat.reduceEqDiff,Nat.reduceAdd,Nat.reduceMul,Nat.reduceSub,Int.reduceAdd,Int.reduceSub,Nat.reduceLeDiff,Int.reduceLT,Int.reduceLE,Int.reduceEq,Int.reduceNeg,Int.reduceToNat,hy] | ((first | refine guardB_dec (fun hy => ?_) (fun hy => ?_) | refine guardB_bool (fun hy => ?_) (fun hy => ?_) | refine guardQ_ite (fun hy => ?_) (fun hy => ?_) | refine brQ_dec (fun hy => ?_) (fun hy => ?_) | refine brQ_bool (fun hy => ?_) (fun hy => ?_)) <;> (try simp only [Bool.not_eq_true',Bool.not_eq_false',Bool.and_eq_true,Bool.or_eq_false_iff,decide_eq_true_eq,decide_eq_false_iff_not] at hy)))
 all_goals (try ((first | refine finQ_same ?_ | refine finQ_app ?_ | (rw [List.append_assoc]; refine finQ_app ?_)) <;> simp (disch := first | rfl | omega | exact lt_new _ | assumption | decide | (simp [dkS] <;> omega) | fail) only [go_sem,↓reduceIte,Nat.reduceLT,Nat.reduceEqDiff,Nat.reduceAdd,Nat.reduceMul,Nat.reduceSub,Int.reduceAdd,Int.reduceSub,Nat.reduceLeDiff,Int.reduceLT,Int.reduceLE,Int.reduceEq,Int.reduceNeg,Int.reduceToNat,List.append_assoc,List.cons_append,List.nil_append, *]))
 all_goals (try first | rfl | (simp [*]; done) | grind)
theorem fn144 (x y : Nm) (hx : NmOk x) {P : Hp} {b : Nat} (hb : getRow P b 0 = some ([.fn 103 [] []],true)) : callL Try.prog pr 144 [.agg (nmE.f y),.ptr b 0 0,.ipt (nmE.f x) 0] P = some (.bool (nmS x y),P) := by
 have h1 := fn103 x y hx
 refine run144 (Nat.le_of_ble_eq_true rfl) ?_
 have hy := True.intro
 repeat' (first | simp (disch := first | rfl | omega | exact lt_new _ | assumption | decide | (simp [dkS] <;> omega) | fail) only [r144_0,r144_1,c144,rs144,gc144,loadV_ptr,storeV_ptr,tkS,hb,h1,go_sem,↓reduceIte,Nat.reduceLT,Nat.reduceEqDiff,Nat.reduceAdd,Nat.reduceMul,Nat.reduceSub,Int.reduceAdd,Int.reduceSub,Nat.reduceLeDiff,Int.reduceLT,Int.reduceLE,Int.reduceEq,Int.reduceNeg,Int.reduceToNat,hy] | ((first | refine guardB_dec (fun hy => ?_) (fun hy => ?_) | refine guardB_bool (fun hy => ?_) (fun hy => ?_) | refine guardQ_ite (fun hy => ?_) (fun hy => ?_) | refine brQ_dec (fun hy => ?_) (fun hy => ?_) | refine brQ_bool (fun hy => ?_) (fun hy => ?_)) <;> (try simp only [Bool.not_eq_true',Bool.not_eq_false',Bool.and_eq_true,Bool.or_eq_false_iff,decide_eq_true_eq,decide_eq_false_iff_not] at hy)))
 exact finQ_same (by simp (disch := first | rfl | omega | exact lt_new _ | assumption | decide | (simp [dkS] <;> omega) | fail) only [go_sem,↓reduceIte,Nat.reduceLT,Nat.reduceEqDiff,Nat.reduceAdd,Nat.reduceMul,Nat.reduceSub,Int.reduceAdd,Int.reduceSub,Nat.reduceLeDiff,Int.reduceLT,Int.reduceLE,Int.reduceEq,Int.reduceNeg,Int.reduceToNat])
theorem fn143R {α : Type} {E : Enc α} {u : V} {l : List α} {H : Hp} {A : Nat → V} (hs : Sq E 27 97 H u l A) (hlen : l.length < 2 ^ 62) (p : α → Bool) (f : Nat) (ca cb : List V) (hk : ∀ v,demK f v = v.dem) (hf : ∀ x ∈ l,callL Try.prog pr f (ca ++ [.agg (E.f x)] ++ cb) H = some (.bool (p x),H)) : callL Try.prog pr 143 [u,.fn f ca cb] H = some (.int .i64 (findI p l 0),H) := by
 have hfy := ne_demK hk
 obtain ⟨⟨d1,d2⟩,s1,s2⟩ := hs
 refine run143 (Nat.le_of_ble_eq_true rfl) ?_
 simp (disch := first | rfl | omega | exact lt_new _ | assumption | decide | (simp [dkS] <;> omega) | fail) only [r143_0,r143_1,r143_2,r143_3,r143_4,r143_5,r143_6,r143_8,c143,rs143,gc143,go_sem,↓reduceIte,Nat.reduceLT,Nat.reduceEqDiff,Nat.reduceAdd,Nat.reduceMul,Nat.reduceSub,Int.reduceAdd,Int.reduceSub,Nat.reduceLeDiff,Int.reduceLT,Int.reduceLE,Int.reduceEq,Int.reduceNeg,Int.reduceToNat,s1,d1,d2]
 refine Wp_loop (fun m T D H' => ∃ i,m = l.length - i ∧ i ≤ l.length ∧ D = [] ∧ H' = H ∧ get T 0 = u ∧ get T 1 = .fn f ca cb ∧ get T 7 = .int .i64 l.length ∧ get T 8 = .int .i64 i ∧ findI p l 0 = findI p (l.drop i) i) ?_ l.length _ _ _ ?_
 ·rintro m T D H' ⟨i,rfl,hi,rfl,rfl,h0,h1,h7,h8,hp⟩
  by_cases hlt : i < l.length
  ·have hlt' : (i : Int) < l.length := by omega
   have hpi := findI_drop p (E.at_some hlt) i
   have hfi := hf _ (E.at_mem hlt)
   obtain ⟨x1,x2⟩ := s2 i hlt
   simp (disch := first | rfl | omega | exact lt_new _ | assumption | decide | (simp [dkS] <;> omega) | fail) only [r143_0,r143_1,r143_2,r143_3,r143_4,r143_5,r143_6,l143_7,r143_8,c143,rs143,gc143,go_sem,↓reduceIte,Nat.reduceLT,Nat.reduceEqDiff,Nat.reduceAdd,Nat.reduceMul,Nat.reduceSub,Int.reduceAdd,Int.reduceSub,Nat.reduceLeDiff,Int.reduceLT,Int.reduceLE,Int.reduceEq,Int.reduceNeg,Int.reduceToNat,h0,h1,h7,h8,x1,x2,d1,d2,hk,hfi,hlt',decide_true]
   refine brQ_bool (fun hy => ?_) (fun hy => ?_)
   ·rw [if_pos hy] at hpi
    simp (disch := first | rfl | omega | exact lt_new _ | assumption | decide | (simp [dkS] <;> omega) | fail) only [r143_0,r143_1,r143_2,r143_3,r143_4,r143_5,r143_6,l143_7,r143_8,c143,rs143,gc143,go_sem,↓reduceIte,Nat.reduceLT,Nat.reduceEqDiff,Nat.reduceAdd,Nat.reduceMul,Nat.reduceSub,Int.reduceAdd,Int.reduceSub,Nat.reduceLeDiff,Int.reduceLT,Int.reduceLE,Int.reduceEq,Int.reduceNeg,Int.reduceToNat,h0,h1,h7,h8]
    refine finQ_same ?_
    simp (disch := first | rfl | omega | exact lt_new _ | assumption | decide | (simp [dkS] <;> omega) | fail) only [go_sem,↓reduceIte,Nat.reduceLT,Nat.reduceEqDiff,Nat.reduceAdd,Nat.reduceMul,Nat.reduceSub,Int.reduceAdd,Int.reduceSub,Nat.reduceLeDiff,Int.reduceLT,Int.reduceLE,Int.reduceEq,Int.reduceNeg,Int.reduceToNat,hp,hpi]
   ·rw [if_neg (by simp [hy])] at hpi
    simp (disch := first | rfl | omega | exact lt_new _ | assumption | decide | (simp [dkS] <;> omega) | fail) only [r143_0,r143_1,r143_2,r143_3,r143_4,r143_5,r143_6,l143_7,r143_8,c143,rs143,gc143,go_sem,↓reduceIte,Nat.reduceLT,Nat.reduceEqDiff,Nat.reduceAdd,Nat.reduceMul,Nat.reduceSub,Int.reduceAdd,Int.reduceSub,Nat.reduceLeDiff,Int.reduceLT,Int.reduceLE,Int.reduceEq,Int.reduceNeg,Int.reduceToNat,h0,h1,h7,h8]
    exact ⟨_,by omega,i + 1,rfl,hlt,rfl,by rw [hp,hpi]; rfl⟩
  ·obtain rfl : i = l.length := by omega
   simp (disch := first | rfl | omega | exact lt_new _ | assumption | decide | (simp [dkS] <;> omega) | fail) only [r143_0,r143_1,r143_2,r143_3,r143_4,r143_5,r143_6,l143_7,r143_8,c143,rs143,gc143,go_sem,↓reduceIte,Nat.reduceLT,Nat.reduceEqDiff,Nat.reduceAdd,Nat.reduceMul,Nat.reduceSub,Int.reduceAdd,Int.reduceSub,Nat.reduceLeDiff,Int.reduceLT,Int.reduceLE,Int.reduceEq,Int.reduceNeg,Int.reduceToNat,h0,h1,h7,h8,Int.lt_irrefl,decide_false]
   refine finQ_same ?_
   rw [hp,List.drop_length]
   simp (disch := first | rfl | omega | exact lt_new _ | assumption | decide | (simp [dkS] <;> omega) | fail) only [go_sem,↓reduceIte,Nat.reduceLT,Nat.reduceEqDiff,Nat.reduceAdd,Nat.reduceMul,Nat.reduceSub,Int.reduceAdd,Int.reduceSub,Nat.reduceLeDiff,Int.reduceLT,Int.reduceLE,Int.reduceEq,Int.reduceNeg,Int.reduceToNat,findI]
 ·exact ⟨0,by simp [go_sem]⟩
theorem sq_scE {P K G : Hp} {u : V} {l : List Sc} (h : RowN scE P.length K u l) : ∃ A,Sq scE 28 100 (P ++ (K ++ G)) u l A := by
 obtain ⟨c1,c2,c3,c4,c5,c6,c7⟩ := h.m.cell
 rcases h with ⟨rfl,rfl⟩ | ⟨_,j,g,rfl,hj,hr⟩
 ·exact ⟨fun _ => .nilslice,⟨c7,c6⟩,m28,fun i hi => absurd hi (Nat.not_lt_zero i)⟩
 ·refine ⟨fun i => .ptr (P.length + j) g (i * 2),⟨c7,c6⟩,n28 _ _ _ _ _,fun i hi => ⟨?_,?_⟩⟩
  ·have := i28 (id := P.length + j) (g := g) (off := 0) (n := l.length) (cp := .full) (k := .i64) (j := (i : Int)) ⟨by omega,by omega⟩
   rw [Int.toNat_natCast,Nat.zero_add] at this
   exact this
  ·have hg : getRow (P ++ (K ++ G)) (P.length + j) g = some (flatE scE l,true) := by
    have h0 := gr_l (K := G) (g := g) hj
    unfold getRow at hr h0 ⊢
    rw [List.getElem?_append_right (by omega),show P.length + j - P.length = j by omega,h0,hr]
   rw [loadV_ptr,hg]
   exact ld_scE (H := []) hi
theorem fn105 (x y : Sc) (hx : ScOk x) (H : Hp) : callL Try.prog pr 105 [.agg (scE.f x),.agg (scE.f y)] H = some (.bool (scS x y),H) := by
 have h71 := fun H => fn71 (b := x.keyN) (b' := y.keyN) (l := x.key) (l' := y.key) (by have := hx.2; omega) H
 refine run105 (Nat.le_of_ble_eq_true rfl) ?_
 unfold scS
 have hy := True.intro
 repeat' (first | simp (disch := first | rfl | omega | exact lt_new _ | assumption | decide | (simp [dkS] <;> omega) | fail) only [r105_0,r105_1,c105,rs105,gc105,loadV_ptr,storeV_ptr,tkS,h71,go_sem,↓reduceIte,Nat.reduceLT,Nat.reduceEqDiff,Nat.reduceAdd,Nat.reduceMul,Nat.reduceSub,Int.reduceAdd,Int.reduceSub,Nat.reduceLeDiff,Int.reduceLT,Int.reduceLE,Int.reduceEq,Int.reduceNeg,Int.reduceToNat,hy] | ((first | refine guardB_dec (fun hy => ?_) (fun hy => ?_) | refine guardB_bool (fun hy => ?_) (fun hy => ?_) | refine guardQ_ite (fun hy => ?_) (fun hy => ?_) | refine brQ_dec (fun hy => ?_) (fun hy => ?_) | refine brQ_bool (fun hy => ?_) (fun hy => ?_)) <;> (try simp only [Bool.not_eq_true',Bool.not_eq_false',Bool.and_eq_true,Bool.or_eq_false_iff,decide_eq_true_eq,decide_eq_false_iff_not] at hy)))
 all_goals (try ((first | refine finQ_same ?_ | refine finQ_app ?_ | (rw [List.append_assoc]; refine finQ_app ?_)) <;> simp (disch := first | rfl | omega | exact lt_new _ | assumption | decide | (simp [dkS] <;> omega) | fail) only [go_sem,↓reduceIte,Nat.reduceLT,Nat.reduceEqDiff,Nat.reduceAdd,Nat.reduceMul,Nat.reduceSub,Int.reduceAdd,Int.reduceSub,Nat.reduceLeDiff,Int.reduceLT,Int.reduceLE,Int.reduceEq,Int.reduceNeg,Int.reduceToNat,List.append_assoc,List.cons_append,List.nil_append, *]))
 all_goals (try first | rfl | (simp [*]; done) | grind)
theorem fn146 (x y : Sc) (hx : ScOk x) {P : Hp} {b : Nat} (hb : getRow P b 0 = some ([.fn 105 [] []],true)) : callL Try.prog pr 146 [.agg (scE.f y),.ptr b 0 0,.ipt (scE.f x) 0] P = some (.bool (scS x y),P) := by
 have h1 := fn105 x y hx
 refine run146 (Nat.le_of_ble_eq_true rfl) ?_
 have hy := True.intro
 repeat' (first | simp (disch := first | rfl | omega | exact lt_new _ | assumption | decide | (simp [dkS] <;> omega) | fail) only [r146_0,r146_1,c146,rs146,gc146,loadV_ptr,storeV_ptr,tkS,hb,h1,go_sem,↓reduceIte,Nat.reduceLT,Nat.reduceEqDiff,Nat.reduceAdd,Nat.reduceMul,Nat.reduceSub,Int.reduceAdd,Int.reduceSub,Nat.reduceLeDiff,Int.reduceLT,Int.reduceLE,Int.reduceEq,Int.reduceNeg,Int.reduceToNat,hy] | ((first | refine guardB_dec (fun hy => ?_) (fun hy => ?_) | refine guardB_bool (fun hy => ?_) (fun hy => ?_) | refine guardQ_ite (fun hy => ?_) (fun hy => ?_) | refine brQ_dec (fun hy => ?_) (fun hy => ?_) | refine brQ_bool (fun hy => ?_) (fun hy => ?_)) <;> (try simp only [Bool.not_eq_true',Bool.not_eq_false',Bool.and_eq_true,Bool.or_eq_false_iff,decide_eq_true_eq,decide_eq_false_iff_not] at hy)))
 exact finQ_same (by simp (disch := first | rfl | omega | exact lt_new _ | assumption | decide | (simp [dkS] <;> omega) | fail) only [go_sem,↓reduceIte,Nat.reduceLT,Nat.reduceEqDiff,Nat.reduceAdd,Nat.reduceMul,Nat.reduceSub,Int.reduceAdd,Int.reduceSub,Nat.reduceLeDiff,Int.reduceLT,Int.reduceLE,Int.reduceEq,Int.reduceNeg,Int.reduceToNat])
theorem fn145R {α : Type} {E : Enc α} {u : V} {l : List α} {H : Hp} {A : Nat → V} (hs : Sq E 28 100 H u l A) (hlen : l.length < 2 ^ 62) (p : α → Bool) (f : Nat) (ca cb : List V) (hk : ∀ v,demK f v = v.dem) (hf : ∀ x ∈ l,callL Try.prog pr f (ca ++ [.agg (E.f x)] ++ cb) H = some (.bool (p x),H)) : callL Try.prog pr 145 [u,.fn f ca cb] H = some (.int .i64 (findI p l 0),H) := by
 have hfy := ne_demK hk
 obtain ⟨⟨d1,d2⟩,s1,s2⟩ := hs
 refine run145 (Nat.le_of_ble_eq_true rfl) ?_
 simp (disch := first | rfl | omega | exact lt_new _ | assumption | decide | (simp [dkS] <;> omega) | fail) only [r145_0,r145_1,r145_2,r145_3,r145_4,r145_5,r145_6,r145_8,c145,rs145,gc145,go_sem,↓reduceIte,Nat.reduceLT,Nat.reduceEqDiff,Nat.reduceAdd,Nat.reduceMul,Nat.reduceSub,Int.reduceAdd,Int.reduceSub,Nat.reduceLeDiff,Int.reduceLT,Int.reduceLE,Int.reduceEq,Int.reduceNeg,Int.reduceToNat,s1,d1,d2]
 refine Wp_loop (fun m T D H' => ∃ i,m = l.length - i ∧ i ≤ l.length ∧ D = [] ∧ H' = H ∧ get T 0 = u ∧ get T 1 = .fn f ca cb ∧ get T 7 = .int .i64 l.length ∧ get T 8 = .int .i64 i ∧ findI p l 0 = findI p (l.drop i) i) ?_ l.length _ _ _ ?_
 ·rintro m T D H' ⟨i,rfl,hi,rfl,rfl,h0,h1,h7,h8,hp⟩
  by_cases hlt : i < l.length
  ·have hlt' : (i : Int) < l.length := by omega
   have hpi := findI_drop p (E.at_some hlt) i
   have hfi := hf _ (E.at_mem hlt)
   obtain ⟨x1,x2⟩ := s2 i hlt
   simp (disch := first | rfl | omega | exact lt_new _ | assumption | decide | (simp [dkS] <;> omega) | fail) only [r145_0,r145_1,r145_2,r145_3,r145_4,r145_5,r145_6,l145_7,r145_8,c145,rs145,gc145,go_sem,↓reduceIte,Nat.reduceLT,Nat.reduceEqDiff,Nat.reduceAdd,Nat.reduceMul,Nat.reduceSub,Int.reduceAdd,Int.reduceSub,Nat.reduceLeDiff,Int.reduceLT,Int.reduceLE,Int.reduceEq,Int.reduceNeg,Int.reduceToNat,h0,h1,h7,h8,x1,x2,d1,d2,hk,hfi,hlt',decide_true]
   refine brQ_bool (fun hy => ?_) (fun hy => ?_)
   ·rw [if_pos hy] at hpi
    simp (disch := first | rfl | omega | exact lt_new _ | assumption | decide | (simp [dkS] <;> omega) | fail) only [r145_0,r145_1,r145_2,r145_3,r145_4,r145_5,r145_6,l145_7,r145_8,c145,rs145,gc145,go_sem,↓reduceIte,Nat.reduceLT,Nat.reduceEqDiff,Nat.reduceAdd,Nat.reduceMul,Nat.reduceSub,Int.reduceAdd,Int.reduceSub,Nat.reduceLeDiff,Int.reduceLT,Int.reduceLE,Int.reduceEq,Int.reduceNeg,Int.reduceToNat,h0,h1,h7,h8]
    refine finQ_same ?_
    simp (disch := first | rfl | omega | exact lt_new _ | assumption | decide | (simp [dkS] <;> omega) | fail) only [go_sem,↓reduceIte,Nat.reduceLT,Nat.reduceEqDiff,Nat.reduceAdd,Nat.reduceMul,Nat.reduceSub,Int.reduceAdd,Int.reduceSub,Nat.reduceLeDiff,Int.reduceLT,Int.reduceLE,Int.reduceEq,Int.reduceNeg,Int.reduceToNat,hp,hpi]
   ·rw [if_neg (by simp [hy])] at hpi
    simp (disch := first | rfl | omega | exact lt_new _ | assumption | decide | (simp [dkS] <;> omega) | fail) only [r145_0,r145_1,r145_2,r145_3,r145_4,r145_5,r145_6,l145_7,r145_8,c145,rs145,gc145,go_sem,↓reduceIte,Nat.reduceLT,Nat.reduceEqDiff,Nat.reduceAdd,Nat.reduceMul,Nat.reduceSub,Int.reduceAdd,Int.reduceSub,Nat.reduceLeDiff,Int.reduceLT,Int.reduceLE,Int.reduceEq,Int.reduceNeg,Int.reduceToNat,h0,h1,h7,h8]
    exact ⟨_,by omega,i + 1,rfl,hlt,rfl,by rw [hp,hpi]; rfl⟩
  ·obtain rfl : i = l.length := by omega
   simp (disch := first | rfl | omega | exact lt_new _ | assumption | decide | (simp [dkS] <;> omega) | fail) only [r145_0,r145_1,r145_2,r145_3,r145_4,r145_5,r145_6,l145_7,r145_8,c145,rs145,gc145,go_sem,↓reduceIte,Nat.reduceLT,Nat.reduceEqDiff,Nat.reduceAdd,Nat.reduceMul,Nat.reduceSub,Int.reduceAdd,Int.reduceSub,Nat.reduceLeDiff,Int.reduceLT,Int.reduceLE,Int.reduceEq,Int.reduceNeg,Int.reduceToNat,h0,h1,h7,h8,Int.lt_irrefl,decide_false]
   refine finQ_same ?_
   rw [hp,List.drop_length]
   simp (disch := first | rfl | omega | exact lt_new _ | assumption | decide | (simp [dkS] <;> omega) | fail) only [go_sem,↓reduceIte,Nat.reduceLT,Nat.reduceEqDiff,Nat.reduceAdd,Nat.reduceMul,Nat.reduceSub,Int.reduceAdd,Int.reduceSub,Nat.reduceLeDiff,Int.reduceLT,Int.reduceLE,Int.reduceEq,Int.reduceNeg,Int.reduceToNat,findI]
 ·exact ⟨0,by simp [go_sem]⟩
def putF {α : Type} (S : α → α → Bool) (l : List α) (x : α) : List α × Int := if findI (fun y => S x y) l 0 < 0 then (l ++ [x],(l.length : Int)) else (l,findI (fun y => S x y) l 0)
set_option maxHeartbeats 2000000 in
theorem fn100 {P K : Hp} {u : V} {l : List Fc} (x : Fc) (hx : True) (h : RowN fcE P.length K u l) (hl : l.length + 1 ≤ 2 ^ 30) : ∃ u' K',callL Try.prog pr 100 [u,.agg (fcE.f x),.fn 101 [] []] (P ++ K) = some (.tup [u',.int .i64 (putF fcS l x).2],P ++ K') ∧ RowN fcE P.length K' u' (putF fcS l x).1 ∧ KeepQ 2 K K' := by
 suffices h : ∃ r,callL Try.prog pr 100 [u,.agg (fcE.f x),.fn 101 [] []] (P ++ K) = some r ∧ ∃ u' K',r = (.tup [u',.int .i64 (putF fcS l x).2],P ++ K') ∧ RowN fcE P.length K' u' (putF fcS l x).1 ∧ KeepQ 2 K K' by
  obtain ⟨_,h1,u',K',rfl,h2⟩ := h; exact ⟨u',K',h1,h2⟩
 refine ex100 (Nat.le_of_ble_eq_true rfl) ?_
 obtain ⟨c1,c2,c3,c4,c5,c6,c7⟩ := h.m.cell
 obtain ⟨A,hs⟩ := sq_fcE (G := [AB.row 0 [.fn 101 [] []] true]) h
 have hs1 := fun H' => h.m.len (P := Try.prog) (t := 26) (z := 3) (by kernel_rfl) H'
 have hb : getRow (P ++ (K ++ [AB.row 0 [.fn 101 [] []] true])) (P.length + K.length) 0 = some ([.fn 101 [] []],true) := by
  unfold getRow
  rw [List.getElem?_append_right (by omega),List.getElem?_append_right (by omega),show P.length + K.length - P.length - K.length = 0 by omega]
  rfl
 have hidx := fn141R hs (by omega) (fun y => fcS x y) 142 [] [.ptr (P.length + K.length) 0 0,.ipt (fcE.f x) 0] kp142 (fun y hy => fn142 x y hx hb)
 obtain ⟨k,hk⟩ : ∃ k,findI (fun y => fcS x y) l 0 = k := ⟨_,rfl⟩
 rw [hk] at hidx
 obtain ⟨u',K',ea,qa,hkq⟩ := push_rowQ (E := fcE) (w := 3) (by_ := 32) (q := 2) (A := P) rfl rfl (h.app [AB.row 0 [.fn 101 [] []] true]) x (by omega) (by omega) cl_fc
 obtain ⟨j1,j2,j3,j4,j5,j6,j7⟩ := qa.m.cell
 unfold putF
 rw [hk]
 by_cases hn : k < 0
 ·rw [if_pos hn]
  have hy := True.intro
  repeat' (first | simp (disch := first | rfl | omega | exact lt_new _ | assumption | decide | (simp [dkS] <;> omega) | fail) only [r100_0,r100_1,r100_2,r100_3,r100_4,c100,rs100,gc100,loadV_ptr,storeV_ptr,tkS,hidx,hn,hs1,ea,c1,c2,c3,c4,c5,c6,c7,j1,j2,j3,j4,j5,j6,j7,go_sem,↓reduceIte,Nat.reduceLT,Nat.reduceEqDiff,Nat.reduceAdd,Nat.reduceMul,Nat.reduceSub,Int.reduceAdd,Int.reduceSub,Nat.reduceLeDiff,Int.reduceLT,Int.reduceLE,Int.reduceEq,Int.reduceNeg,Int.reduceToNat,hy] | ((first | refine guardB_dec (fun hy => ?_) (fun hy => ?_) | refine guardB_bool (fun hy => ?_) (fun hy => ?_) | refine guardQ_ite (fun hy => ?_) (fun hy => ?_) | refine brQ_dec (fun hy => ?_) (fun hy => ?_) | refine brQ_bool (fun hy => ?_) (fun hy => ?_)) <;> (try simp only [Bool.not_eq_true',Bool.not_eq_false',Bool.and_eq_true,Bool.or_eq_false_iff,decide_eq_true_eq,decide_eq_false_iff_not] at hy)))
  exact ⟨u',K',rfl,qa,(KeepQ.more 2 K _).trans hkq⟩
 ·rw [if_neg hn]
  have hy := True.intro
  repeat' (first | simp (disch := first | rfl | omega | exact lt_new _ | assumption | decide | (simp [dkS] <;> omega) | fail) only [r100_0,r100_1,r100_2,r100_3,r100_4,c100,rs100,gc100,loadV_ptr,storeV_ptr,tkS,hidx,hn,hs1,c1,c2,c3,c4,c5,c6,c7,go_sem,↓reduceIte,Nat.reduceLT,Nat.reduceEqDiff,Nat.reduceAdd,Nat.reduceMul,Nat.reduceSub,Int.reduceAdd,Int.reduceSub,Nat.reduceLeDiff,Int.reduceLT,Int.reduceLE,Int.reduceEq,Int.reduceNeg,Int.reduceToNat,hy] | ((first | refine guardB_dec (fun hy => ?_) (fun hy => ?_) | refine guardB_bool (fun hy => ?_) (fun hy => ?_) | refine guardQ_ite (fun hy => ?_) (fun hy => ?_) | refine brQ_dec (fun hy => ?_) (fun hy => ?_) | refine brQ_bool (fun hy => ?_) (fun hy => ?_)) <;> (try simp only [Bool.not_eq_true',Bool.not_eq_false',Bool.and_eq_true,Bool.or_eq_false_iff,decide_eq_true_eq,decide_eq_false_iff_not] at hy)))
  exact ⟨u,_,rfl,h.app _,KeepQ.more 2 K _⟩
set_option maxHeartbeats 2000000 in
theorem fn102 {P K : Hp} {u : V} {l : List Nm} (x : Nm) (hx : NmOk x) (h : RowN nmE P.length K u l) (hl : l.length + 1 ≤ 2 ^ 30) : ∃ u' K',callL Try.prog pr 102 [u,.agg (nmE.f x),.fn 103 [] []] (P ++ K) = some (.tup [u',.int .i64 (putF nmS l x).2],P ++ K') ∧ RowN nmE P.length K' u' (putF nmS l x).1 ∧ KeepQ 3 K K' := by
 suffices h : ∃ r,callL Try.prog pr 102 [u,.agg (nmE.f x),.fn 103 [] []] (P ++ K) = some r ∧ ∃ u' K',r = (.tup [u',.int .i64 (putF nmS l x).2],P ++ K') ∧ RowN nmE P.length K' u' (putF nmS l x).1 ∧ KeepQ 3 K K' by
  obtain ⟨_,h1,u',K',rfl,h2⟩ := h; exact ⟨u',K',h1,h2⟩
 refine ex102 (Nat.le_of_ble_eq_true rfl) ?_
 obtain ⟨c1,c2,c3,c4,c5,c6,c7⟩ := h.m.cell
 obtain ⟨A,hs⟩ := sq_nmE (G := [AB.row 0 [.fn 103 [] []] true]) h
 have hs1 := fun H' => h.m.len (P := Try.prog) (t := 27) (z := 2) (by kernel_rfl) H'
 have hb : getRow (P ++ (K ++ [AB.row 0 [.fn 103 [] []] true])) (P.length + K.length) 0 = some ([.fn 103 [] []],true) := by
  unfold getRow
  rw [List.getElem?_append_right (by omega),List.getElem?_append_right (by omega),show P.length + K.length - P.length - K.length = 0 by omega]
  rfl
 have hidx := fn143R hs (by omega) (fun y => nmS x y) 144 [] [.ptr (P.length + K.length) 0 0,.ipt (nmE.f x) 0] kp144 (fun y hy => fn144 x y hx hb)
 obtain ⟨k,hk⟩ : ∃ k,findI (fun y => nmS x y) l 0 = k := ⟨_,rfl⟩
 rw [hk] at hidx
 obtain ⟨u',K',ea,qa,hkq⟩ := push_rowQ (E := nmE) (w := 2) (by_ := 40) (q := 3) (A := P) rfl rfl (h.app [AB.row 0 [.fn 103 [] []] true]) x (by omega) (by omega) cl_nm
 obtain ⟨j1,j2,j3,j4,j5,j6,j7⟩ := qa.m.cell
 unfold putF
 rw [hk]
 by_cases hn : k < 0
 ·rw [if_pos hn]
  have hy := True.intro
  repeat' (first | simp (disch := first | rfl | omega | exact lt_new _ | assumption | decide | (simp [dkS] <;> omega) | fail) only [r102_0,r102_1,r102_2,r102_3,r102_4,c102,rs102,gc102,loadV_ptr,storeV_ptr,tkS,hidx,hn,hs1,ea,c1,c2,c3,c4,c5,c6,c7,j1,j2,j3,j4,j5,j6,j7,go_sem,↓reduceIte,Nat.reduceLT,Nat.reduceEqDiff,Nat.reduceAdd,Nat.reduceMul,Nat.reduceSub,Int.reduceAdd,Int.reduceSub,Nat.reduceLeDiff,Int.reduceLT,Int.reduceLE,Int.reduceEq,Int.reduceNeg,Int.reduceToNat,hy] | ((first | refine guardB_dec (fun hy => ?_) (fun hy => ?_) | refine guardB_bool (fun hy => ?_) (fun hy => ?_) | refine guardQ_ite (fun hy => ?_) (fun hy => ?_) | refine brQ_dec (fun hy => ?_) (fun hy => ?_) | refine brQ_bool (fun hy => ?_) (fun hy => ?_)) <;> (try simp only [Bool.not_eq_true',Bool.not_eq_false',Bool.and_eq_true,Bool.or_eq_false_iff,decide_eq_true_eq,decide_eq_false_iff_not] at hy)))
  exact ⟨u',K',rfl,qa,(KeepQ.more 3 K _).trans hkq⟩
 ·rw [if_neg hn]
  have hy := True.intro
  repeat' (first | simp (disch := first | rfl | omega | exact lt_new _ | assumption | decide | (simp [dkS] <;> omega) | fail) only [r102_0,r102_1,r102_2,r102_3,r102_4,c102,rs102,gc102,loadV_ptr,storeV_ptr,tkS,hidx,hn,hs1,c1,c2,c3,c4,c5,c6,c7,go_sem,↓reduceIte,Nat.reduceLT,Nat.reduceEqDiff,Nat.reduceAdd,Nat.reduceMul,Nat.reduceSub,Int.reduceAdd,Int.reduceSub,Nat.reduceLeDiff,Int.reduceLT,Int.reduceLE,Int.reduceEq,Int.reduceNeg,Int.reduceToNat,hy] | ((first | refine guardB_dec (fun hy => ?_) (fun hy => ?_) | refine guardB_bool (fun hy => ?_) (fun hy => ?_) | refine guardQ_ite (fun hy => ?_) (fun hy => ?_) | refine brQ_dec (fun hy => ?_) (fun hy => ?_) | refine brQ_bool (fun hy => ?_) (fun hy => ?_)) <;> (try simp only [Bool.not_eq_true',Bool.not_eq_false',Bool.and_eq_true,Bool.or_eq_false_iff,decide_eq_true_eq,decide_eq_false_iff_not] at hy)))
  exact ⟨u,_,rfl,h.app _,KeepQ.more 3 K _⟩
set_option maxHeartbeats 2000000 in
theorem fn104 {P K : Hp} {u : V} {l : List Sc} (x : Sc) (hx : ScOk x) (h : RowN scE P.length K u l) (hl : l.length + 1 ≤ 2 ^ 30) : ∃ u' K',callL Try.prog pr 104 [u,.agg (scE.f x),.fn 105 [] []] (P ++ K) = some (.tup [u',.int .i64 (putF scS l x).2],P ++ K') ∧ RowN scE P.length K' u' (putF scS l x).1 ∧ KeepQ 4 K K' := by
 suffices h : ∃ r,callL Try.prog pr 104 [u,.agg (scE.f x),.fn 105 [] []] (P ++ K) = some r ∧ ∃ u' K',r = (.tup [u',.int .i64 (putF scS l x).2],P ++ K') ∧ RowN scE P.length K' u' (putF scS l x).1 ∧ KeepQ 4 K K' by
  obtain ⟨_,h1,u',K',rfl,h2⟩ := h; exact ⟨u',K',h1,h2⟩
 refine ex104 (Nat.le_of_ble_eq_true rfl) ?_
 obtain ⟨c1,c2,c3,c4,c5,c6,c7⟩ := h.m.cell
 obtain ⟨A,hs⟩ := sq_scE (G := [AB.row 0 [.fn 105 [] []] true]) h
 have hs1 := fun H' => h.m.len (P := Try.prog) (t := 28) (z := 2) (by kernel_rfl) H'
 have hb : getRow (P ++ (K ++ [AB.row 0 [.fn 105 [] []] true])) (P.length + K.length) 0 = some ([.fn 105 [] []],true) := by
  unfold getRow
  rw [List.getElem?_append_right (by omega),List.getElem?_append_right (by omega),show P.length + K.length - P.length - K.length = 0 by omega]
  rfl
 have hidx := fn145R hs (by omega) (fun y => scS x y) 146 [] [.ptr (P.length + K.length) 0 0,.ipt (scE.f x) 0] kp146 (fun y hy => fn146 x y hx hb)
 obtain ⟨k,hk⟩ : ∃ k,findI (fun y => scS x y) l 0 = k := ⟨_,rfl⟩
 rw [hk] at hidx
 obtain ⟨u',K',ea,qa,hkq⟩ := push_rowQ (E := scE) (w := 2) (by_ := 40) (q := 4) (A := P) rfl rfl (h.app [AB.row 0 [.fn 105 [] []] true]) x (by omega) (by omega) cl_sc
 obtain ⟨j1,j2,j3,j4,j5,j6,j7⟩ := qa.m.cell
 unfold putF
 rw [hk]
 by_cases hn : k < 0
 ·rw [if_pos hn]
  have hy := True.intro
  repeat' (first | simp (disch := first | rfl | omega | exact lt_new _ | assumption | decide | (simp [dkS] <;> omega) | fail) only [r104_0,r104_1,r104_2,r104_3,r104_4,c104,rs104,gc104,loadV_ptr,storeV_ptr,tkS,hidx,hn,hs1,ea,c1,c2,c3,c4,c5,c6,c7,j1,j2,j3,j4,j5,j6,j7,go_sem,↓reduceIte,Nat.reduceLT,Nat.reduceEqDiff,Nat.reduceAdd,Nat.reduceMul,Nat.reduceSub,Int.reduceAdd,Int.reduceSub,Nat.reduceLeDiff,Int.reduceLT,Int.reduceLE,Int.reduceEq,Int.reduceNeg,Int.reduceToNat,hy] | ((first | refine guardB_dec (fun hy => ?_) (fun hy => ?_) | refine guardB_bool (fun hy => ?_) (fun hy => ?_) | refine guardQ_ite (fun hy => ?_) (fun hy => ?_) | refine brQ_dec (fun hy => ?_) (fun hy => ?_) | refine brQ_bool (fun hy => ?_) (fun hy => ?_)) <;> (try simp only [Bool.not_eq_true',Bool.not_eq_false',Bool.and_eq_true,Bool.or_eq_false_iff,decide_eq_true_eq,decide_eq_false_iff_not] at hy)))
  exact ⟨u',K',rfl,qa,(KeepQ.more 4 K _).trans hkq⟩
 ·rw [if_neg hn]
  have hy := True.intro
  repeat' (first | simp (disch := first | rfl | omega | exact lt_new _ | assumption | decide | (simp [dkS] <;> omega) | fail) only [r104_0,r104_1,r104_2,r104_3,r104_4,c104,rs104,gc104,loadV_ptr,storeV_ptr,tkS,hidx,hn,hs1,c1,c2,c3,c4,c5,c6,c7,go_sem,↓reduceIte,Nat.reduceLT,Nat.reduceEqDiff,Nat.reduceAdd,Nat.reduceMul,Nat.reduceSub,Int.reduceAdd,Int.reduceSub,Nat.reduceLeDiff,Int.reduceLT,Int.reduceLE,Int.reduceEq,Int.reduceNeg,Int.reduceToNat,hy] | ((first | refine guardB_dec (fun hy => ?_) (fun hy => ?_) | refine guardB_bool (fun hy => ?_) (fun hy => ?_) | refine guardQ_ite (fun hy => ?_) (fun hy => ?_) | refine brQ_dec (fun hy => ?_) (fun hy => ?_) | refine brQ_bool (fun hy => ?_) (fun hy => ?_)) <;> (try simp only [Bool.not_eq_true',Bool.not_eq_false',Bool.and_eq_true,Bool.or_eq_false_iff,decide_eq_true_eq,decide_eq_false_iff_not] at hy)))
  exact ⟨u,_,rfl,h.app _,KeepQ.more 4 K _⟩
def putsL {α : Type} (S : α → α → Bool) (l xs : List α) : List α := xs.foldl (fun a x => (putF S a x).1) l
def putsB (l xs : List Fc) : List Fc × List Int := xs.foldl (fun a x => ((putF fcS a.1 x).1,a.2 ++ [(putF fcS a.1 x).2])) (l,[])
structure Mg where
 note : List UInt8
 F : List Fc
 N : List Nm
 S : List Sc
 T : List (List Int)
def hd1 (s : Mg) (c : Cp) : Mg := ⟨if s.note = [] then c.note else s.note,(putsB s.F c.faces).1,putsL nmS s.N c.names,putsL scS s.S c.secrets,s.T ++ [(putsB s.F c.faces).2]⟩
def hdL (l : List Cp) : Mg := l.foldl hd1 ⟨[],[],[],[],[]⟩
theorem hdL_snoc {l : List Cp} {i : Nat} (h : i < l.length) : hdL (l.take (i + 1)) = hd1 (hdL (l.take i)) (cpE.at l i) := by
 unfold hdL
 rw [cpE.take_at h,List.foldl_append]
 rfl
theorem putsL_snoc {α : Type} (E : Enc α) (S : α → α → Bool) (l : List α) {xs : List α} {i : Nat} (h : i < xs.length) : putsL S l (xs.take (i + 1)) = (putF S (putsL S l (xs.take i)) (E.at xs i)).1 := by
 unfold putsL
 rw [E.take_at h,List.foldl_append]
 rfl
theorem putsB_snoc (l : List Fc) {xs : List Fc} {i : Nat} (h : i < xs.length) : putsB l (xs.take (i + 1)) = ((putF fcS (putsB l (xs.take i)).1 (fcE.at xs i)).1,(putsB l (xs.take i)).2 ++ [(putF fcS (putsB l (xs.take i)).1 (fcE.at xs i)).2]) := by
 unfold putsB
 rw [fcE.take_at h,List.foldl_append]
 rfl
theorem putF_len {α : Type} (S : α → α → Bool) (l : List α) (x : α) : (putF S l x).1.length ≤ l.length + 1 := by
 unfold putF
 split <;> simp
theorem putsL_len {α : Type} (S : α → α → Bool) : ∀ (xs l : List α),(putsL S l xs).length ≤ l.length + xs.length
 | [],l => by simp [putsL]
 | x :: xs,l => by
  have h := putsL_len S xs (putF S l x).1
  have h2 := putF_len S l x
  show (putsL S (putF S l x).1 xs).length ≤ _
  rw [List.length_cons]
  omega
theorem putsB_len : ∀ (xs l : List Fc) (t : List Int),(xs.foldl (fun a x => ((putF fcS a.1 x).1,a.2 ++ [(putF fcS a.1 x).2])) (l,t)).1.length ≤ l.length + xs.length ∧ (xs.foldl (fun a x => ((putF fcS a.1 x).1,a.2 ++ [(putF fcS a.1 x).2])) (l,t)).2.length = t.length + xs.length
 | [],l,t => by simp
 | x :: xs,l,t => by
  have h := putsB_len xs (putF fcS l x).1 (t ++ [(putF fcS l x).2])
  have h2 := putF_len fcS l x
  rw [List.foldl_cons,List.length_cons]
  constructor
  ·have := h.1
   simp only
   omega
  ·have := h.2
   rw [List.length_append] at this
   simp at this ⊢
   omega
theorem hd1_len (s : Mg) (c : Cp) : (hd1 s c).F.length ≤ s.F.length + c.faces.length ∧ (hd1 s c).N.length ≤ s.N.length + c.names.length ∧ (hd1 s c).S.length ≤ s.S.length + c.secrets.length ∧ (hd1 s c).T.length = s.T.length + 1 := ⟨(putsB_len _ _ _).1,putsL_len _ _ _,putsL_len _ _ _,by simp [hd1]⟩
theorem RowN.setTok {α : Type} {E : Enc α} {n i j : Nat} {b : AB} {K : Hp} {v : V} {l : List α} (h : RowN E n K v l) (ht : K[i]? = some (.tok j)) : RowN E n (K.set i b) v l := by
 by_cases h0 : l = []
 ·rcases h with h | ⟨h1,_⟩
  ·exact Or.inl h
  ·exact absurd h0 h1
 ·obtain ⟨j',g,e,hj,hr,hb⟩ := h.row h0
  have hne : i ≠ j' := by
   rintro rfl
   rw [ht] at hb
   cases hb
  exact Or.inr ⟨h0,j',g,e,by simpa using hj,getRow_of (by rw [List.getElem?_set_ne hne,hb])⟩
theorem sq_cpE {P K G : Hp} {u : V} {l : List Cp} (h : RowN cpE P.length K u l) : ∃ A,Sq cpE 22 31 (P ++ (K ++ G)) u l A := by
 obtain ⟨c1,c2,c3,c4,c5,c6,c7⟩ := h.m.cell
 rcases h with ⟨rfl,rfl⟩ | ⟨_,j,g,rfl,hj,hr⟩
 ·exact ⟨fun _ => .nilslice,⟨c7,c6⟩,m22,fun i hi => absurd hi (Nat.not_lt_zero i)⟩
 ·refine ⟨fun i => .ptr (P.length + j) g (i * 5),⟨c7,c6⟩,n22 _ _ _ _ _,fun i hi => ⟨?_,?_⟩⟩
  ·have := i22 (id := P.length + j) (g := g) (off := 0) (n := l.length) (cp := .full) (k := .i64) (j := (i : Int)) ⟨by omega,by omega⟩
   rw [Int.toNat_natCast,Nat.zero_add] at this
   exact this
  ·have hg : getRow (P ++ (K ++ G)) (P.length + j) g = some (flatE cpE l,true) := by
    have h0 := gr_l (K := G) (g := g) hj
    unfold getRow at hr h0 ⊢
    rw [List.getElem?_append_right (by omega),show P.length + j - P.length = j by omega,h0,hr]
   rw [loadV_ptr,hg]
   exact ld_cpE (H := []) hi
def KeepR (q : Nat) (K K' : Hp) : Prop := K.length ≤ K'.length ∧ ∀ (i g : Nat) (cs : List V) (o : Bool),K[i]? = some (AB.row g cs o) → cl cs ≠ q → K'[i]? = some (AB.row g cs o)
theorem KeepQ.R {q : Nat} {K K' : Hp} (h : KeepQ q K K') : KeepR q K K' := ⟨h.1,fun i g cs o hi hc => h.2 i _ hi fun g' cs' o' he => by injection he with _ he _; rw [← he]; exact hc⟩
theorem KeepR.same (q : Nat) (K : Hp) : KeepR q K K := ⟨Nat.le_refl _,fun _ _ _ _ h _ => h⟩
theorem KeepR.trans {q : Nat} {K1 K2 K3 : Hp} (h : KeepR q K1 K2) (h' : KeepR q K2 K3) : KeepR q K1 K3 := ⟨Nat.le_trans h.1 h'.1,fun i g cs o hb hq => h'.2 i g cs o (h.2 i g cs o hb hq) hq⟩
theorem KeepR.tok {i j : Nat} {K : Hp} (q : Nat) (b : AB) (h : K[i]? = some (.tok j)) : KeepR q K (K.set i b) := ⟨by simp,fun k g cs o hk _ => by
 have hne : i ≠ k := by
  rintro rfl
  rw [h] at hk
  cases hk
 rw [List.getElem?_set_ne hne,hk]⟩
theorem RowN.keepR {α : Type} {E : Enc α} {n q : Nat} {K K' : Hp} {v : V} {l : List α} (h : RowN E n K v l) (hk : KeepR q K K') (c : Nat) (hc : l ≠ [] → cl (flatE E l) = c) (hq : c ≠ q) : RowN E n K' v l := by
 by_cases h0 : l = []
 ·rcases h with h | ⟨h1,_⟩
  ·exact Or.inl h
  ·exact absurd h0 h1
 ·obtain ⟨j,g,e,hj,hr,hb⟩ := h.row h0
  exact Or.inr ⟨h0,j,g,e,Nat.lt_of_lt_of_le hj hk.1,getRow_of (hk.2 j _ _ _ hb (by rw [hc h0]; exact hq))⟩
theorem tok_at {K : Hp} {i n : Nat} (h : K[i]? = some (.tok n)) : tokAt K i = some n := by
 unfold tokAt
 rw [h]
theorem KeepQ.tk {q i n : Nat} {K K' : Hp} (h : KeepQ q K K') (ht : K[i]? = some (.tok n)) : K'[i]? = some (.tok n) := h.2 i _ ht fun _ _ _ he => by cases he
set_option maxHeartbeats 4000000 in
theorem lp1 {P K0 : Hp} {vl va vF w1 w2 w3 w4 : V} {note : List UInt8} {F0 xs : List Fc} {bf : Bool} {a3 a15 a16 a17 : V} {t0 : Nat} {T : Fr} {Q : Ex → Fr → Dfr → Hp → Prop}
  (h0 : get T 0 = .ptr P.length 0 0) (h3 : get T 3 = a3) (h4 : get T 4 = osV (P.length + (t0 + 1)) inE []) (h15 : get T 15 = a15) (h16 : get T 16 = a16) (h17 : get T 17 = a17) (h34 : get T 34 = slV bf fcE xs) (h35 : get T 35 = .int .i64 xs.length) (h36 : get T 36 = .int .i64 0)
  (hF : RowN fcE (P.length + 1) K0 vF F0) (ht : K0[t0]? = some (.tok 0)) (hx : xs.length ≤ 4) (hF0 : F0.length ≤ 2 ^ 25)
  (hQ : ∀ T' K' vF',get T' 0 = .ptr P.length 0 0 → get T' 3 = a3 → get T' 4 = osV (P.length + (t0 + 1)) inE (putsB F0 xs).2 → get T' 15 = a15 → get T' 16 = a16 → get T' 17 = a17 → RowN fcE (P.length + 1) K' vF' (putsB F0 xs).1 → KeepR 2 K0 K' → Q (.exit 2) T' [] (P ++ AB.row 0 [vl,va,.str note,vF',w1,w2,w3,w4] true :: K')) :
  Wp Try.prog (callL Try.prog pr) 114 l55_13.loop T [] (P ++ AB.row 0 [vl,va,.str note,vF,w1,w2,w3,w4] true :: K0) Q := by
 refine Wp_loop (fun m T D H' => ∃ k K vF,m = xs.length - k ∧ k ≤ xs.length ∧ D = [] ∧ H' = P ++ AB.row 0 [vl,va,.str note,vF,w1,w2,w3,w4] true :: K ∧ get T 0 = .ptr P.length 0 0 ∧ get T 3 = a3 ∧ get T 4 = osV (P.length + (t0 + 1)) inE (putsB F0 (xs.take k)).2 ∧ get T 15 = a15 ∧ get T 16 = a16 ∧ get T 17 = a17 ∧ get T 34 = slV bf fcE xs ∧ get T 35 = .int .i64 xs.length ∧ get T 36 = .int .i64 k ∧ RowN fcE (P.length + 1) K vF (putsB F0 (xs.take k)).1 ∧ K[t0]? = some (.tok k) ∧ KeepR 2 K0 K) ?_ xs.length _ _ _ ?_
 case refine_2 => exact ⟨0,K0,vF,rfl,Nat.zero_le _,rfl,rfl,h0,h3,h4,h15,h16,h17,h34,h35,h36,hF,ht,KeepR.same _ _⟩
 clear h0 h3 h4 h15 h16 h17 h34 h35 h36 hF ht
 rintro m T D H' ⟨k,K,vF,rfl,hk,rfl,rfl,h0,h3,h4,h15,h16,h17,h34,h35,h36,hF,ht,hkr⟩
 obtain ⟨c1,c2,c3,c4,c5,c6,c7⟩ := hF.m.cell
 by_cases hlt : k < xs.length
 ·have hlt' : (k : Int) < xs.length := by omega
  have hsn := putsB_snoc F0 hlt
  have hlen := putsB_len (xs.take k) F0 []
  have hlF : (putsB F0 (xs.take k)).1.length ≤ F0.length + k := by have := hlen.1; rw [List.length_take_of_le hk] at this; exact this
  have hlT : (putsB F0 (xs.take k)).2.length = k := by have := hlen.2; rw [List.length_take_of_le hk] at this; simpa [putsB] using this
  obtain ⟨x,hx'⟩ : ∃ x,fcE.at xs k = x := ⟨_,rfl⟩
  rw [hx'] at hsn
  have pn : (P ++ [AB.row 0 [vl,va,.str note,vF,w1,w2,w3,w4] true]).length = P.length + 1 := by simp
  obtain ⟨u',K',e,qa,hkq⟩ := fn100 (P := P ++ [AB.row 0 [vl,va,.str note,vF,w1,w2,w3,w4] true]) (K := K ++ [AB.row 0 (fcE.f x) true]) x trivial (by rw [pn]; exact hF.app _) (by omega)
  rw [pn] at qa
  simp only [List.append_assoc,List.cons_append,List.nil_append] at e
  obtain ⟨j1,j2,j3,j4,j5,j6,j7⟩ := qa.m.cell
  have ht' : K'[t0]? = some (.tok k) := hkq.tk (by rw [List.getElem?_append_left (List.getElem?_eq_some_iff.1 ht).1,ht])
  obtain ⟨st,hst⟩ : ∃ st,putF fcS (putsB F0 (xs.take k)).1 x = st := ⟨_,rfl⟩
  obtain ⟨tb,htb⟩ : ∃ tb,(putsB F0 (xs.take k)).2 = tb := ⟨_,rfl⟩
  rw [hst] at e qa hsn
  rw [htb] at hsn hlT h4
  have eo := os_in (H := P ++ AB.row 0 [vl,va,.str note,u',w1,w2,w3,w4] true :: K') (id := P.length + (t0 + 1)) (l := tb) st.2 (by rw [tk_app,tk_S,tok_at ht',hlT]) (by omega)
  simp only [st_app,List.set_cons_succ] at eo
  have hy := True.intro
  repeat' (first | simp (disch := first | rfl | omega | exact lt_new _ | assumption | decide | (simp [dkS] <;> omega) | fail) only [r55_0,r55_1,r55_2,r55_3,r55_4,r55_5,r55_6,r55_7,r55_8,r55_9,r55_10,r55_11,r55_12,r55_14,r55_15,r55_16,r55_17,r55_18,r55_19,r55_21,r55_22,r55_23,r55_24,r55_25,r55_27,c55,rs55,gc55,l55_13,loadV_ptr,storeV_ptr,tkS,h0,h3,h4,h15,h16,h17,h34,h35,h36,hlt',hx',e,eo,c1,c2,c3,c4,c5,c6,c7,j1,j2,j3,j4,j5,j6,j7,go_sem,↓reduceIte,Nat.reduceLT,Nat.reduceEqDiff,Nat.reduceAdd,Nat.reduceMul,Nat.reduceSub,Int.reduceAdd,Int.reduceSub,Nat.reduceLeDiff,Int.reduceLT,Int.reduceLE,Int.reduceEq,Int.reduceNeg,Int.reduceToNat,hy] | ((first | refine guardB_dec (fun hy => ?_) (fun hy => ?_) | refine guardB_bool (fun hy => ?_) (fun hy => ?_) | refine guardQ_ite (fun hy => ?_) (fun hy => ?_) | refine brQ_dec (fun hy => ?_) (fun hy => ?_) | refine brQ_bool (fun hy => ?_) (fun hy => ?_)) <;> (try simp only [Bool.not_eq_true',Bool.not_eq_false',Bool.and_eq_true,Bool.or_eq_false_iff,decide_eq_true_eq,decide_eq_false_iff_not] at hy)))
  exact ⟨_,by omega,k + 1,K'.set t0 (AB.tok (tb.length + 1)),u',rfl,hlt,rfl,by rw [hsn],rfl,by rw [hsn]; exact qa.setTok ht',by rw [List.getElem?_set_self (List.getElem?_eq_some_iff.1 ht').1,hlT],hkr.trans ((KeepQ.more 2 K _).R.trans (hkq.R.trans (KeepR.tok 2 _ ht')))⟩
 ·obtain rfl : k = xs.length := by omega
  rw [List.take_length] at hF h4
  have hy := True.intro
  repeat' (first | simp (disch := first | rfl | omega | exact lt_new _ | assumption | decide | (simp [dkS] <;> omega) | fail) only [r55_0,r55_1,r55_2,r55_3,r55_4,r55_5,r55_6,r55_7,r55_8,r55_9,r55_10,r55_11,r55_12,r55_14,r55_15,r55_16,r55_17,r55_18,r55_19,r55_21,r55_22,r55_23,r55_24,r55_25,r55_27,c55,rs55,gc55,l55_13,loadV_ptr,storeV_ptr,tkS,h0,h3,h4,h15,h16,h17,h34,h35,h36,Int.lt_irrefl,go_sem,↓reduceIte,Nat.reduceLT,Nat.reduceEqDiff,Nat.reduceAdd,Nat.reduceMul,Nat.reduceSub,Int.reduceAdd,Int.reduceSub,Nat.reduceLeDiff,Int.reduceLT,Int.reduceLE,Int.reduceEq,Int.reduceNeg,Int.reduceToNat,hy] | ((first | refine guardB_dec (fun hy => ?_) (fun hy => ?_) | refine guardB_bool (fun hy => ?_) (fun hy => ?_) | refine guardQ_ite (fun hy => ?_) (fun hy => ?_) | refine brQ_dec (fun hy => ?_) (fun hy => ?_) | refine brQ_bool (fun hy => ?_) (fun hy => ?_)) <;> (try simp only [Bool.not_eq_true',Bool.not_eq_false',Bool.and_eq_true,Bool.or_eq_false_iff,decide_eq_true_eq,decide_eq_false_iff_not] at hy)))
  exact hQ _ K vF (by simpa [go_sem] using h0) (by simpa [go_sem] using h3) (by simpa [go_sem] using h4) (by simpa [go_sem] using h15) (by simpa [go_sem] using h16) (by simpa [go_sem] using h17) hF hkr
set_option maxHeartbeats 4000000 in
theorem lp2 {P K0 : Hp} {vl va w1 vF w2 w3 w4 : V} {note : List UInt8} {F0 xs : List Nm} {bf : Bool} {a3 a15 a16 a17 : V} {T : Fr} {Q : Ex → Fr → Dfr → Hp → Prop}
  (h0 : get T 0 = .ptr P.length 0 0) (h3 : get T 3 = a3) (h15 : get T 15 = a15) (h16 : get T 16 = a16) (h17 : get T 17 = a17) (h34 : get T 70 = slV bf nmE xs) (h35 : get T 71 = .int .i64 xs.length) (h36 : get T 72 = .int .i64 0)
  (hF : RowN nmE (P.length + 1) K0 vF F0) (hx : xs.length ≤ 60) (ho : ∀ x ∈ xs,NmOk x) (hF0 : F0.length ≤ 2 ^ 28)
  (hQ : ∀ T' K' vF',get T' 0 = .ptr P.length 0 0 → get T' 3 = a3 → get T' 15 = a15 → get T' 16 = a16 → get T' 17 = a17 → RowN nmE (P.length + 1) K' vF' (putsL nmS F0 xs) → KeepR 3 K0 K' → Q (.exit 4) T' [] (P ++ AB.row 0 [vl,va,.str note,w1,vF',w2,w3,w4] true :: K')) :
  Wp Try.prog (callL Try.prog pr) 114 l55_20.loop T [] (P ++ AB.row 0 [vl,va,.str note,w1,vF,w2,w3,w4] true :: K0) Q := by
 refine Wp_loop (fun m T D H' => ∃ k K vF,m = xs.length - k ∧ k ≤ xs.length ∧ D = [] ∧ H' = P ++ AB.row 0 [vl,va,.str note,w1,vF,w2,w3,w4] true :: K ∧ get T 0 = .ptr P.length 0 0 ∧ get T 3 = a3 ∧ get T 15 = a15 ∧ get T 16 = a16 ∧ get T 17 = a17 ∧ get T 70 = slV bf nmE xs ∧ get T 71 = .int .i64 xs.length ∧ get T 72 = .int .i64 k ∧ RowN nmE (P.length + 1) K vF (putsL nmS F0 (xs.take k)) ∧ KeepR 3 K0 K) ?_ xs.length _ _ _ ?_
 case refine_2 => exact ⟨0,K0,vF,rfl,Nat.zero_le _,rfl,rfl,h0,h3,h15,h16,h17,h34,h35,h36,hF,KeepR.same _ _⟩
 clear h0 h3 h15 h16 h17 h34 h35 h36 hF
 rintro m T D H' ⟨k,K,vF,rfl,hk,rfl,rfl,h0,h3,h15,h16,h17,h34,h35,h36,hF,hkr⟩
 obtain ⟨c1,c2,c3,c4,c5,c6,c7⟩ := hF.m.cell
 by_cases hlt : k < xs.length
 ·have hlt' : (k : Int) < xs.length := by omega
  have hsn := putsL_snoc nmE nmS F0 hlt
  have hlF : (putsL nmS F0 (xs.take k)).length ≤ F0.length + k := by have := putsL_len nmS (xs.take k) F0; rw [List.length_take_of_le hk] at this; exact this
  have hox := ho _ (nmE.at_mem hlt)
  obtain ⟨x,hx'⟩ : ∃ x,nmE.at xs k = x := ⟨_,rfl⟩
  rw [hx'] at hsn hox
  have pn : (P ++ [AB.row 0 [vl,va,.str note,w1,vF,w2,w3,w4] true]).length = P.length + 1 := by simp
  obtain ⟨u',K',e,qa,hkq⟩ := fn102 (P := P ++ [AB.row 0 [vl,va,.str note,w1,vF,w2,w3,w4] true]) (K := K ++ [AB.row 0 (nmE.f x) true]) x hox (by rw [pn]; exact hF.app _) (by omega)
  rw [pn] at qa
  simp only [List.append_assoc,List.cons_append,List.nil_append] at e
  obtain ⟨j1,j2,j3,j4,j5,j6,j7⟩ := qa.m.cell
  have hy := True.intro
  repeat' (first | simp (disch := first | rfl | omega | exact lt_new _ | assumption | decide | (simp [dkS] <;> omega) | fail) only [r55_0,r55_1,r55_2,r55_3,r55_4,r55_5,r55_6,r55_7,r55_8,r55_9,r55_10,r55_11,r55_12,r55_14,r55_15,r55_16,r55_17,r55_18,r55_19,r55_21,r55_22,r55_23,r55_24,r55_25,r55_27,c55,rs55,gc55,l55_20,loadV_ptr,storeV_ptr,tkS,h0,h3,h15,h16,h17,h34,h35,h36,hlt',hx',e,c1,c2,c3,c4,c5,c6,c7,j1,j2,j3,j4,j5,j6,j7,go_sem,↓reduceIte,Nat.reduceLT,Nat.reduceEqDiff,Nat.reduceAdd,Nat.reduceMul,Nat.reduceSub,Int.reduceAdd,Int.reduceSub,Nat.reduceLeDiff,Int.reduceLT,Int.reduceLE,Int.reduceEq,Int.reduceNeg,Int.reduceToNat,hy] | ((first | refine guardB_dec (fun hy => ?_) (fun hy => ?_) | refine guardB_bool (fun hy => ?_) (fun hy => ?_) | refine guardQ_ite (fun hy => ?_) (fun hy => ?_) | refine brQ_dec (fun hy => ?_) (fun hy => ?_) | refine brQ_bool (fun hy => ?_) (fun hy => ?_)) <;> (try simp only [Bool.not_eq_true',Bool.not_eq_false',Bool.and_eq_true,Bool.or_eq_false_iff,decide_eq_true_eq,decide_eq_false_iff_not] at hy)))
  exact ⟨_,by omega,k + 1,K',u',rfl,hlt,rfl,rfl,by rw [hsn]; exact qa,hkr.trans ((KeepQ.more 3 K _).R.trans hkq.R)⟩
 ·obtain rfl : k = xs.length := by omega
  rw [List.take_length] at hF
  have hy := True.intro
  repeat' (first | simp (disch := first | rfl | omega | exact lt_new _ | assumption | decide | (simp [dkS] <;> omega) | fail) only [r55_0,r55_1,r55_2,r55_3,r55_4,r55_5,r55_6,r55_7,r55_8,r55_9,r55_10,r55_11,r55_12,r55_14,r55_15,r55_16,r55_17,r55_18,r55_19,r55_21,r55_22,r55_23,r55_24,r55_25,r55_27,c55,rs55,gc55,l55_20,loadV_ptr,storeV_ptr,tkS,h0,h3,h15,h16,h17,h34,h35,h36,Int.lt_irrefl,go_sem,↓reduceIte,Nat.reduceLT,Nat.reduceEqDiff,Nat.reduceAdd,Nat.reduceMul,Nat.reduceSub,Int.reduceAdd,Int.reduceSub,Nat.reduceLeDiff,Int.reduceLT,Int.reduceLE,Int.reduceEq,Int.reduceNeg,Int.reduceToNat,hy] | ((first | refine guardB_dec (fun hy => ?_) (fun hy => ?_) | refine guardB_bool (fun hy => ?_) (fun hy => ?_) | refine guardQ_ite (fun hy => ?_) (fun hy => ?_) | refine brQ_dec (fun hy => ?_) (fun hy => ?_) | refine brQ_bool (fun hy => ?_) (fun hy => ?_)) <;> (try simp only [Bool.not_eq_true',Bool.not_eq_false',Bool.and_eq_true,Bool.or_eq_false_iff,decide_eq_true_eq,decide_eq_false_iff_not] at hy)))
  exact hQ _ K vF (by simpa [go_sem] using h0) (by simpa [go_sem] using h3) (by simpa [go_sem] using h15) (by simpa [go_sem] using h16) (by simpa [go_sem] using h17) hF hkr
set_option maxHeartbeats 4000000 in
theorem lp3 {P K0 : Hp} {vl va w1 vF w2 w3 w4 : V} {note : List UInt8} {F0 xs : List Sc} {bf : Bool} {a3 a15 a16 a17 : V} {T : Fr} {Q : Ex → Fr → Dfr → Hp → Prop}
  (h0 : get T 0 = .ptr P.length 0 0) (h3 : get T 3 = a3) (h15 : get T 15 = a15) (h16 : get T 16 = a16) (h17 : get T 17 = a17) (h34 : get T 92 = slV bf scE xs) (h35 : get T 93 = .int .i64 xs.length) (h36 : get T 94 = .int .i64 0)
  (hF : RowN scE (P.length + 1) K0 vF F0) (hx : xs.length ≤ 60) (ho : ∀ x ∈ xs,ScOk x) (hF0 : F0.length ≤ 2 ^ 28)
  (hQ : ∀ T' K' vF',get T' 0 = .ptr P.length 0 0 → get T' 3 = a3 → get T' 15 = a15 → get T' 16 = a16 → get T' 17 = a17 → RowN scE (P.length + 1) K' vF' (putsL scS F0 xs) → KeepR 4 K0 K' → Q (.exit 6) T' [] (P ++ AB.row 0 [vl,va,.str note,w1,w2,vF',w3,w4] true :: K')) :
  Wp Try.prog (callL Try.prog pr) 114 l55_26.loop T [] (P ++ AB.row 0 [vl,va,.str note,w1,w2,vF,w3,w4] true :: K0) Q := by
 refine Wp_loop (fun m T D H' => ∃ k K vF,m = xs.length - k ∧ k ≤ xs.length ∧ D = [] ∧ H' = P ++ AB.row 0 [vl,va,.str note,w1,w2,vF,w3,w4] true :: K ∧ get T 0 = .ptr P.length 0 0 ∧ get T 3 = a3 ∧ get T 15 = a15 ∧ get T 16 = a16 ∧ get T 17 = a17 ∧ get T 92 = slV bf scE xs ∧ get T 93 = .int .i64 xs.length ∧ get T 94 = .int .i64 k ∧ RowN scE (P.length + 1) K vF (putsL scS F0 (xs.take k)) ∧ KeepR 4 K0 K) ?_ xs.length _ _ _ ?_
 case refine_2 => exact ⟨0,K0,vF,rfl,Nat.zero_le _,rfl,rfl,h0,h3,h15,h16,h17,h34,h35,h36,hF,KeepR.same _ _⟩
 clear h0 h3 h15 h16 h17 h34 h35 h36 hF
 rintro m T D H' ⟨k,K,vF,rfl,hk,rfl,rfl,h0,h3,h15,h16,h17,h34,h35,h36,hF,hkr⟩
 obtain ⟨c1,c2,c3,c4,c5,c6,c7⟩ := hF.m.cell
 by_cases hlt : k < xs.length
 ·have hlt' : (k : Int) < xs.length := by omega
  have hsn := putsL_snoc scE scS F0 hlt
  have hlF : (putsL scS F0 (xs.take k)).length ≤ F0.length + k := by have := putsL_len scS (xs.take k) F0; rw [List.length_take_of_le hk] at this; exact this
  have hox := ho _ (scE.at_mem hlt)
  obtain ⟨x,hx'⟩ : ∃ x,scE.at xs k = x := ⟨_,rfl⟩
  rw [hx'] at hsn hox
  have pn : (P ++ [AB.row 0 [vl,va,.str note,w1,w2,vF,w3,w4] true]).length = P.length + 1 := by simp
  obtain ⟨u',K',e,qa,hkq⟩ := fn104 (P := P ++ [AB.row 0 [vl,va,.str note,w1,w2,vF,w3,w4] true]) (K := K ++ [AB.row 0 (scE.f x) true]) x hox (by rw [pn]; exact hF.app _) (by omega)
  rw [pn] at qa
  simp only [List.append_assoc,List.cons_append,List.nil_append] at e
  obtain ⟨j1,j2,j3,j4,j5,j6,j7⟩ := qa.m.cell
  have hy := True.intro
  repeat' (first | simp (disch := first | rfl | omega | exact lt_new _ | assumption | decide | (simp [dkS] <;> omega) | fail) only [r55_0,r55_1,r55_2,r55_3,r55_4,r55_5,r55_6,r55_7,r55_8,r55_9,r55_10,r55_11,r55_12,r55_14,r55_15,r55_16,r55_17,r55_18,r55_19,r55_21,r55_22,r55_23,r55_24,r55_25,r55_27,c55,rs55,gc55,l55_26,loadV_ptr,storeV_ptr,tkS,h0,h3,h15,h16,h17,h34,h35,h36,hlt',hx',e,c1,c2,c3,c4,c5,c6,c7,j1,j2,j3,j4,j5,j6,j7,go_sem,↓reduceIte,Nat.reduceLT,Nat.reduceEqDiff,Nat.reduceAdd,Nat.reduceMul,Nat.reduceSub,Int.reduceAdd,Int.reduceSub,Nat.reduceLeDiff,Int.reduceLT,Int.reduceLE,Int.reduceEq,Int.reduceNeg,Int.reduceToNat,hy] | ((first | refine guardB_dec (fun hy => ?_) (fun hy => ?_) | refine guardB_bool (fun hy => ?_) (fun hy => ?_) | refine guardQ_ite (fun hy => ?_) (fun hy => ?_) | refine brQ_dec (fun hy => ?_) (fun hy => ?_) | refine brQ_bool (fun hy => ?_) (fun hy => ?_)) <;> (try simp only [Bool.not_eq_true',Bool.not_eq_false',Bool.and_eq_true,Bool.or_eq_false_iff,decide_eq_true_eq,decide_eq_false_iff_not] at hy)))
  exact ⟨_,by omega,k + 1,K',u',rfl,hlt,rfl,rfl,by rw [hsn]; exact qa,hkr.trans ((KeepQ.more 4 K _).R.trans hkq.R)⟩
 ·obtain rfl : k = xs.length := by omega
  rw [List.take_length] at hF
  have hy := True.intro
  repeat' (first | simp (disch := first | rfl | omega | exact lt_new _ | assumption | decide | (simp [dkS] <;> omega) | fail) only [r55_0,r55_1,r55_2,r55_3,r55_4,r55_5,r55_6,r55_7,r55_8,r55_9,r55_10,r55_11,r55_12,r55_14,r55_15,r55_16,r55_17,r55_18,r55_19,r55_21,r55_22,r55_23,r55_24,r55_25,r55_27,c55,rs55,gc55,l55_26,loadV_ptr,storeV_ptr,tkS,h0,h3,h15,h16,h17,h34,h35,h36,Int.lt_irrefl,go_sem,↓reduceIte,Nat.reduceLT,Nat.reduceEqDiff,Nat.reduceAdd,Nat.reduceMul,Nat.reduceSub,Int.reduceAdd,Int.reduceSub,Nat.reduceLeDiff,Int.reduceLT,Int.reduceLE,Int.reduceEq,Int.reduceNeg,Int.reduceToNat,hy] | ((first | refine guardB_dec (fun hy => ?_) (fun hy => ?_) | refine guardB_bool (fun hy => ?_) (fun hy => ?_) | refine guardQ_ite (fun hy => ?_) (fun hy => ?_) | refine brQ_dec (fun hy => ?_) (fun hy => ?_) | refine brQ_bool (fun hy => ?_) (fun hy => ?_)) <;> (try simp only [Bool.not_eq_true',Bool.not_eq_false',Bool.and_eq_true,Bool.or_eq_false_iff,decide_eq_true_eq,decide_eq_false_iff_not] at hy)))
  exact hQ _ K vF (by simpa [go_sem] using h0) (by simpa [go_sem] using h3) (by simpa [go_sem] using h15) (by simpa [go_sem] using h16) (by simpa [go_sem] using h17) hF hkr
def HdOk (c : Cp) : Prop := c.faces.length ≤ 4 ∧ c.names.length ≤ 60 ∧ c.secrets.length ≤ 60 ∧ (∀ x ∈ c.names,NmOk x) ∧ ∀ x ∈ c.secrets,ScOk x
theorem cl_cp1 (c : Cp) : cl (cpE.f c) = 1 := by
 rw [cpE_f]
 simp [cl,kd_int,kd_str,kd_sl]
theorem hdL_len : ∀ (l : List Cp) (n : Nat) (s : Mg),(∀ c ∈ l,HdOk c) → (s.F.length ≤ 4 * n ∧ s.N.length ≤ 60 * n ∧ s.S.length ≤ 60 * n ∧ s.T.length = n) → (l.foldl hd1 s).F.length ≤ 4 * (n + l.length) ∧ (l.foldl hd1 s).N.length ≤ 60 * (n + l.length) ∧ (l.foldl hd1 s).S.length ≤ 60 * (n + l.length) ∧ (l.foldl hd1 s).T.length = n + l.length
 | [],n,s,_,h => h
 | c :: l,n,s,hc,h => by
  have h1 := hd1_len s c
  have h2 := hc c List.mem_cons_self
  have := hdL_len l (n + 1) (hd1 s c) (fun x hx => hc x (List.mem_cons_of_mem _ hx)) ⟨by have := h2.1; omega,by have := h2.2.1; omega,by have := h2.2.2.1; omega,by omega⟩
  rw [List.foldl_cons,List.length_cons,show n + (l.length + 1) = n + 1 + l.length by omega]
  exact this
set_option maxHeartbeats 4000000 in
theorem fn55 {P K : Hp} {vl va : V} {ls : List Cp} (hl : RowN cpE (P.length + 1) K vl ls) (hb : ∀ c ∈ ls,HdOk c) (hn : ls.length ≤ 2 ^ 20) :
  ∃ r K' vF vN vS vT,callL Try.prog pr 55 [.ptr P.length 0 0] (P ++ AB.row 0 [vl,va,.str [],.nilslice,.nilslice,.nilslice,.nilslice,.nilslice] true :: K) = some (r,P ++ AB.row 0 [vl,va,.str (hdL ls).note,vF,vN,vS,.nilslice,vT] true :: K') ∧ RowN cpE (P.length + 1) K' vl ls ∧ RowN fcE (P.length + 1) K' vF (hdL ls).F ∧ RowN nmE (P.length + 1) K' vN (hdL ls).N ∧ RowN scE (P.length + 1) K' vS (hdL ls).S ∧ RowN tbE (P.length + 1) K' vT (hdL ls).T := by
 suffices h : ∃ x,callL Try.prog pr 55 [.ptr P.length 0 0] (P ++ AB.row 0 [vl,va,.str [],.nilslice,.nilslice,.nilslice,.nilslice,.nilslice] true :: K) = some x ∧ ∃ r K' vF vN vS vT,x = (r,P ++ AB.row 0 [vl,va,.str (hdL ls).note,vF,vN,vS,.nilslice,vT] true :: K') ∧ RowN cpE (P.length + 1) K' vl ls ∧ RowN fcE (P.length + 1) K' vF (hdL ls).F ∧ RowN nmE (P.length + 1) K' vN (hdL ls).N ∧ RowN scE (P.length + 1) K' vS (hdL ls).S ∧ RowN tbE (P.length + 1) K' vT (hdL ls).T by
  obtain ⟨_,h1,r,K',vF,vN,vS,vT,rfl,h2⟩ := h; exact ⟨r,K',vF,vN,vS,vT,h1,h2⟩
 refine ex55 (Nat.le_of_ble_eq_true rfl) ?_
 have ln := fun H' => hl.m.len (P := Try.prog) (t := 22) (z := 5) (by kernel_rfl) H'
 obtain ⟨l1,l2,l3,l4,l5,l6,l7⟩ := hl.m.cell
 have hy := True.intro
 repeat' (first | simp (disch := first | rfl | omega | exact lt_new _ | assumption | decide | (simp [dkS] <;> omega) | fail) only [r55_0,r55_1,r55_2,r55_3,r55_4,r55_5,r55_6,r55_7,r55_8,r55_9,r55_10,r55_11,r55_12,r55_14,r55_15,r55_16,r55_17,r55_18,r55_19,r55_21,r55_22,r55_23,r55_24,r55_25,r55_27,c55,rs55,gc55,loadV_ptr,storeV_ptr,tkS,ln,l1,l2,l3,l4,l5,l6,l7,go_sem,↓reduceIte,Nat.reduceLT,Nat.reduceEqDiff,Nat.reduceAdd,Nat.reduceMul,Nat.reduceSub,Int.reduceAdd,Int.reduceSub,Nat.reduceLeDiff,Int.reduceLT,Int.reduceLE,Int.reduceEq,Int.reduceNeg,Int.reduceToNat,hy] | ((first | refine guardB_dec (fun hy => ?_) (fun hy => ?_) | refine guardB_bool (fun hy => ?_) (fun hy => ?_) | refine guardQ_ite (fun hy => ?_) (fun hy => ?_) | refine brQ_dec (fun hy => ?_) (fun hy => ?_) | refine brQ_bool (fun hy => ?_) (fun hy => ?_)) <;> (try simp only [Bool.not_eq_true',Bool.not_eq_false',Bool.and_eq_true,Bool.or_eq_false_iff,decide_eq_true_eq,decide_eq_false_iff_not] at hy)))
 refine Wp_loop (fun m T D H' => ∃ k K s vF vN vS vT,m = ls.length - k ∧ k ≤ ls.length ∧ D = [] ∧ H' = P ++ AB.row 0 [vl,va,.str s.note,vF,vN,vS,.nilslice,vT] true :: K ∧ get T 0 = .ptr P.length 0 0 ∧ get T 15 = vl ∧ get T 16 = .int .i64 ls.length ∧ get T 17 = .int .i64 k ∧ hdL (ls.take k) = s ∧ RowN cpE (P.length + 1) K vl ls ∧ RowN fcE (P.length + 1) K vF s.F ∧ RowN nmE (P.length + 1) K vN s.N ∧ RowN scE (P.length + 1) K vS s.S ∧ RowN tbE (P.length + 1) K vT s.T) ?_ ls.length _ _ _ ?_
 case refine_2 => exact ⟨0,K,⟨[],[],[],[],[]⟩,.nilslice,.nilslice,.nilslice,.nilslice,by simp (disch := first | rfl | omega | exact lt_new _ | assumption | decide | (simp [dkS] <;> omega) | fail) only [go_sem,↓reduceIte,Nat.reduceLT,Nat.reduceEqDiff,Nat.reduceAdd,Nat.reduceMul,Nat.reduceSub,Int.reduceAdd,Int.reduceSub,Nat.reduceLeDiff,Int.reduceLT,Int.reduceLE,Int.reduceEq,Int.reduceNeg,Int.reduceToNat]; exact ⟨Nat.zero_le _,rfl,hl,Or.inl ⟨rfl,rfl⟩,Or.inl ⟨rfl,rfl⟩,Or.inl ⟨rfl,rfl⟩,Or.inl ⟨rfl,rfl⟩⟩⟩
 clear hl
 rintro m T D H' ⟨k,K,s,vF,vN,vS,vT,rfl,hk,rfl,rfl,t0,t15,t16,t17,hs,hl,hF,hN,hS,hT⟩
 obtain ⟨c11,c12,c13,c14,c15,c16,c17⟩ := hF.m.cell
 obtain ⟨c21,c22,c23,c24,c25,c26,c27⟩ := hN.m.cell
 obtain ⟨c31,c32,c33,c34,c35,c36,c37⟩ := hS.m.cell
 obtain ⟨c41,c42,c43,c44,c45,c46,c47⟩ := hT.m.cell
 by_cases hlt : k < ls.length
 ·have hlt' : (k : Int) < ls.length := by omega
  have hsn := hdL_snoc hlt
  have hbk := hb _ (cpE.at_mem hlt)
  obtain ⟨c,hc⟩ : ∃ c,cpE.at ls k = c := ⟨_,rfl⟩
  rw [hs,hc] at hsn
  rw [hc] at hbk
  obtain ⟨b1,b2,b3,b4,b5⟩ := hbk
  have hbd := hdL_len (ls.take k) 0 ⟨[],[],[],[],[]⟩ (fun x hx => hb x (List.mem_of_mem_take hx)) ⟨by simp,by simp,by simp,rfl⟩
  rw [show (ls.take k).foldl hd1 ⟨[],[],[],[],[]⟩ = hdL (ls.take k) from rfl,hs,List.length_take_of_le hk] at hbd
  have pn : ∀ x : List V,(P ++ [AB.row 0 x true]).length = P.length + 1 := by simp
  obtain ⟨nt,hnt⟩ : ∃ nt,s.note = nt := ⟨_,rfl⟩
  rw [hnt]
  obtain ⟨A,hsq⟩ := sq_cpE (P := P ++ [AB.row 0 [vl,va,.str nt,vF,vN,vS,.nilslice,vT] true]) (K := K) (G := []) (by rw [pn]; exact hl)
  obtain ⟨x1,x2⟩ := hsq.2.2 k hlt
  simp only [List.append_assoc,List.cons_append,List.nil_append,List.append_nil] at x2
  rw [hc] at x2
  by_cases hno : nt = []
  ·subst hno
   have hy := True.intro
   repeat' (first | simp (disch := first | rfl | omega | exact lt_new _ | assumption | decide | (simp [dkS] <;> omega) | fail) only [r55_0,r55_1,r55_2,r55_3,r55_4,r55_5,r55_6,r55_7,r55_8,r55_9,r55_10,r55_11,r55_12,r55_14,r55_15,r55_16,r55_17,r55_18,r55_19,r55_21,r55_22,r55_23,r55_24,r55_25,r55_27,c55,rs55,gc55,l55_28,loadV_ptr,storeV_ptr,tkS,t0,t15,t16,t17,hlt',x1,x2,l1,l2,l3,l4,l5,l6,l7,c11,c12,c13,c14,c15,c16,c17,c21,c22,c23,c24,c25,c26,c27,c31,c32,c33,c34,c35,c36,c37,c41,c42,c43,c44,c45,c46,c47,go_sem,↓reduceIte,Nat.reduceLT,Nat.reduceEqDiff,Nat.reduceAdd,Nat.reduceMul,Nat.reduceSub,Int.reduceAdd,Int.reduceSub,Nat.reduceLeDiff,Int.reduceLT,Int.reduceLE,Int.reduceEq,Int.reduceNeg,Int.reduceToNat,hy] | ((first | refine guardB_dec (fun hy => ?_) (fun hy => ?_) | refine guardB_bool (fun hy => ?_) (fun hy => ?_) | refine guardQ_ite (fun hy => ?_) (fun hy => ?_) | refine brQ_dec (fun hy => ?_) (fun hy => ?_) | refine brQ_bool (fun hy => ?_) (fun hy => ?_)) <;> (try simp only [Bool.not_eq_true',Bool.not_eq_false',Bool.and_eq_true,Bool.or_eq_false_iff,decide_eq_true_eq,decide_eq_false_iff_not] at hy)))
   refine lp1 (bf := c.facesN) (xs := c.faces) (t0 := K.length + 1) (a3 := .ptr (P.length + (K.length + 1)) 0 0) (a15 := vl) (a16 := .int .i64 ls.length) (a17 := .int .i64 k) (F0 := s.F) (by simp [go_sem,t0]) (by simp [go_sem]) (by simp [go_sem,osV_nil]) (by simp [go_sem,t15]) (by simp [go_sem,t16]) (by simp [go_sem,t17]) (by simp [go_sem]) (by simp [go_sem]) (by simp [go_sem]) (hF.app _) (by simp) b1 (by omega) ?_
   intro T1 K1 vF1 y0 y3 y4 y15 y16 y17 r1 kr1
   have hrow1 : K1[K.length]? = some (AB.row 0 (cpE.f c) true) := kr1.2 _ _ _ _ (by simp) (by rw [cl_cp1]; decide)
   have gl1 := (hl.app _).keepR kr1 1 cl_cp (by decide)
   have gN1 := (hN.app _).keepR kr1 3 cl_nm (by decide)
   have gS1 := (hS.app _).keepR kr1 4 cl_sc (by decide)
   have gT1 := (hT.app _).keepR kr1 5 cl_tb (by decide)
   obtain ⟨d11,d12,d13,d14,d15,d16,d17⟩ := r1.m.cell
   obtain ⟨vT1,K2,eT,qT,kq2⟩ := push_rowQ (E := tbE) (w := 1) (by_ := 24) (q := 5) (A := P ++ [AB.row 0 [vl,va,.str c.note,vF1,vN,vS,.nilslice,vT] true]) (by simp) rfl gT1 (putsB s.F c.faces).2 (by omega) (by omega) cl_tb
   simp only [List.append_assoc,List.cons_append,List.nil_append,tbE_f] at eT
   obtain ⟨d41,d42,d43,d44,d45,d46,d47⟩ := qT.m.cell
   have hrow2' : K2[K.length]? = some (AB.row 0 (cpE.f c) true) := (kq2.2 _ _ hrow1 fun g cs o he => by injection he with _ he _; rw [← he,cl_cp1]; decide)
   have hrow2 : getRow K2 K.length 0 = some (cpE.f c,true) := getRow_of hrow2'
   have gl2 := gl1.keepQ kq2 1 cl_cp (by decide)
   have gF2 := r1.keepQ kq2 2 cl_fc (by decide)
   have gN2 := gN1.keepQ kq2 3 cl_nm (by decide)
   have gS2 := gS1.keepQ kq2 4 cl_sc (by decide)
   have hy := True.intro
   repeat' (first | simp (disch := first | rfl | omega | exact lt_new _ | assumption | decide | (simp [dkS] <;> omega) | fail) only [r55_0,r55_1,r55_2,r55_3,r55_4,r55_5,r55_6,r55_7,r55_8,r55_9,r55_10,r55_11,r55_12,r55_14,r55_15,r55_16,r55_17,r55_18,r55_19,r55_21,r55_22,r55_23,r55_24,r55_25,r55_27,c55,rs55,gc55,loadV_ptr,storeV_ptr,tkS,y0,y3,y4,y15,y16,y17,eT,hrow2,d11,d12,d13,d14,d15,d16,d17,d41,d42,d43,d44,d45,d46,d47,c11,c12,c13,c14,c15,c16,c17,c21,c22,c23,c24,c25,c26,c27,c31,c32,c33,c34,c35,c36,c37,c41,c42,c43,c44,c45,c46,c47,go_sem,↓reduceIte,Nat.reduceLT,Nat.reduceEqDiff,Nat.reduceAdd,Nat.reduceMul,Nat.reduceSub,Int.reduceAdd,Int.reduceSub,Nat.reduceLeDiff,Int.reduceLT,Int.reduceLE,Int.reduceEq,Int.reduceNeg,Int.reduceToNat,hy] | ((first | refine guardB_dec (fun hy => ?_) (fun hy => ?_) | refine guardB_bool (fun hy => ?_) (fun hy => ?_) | refine guardQ_ite (fun hy => ?_) (fun hy => ?_) | refine brQ_dec (fun hy => ?_) (fun hy => ?_) | refine brQ_bool (fun hy => ?_) (fun hy => ?_)) <;> (try simp only [Bool.not_eq_true',Bool.not_eq_false',Bool.and_eq_true,Bool.or_eq_false_iff,decide_eq_true_eq,decide_eq_false_iff_not] at hy)))
   refine lp2 (bf := c.namesN) (xs := c.names) (a3 := .ptr (P.length + (K.length + 1)) 0 0) (a15 := vl) (a16 := .int .i64 ls.length) (a17 := .int .i64 k) (F0 := s.N) (by simp [go_sem,y0]) (by simp [go_sem,y3]) (by simp [go_sem,y15]) (by simp [go_sem,y16]) (by simp [go_sem,y17]) (by simp [go_sem]) (by simp [go_sem]) (by simp [go_sem]) gN2 b2 b4 (by omega) ?_
   clear y0 y3 y4 y15 y16 y17
   intro T2 K3 vN1 y0 y3 y15 y16 y17 r3 kr3
   have hrow3 : getRow K3 K.length 0 = some (cpE.f c,true) := getRow_of (kr3.2 _ _ _ _ hrow2' (by rw [cl_cp1]; decide))
   have gl3 := gl2.keepR kr3 1 cl_cp (by decide)
   have gF3 := gF2.keepR kr3 2 cl_fc (by decide)
   have gS3 := gS2.keepR kr3 4 cl_sc (by decide)
   have gT3 := qT.keepR kr3 5 cl_tb (by decide)
   obtain ⟨d21,d22,d23,d24,d25,d26,d27⟩ := r3.m.cell
   have hy := True.intro
   repeat' (first | simp (disch := first | rfl | omega | exact lt_new _ | assumption | decide | (simp [dkS] <;> omega) | fail) only [r55_0,r55_1,r55_2,r55_3,r55_4,r55_5,r55_6,r55_7,r55_8,r55_9,r55_10,r55_11,r55_12,r55_14,r55_15,r55_16,r55_17,r55_18,r55_19,r55_21,r55_22,r55_23,r55_24,r55_25,r55_27,c55,rs55,gc55,loadV_ptr,storeV_ptr,tkS,y0,y3,y15,y16,y17,hrow3,d11,d12,d13,d14,d15,d16,d17,d21,d22,d23,d24,d25,d26,d27,d41,d42,d43,d44,d45,d46,d47,c11,c12,c13,c14,c15,c16,c17,c21,c22,c23,c24,c25,c26,c27,c31,c32,c33,c34,c35,c36,c37,c41,c42,c43,c44,c45,c46,c47,go_sem,↓reduceIte,Nat.reduceLT,Nat.reduceEqDiff,Nat.reduceAdd,Nat.reduceMul,Nat.reduceSub,Int.reduceAdd,Int.reduceSub,Nat.reduceLeDiff,Int.reduceLT,Int.reduceLE,Int.reduceEq,Int.reduceNeg,Int.reduceToNat,hy] | ((first | refine guardB_dec (fun hy => ?_) (fun hy => ?_) | refine guardB_bool (fun hy => ?_) (fun hy => ?_) | refine guardQ_ite (fun hy => ?_) (fun hy => ?_) | refine brQ_dec (fun hy => ?_) (fun hy => ?_) | refine brQ_bool (fun hy => ?_) (fun hy => ?_)) <;> (try simp only [Bool.not_eq_true',Bool.not_eq_false',Bool.and_eq_true,Bool.or_eq_false_iff,decide_eq_true_eq,decide_eq_false_iff_not] at hy)))
   refine lp3 (bf := c.secretsN) (xs := c.secrets) (a3 := .ptr (P.length + (K.length + 1)) 0 0) (a15 := vl) (a16 := .int .i64 ls.length) (a17 := .int .i64 k) (F0 := s.S) (by simp [go_sem,y0]) (by simp [go_sem,y3]) (by simp [go_sem,y15]) (by simp [go_sem,y16]) (by simp [go_sem,y17]) (by simp [go_sem]) (by simp [go_sem]) (by simp [go_sem]) gS3 b3 b5 (by omega) ?_
   clear y0 y3 y15 y16 y17
   intro T3 K4 vS1 y0 y3 y15 y16 y17 r4 kr4
   have gl4 := gl3.keepR kr4 1 cl_cp (by decide)
   have gF4 := gF3.keepR kr4 2 cl_fc (by decide)
   have gN4 := r3.keepR kr4 3 cl_nm (by decide)
   have gT4 := gT3.keepR kr4 5 cl_tb (by decide)
   have hy := True.intro
   repeat' (first | simp (disch := first | rfl | omega | exact lt_new _ | assumption | decide | (simp [dkS] <;> omega) | fail) only [r55_0,r55_1,r55_2,r55_3,r55_4,r55_5,r55_6,r55_7,r55_8,r55_9,r55_10,r55_11,r55_12,r55_14,r55_15,r55_16,r55_17,r55_18,r55_19,r55_21,r55_22,r55_23,r55_24,r55_25,r55_27,c55,rs55,gc55,loadV_ptr,storeV_ptr,tkS,y0,y3,y15,y16,y17,go_sem,↓reduceIte,Nat.reduceLT,Nat.reduceEqDiff,Nat.reduceAdd,Nat.reduceMul,Nat.reduceSub,Int.reduceAdd,Int.reduceSub,Nat.reduceLeDiff,Int.reduceLT,Int.reduceLE,Int.reduceEq,Int.reduceNeg,Int.reduceToNat,hy] | ((first | refine guardB_dec (fun hy => ?_) (fun hy => ?_) | refine guardB_bool (fun hy => ?_) (fun hy => ?_) | refine guardQ_ite (fun hy => ?_) (fun hy => ?_) | refine brQ_dec (fun hy => ?_) (fun hy => ?_) | refine brQ_bool (fun hy => ?_) (fun hy => ?_)) <;> (try simp only [Bool.not_eq_true',Bool.not_eq_false',Bool.and_eq_true,Bool.or_eq_false_iff,decide_eq_true_eq,decide_eq_false_iff_not] at hy)))
   exact ⟨_,by omega,k + 1,K4,hd1 s c,vF1,vN1,vS1,vT1,rfl,hlt,by simp [hd1,hnt],rfl,hsn,gl4,gF4,gN4,r4,gT4⟩
  ·skip
   have hy := True.intro
   repeat' (first | simp (disch := first | rfl | omega | exact lt_new _ | assumption | decide | (simp [dkS] <;> omega) | fail) only [r55_0,r55_1,r55_2,r55_3,r55_4,r55_5,r55_6,r55_7,r55_8,r55_9,r55_10,r55_11,r55_12,r55_14,r55_15,r55_16,r55_17,r55_18,r55_19,r55_21,r55_22,r55_23,r55_24,r55_25,r55_27,c55,rs55,gc55,l55_28,loadV_ptr,storeV_ptr,tkS,t0,t15,t16,t17,hlt',x1,x2,hno,l1,l2,l3,l4,l5,l6,l7,c11,c12,c13,c14,c15,c16,c17,c21,c22,c23,c24,c25,c26,c27,c31,c32,c33,c34,c35,c36,c37,c41,c42,c43,c44,c45,c46,c47,go_sem,↓reduceIte,Nat.reduceLT,Nat.reduceEqDiff,Nat.reduceAdd,Nat.reduceMul,Nat.reduceSub,Int.reduceAdd,Int.reduceSub,Nat.reduceLeDiff,Int.reduceLT,Int.reduceLE,Int.reduceEq,Int.reduceNeg,Int.reduceToNat,hy] | ((first | refine guardB_dec (fun hy => ?_) (fun hy => ?_) | refine guardB_bool (fun hy => ?_) (fun hy => ?_) | refine guardQ_ite (fun hy => ?_) (fun hy => ?_) | refine brQ_dec (fun hy => ?_) (fun hy => ?_) | refine brQ_bool (fun hy => ?_) (fun hy => ?_)) <;> (try simp only [Bool.not_eq_true',Bool.not_eq_false',Bool.and_eq_true,Bool.or_eq_false_iff,decide_eq_true_eq,decide_eq_false_iff_not] at hy)))
   refine lp1 (bf := c.facesN) (xs := c.faces) (t0 := K.length + 1) (a3 := .ptr (P.length + (K.length + 1)) 0 0) (a15 := vl) (a16 := .int .i64 ls.length) (a17 := .int .i64 k) (F0 := s.F) (by simp [go_sem,t0]) (by simp [go_sem]) (by simp [go_sem,osV_nil]) (by simp [go_sem,t15]) (by simp [go_sem,t16]) (by simp [go_sem,t17]) (by simp [go_sem]) (by simp [go_sem]) (by simp [go_sem]) (hF.app _) (by simp) b1 (by omega) ?_
   intro T1 K1 vF1 y0 y3 y4 y15 y16 y17 r1 kr1
   have hrow1 : K1[K.length]? = some (AB.row 0 (cpE.f c) true) := kr1.2 _ _ _ _ (by simp) (by rw [cl_cp1]; decide)
   have gl1 := (hl.app _).keepR kr1 1 cl_cp (by decide)
   have gN1 := (hN.app _).keepR kr1 3 cl_nm (by decide)
   have gS1 := (hS.app _).keepR kr1 4 cl_sc (by decide)
   have gT1 := (hT.app _).keepR kr1 5 cl_tb (by decide)
   obtain ⟨d11,d12,d13,d14,d15,d16,d17⟩ := r1.m.cell
   obtain ⟨vT1,K2,eT,qT,kq2⟩ := push_rowQ (E := tbE) (w := 1) (by_ := 24) (q := 5) (A := P ++ [AB.row 0 [vl,va,.str nt,vF1,vN,vS,.nilslice,vT] true]) (by simp) rfl gT1 (putsB s.F c.faces).2 (by omega) (by omega) cl_tb
   simp only [List.append_assoc,List.cons_append,List.nil_append,tbE_f] at eT
   obtain ⟨d41,d42,d43,d44,d45,d46,d47⟩ := qT.m.cell
   have hrow2' : K2[K.length]? = some (AB.row 0 (cpE.f c) true) := (kq2.2 _ _ hrow1 fun g cs o he => by injection he with _ he _; rw [← he,cl_cp1]; decide)
   have hrow2 : getRow K2 K.length 0 = some (cpE.f c,true) := getRow_of hrow2'
   have gl2 := gl1.keepQ kq2 1 cl_cp (by decide)
   have gF2 := r1.keepQ kq2 2 cl_fc (by decide)
   have gN2 := gN1.keepQ kq2 3 cl_nm (by decide)
   have gS2 := gS1.keepQ kq2 4 cl_sc (by decide)
   have hy := True.intro
   repeat' (first | simp (disch := first | rfl | omega | exact lt_new _ | assumption | decide | (simp [dkS] <;> omega) | fail) only [r55_0,r55_1,r55_2,r55_3,r55_4,r55_5,r55_6,r55_7,r55_8,r55_9,r55_10,r55_11,r55_12,r55_14,r55_15,r55_16,r55_17,r55_18,r55_19,r55_21,r55_22,r55_23,r55_24,r55_25,r55_27,c55,rs55,gc55,loadV_ptr,storeV_ptr,tkS,y0,y3,y4,y15,y16,y17,eT,hrow2,d11,d12,d13,d14,d15,d16,d17,d41,d42,d43,d44,d45,d46,d47,c11,c12,c13,c14,c15,c16,c17,c21,c22,c23,c24,c25,c26,c27,c31,c32,c33,c34,c35,c36,c37,c41,c42,c43,c44,c45,c46,c47,go_sem,↓reduceIte,Nat.reduceLT,Nat.reduceEqDiff,Nat.reduceAdd,Nat.reduceMul,Nat.reduceSub,Int.reduceAdd,Int.reduceSub,Nat.reduceLeDiff,Int.reduceLT,Int.reduceLE,Int.reduceEq,Int.reduceNeg,Int.reduceToNat,hy] | ((first | refine guardB_dec (fun hy => ?_) (fun hy => ?_) | refine guardB_bool (fun hy => ?_) (fun hy => ?_) | refine guardQ_ite (fun hy => ?_) (fun hy => ?_) | refine brQ_dec (fun hy => ?_) (fun hy => ?_) | refine brQ_bool (fun hy => ?_) (fun hy => ?_)) <;> (try simp only [Bool.not_eq_true',Bool.not_eq_false',Bool.and_eq_true,Bool.or_eq_false_iff,decide_eq_true_eq,decide_eq_false_iff_not] at hy)))
   refine lp2 (bf := c.namesN) (xs := c.names) (a3 := .ptr (P.length + (K.length + 1)) 0 0) (a15 := vl) (a16 := .int .i64 ls.length) (a17 := .int .i64 k) (F0 := s.N) (by simp [go_sem,y0]) (by simp [go_sem,y3]) (by simp [go_sem,y15]) (by simp [go_sem,y16]) (by simp [go_sem,y17]) (by simp [go_sem]) (by simp [go_sem]) (by simp [go_sem]) gN2 b2 b4 (by omega) ?_
   clear y0 y3 y4 y15 y16 y17
   intro T2 K3 vN1 y0 y3 y15 y16 y17 r3 kr3
   have hrow3 : getRow K3 K.length 0 = some (cpE.f c,true) := getRow_of (kr3.2 _ _ _ _ hrow2' (by rw [cl_cp1]; decide))
   have gl3 := gl2.keepR kr3 1 cl_cp (by decide)
   have gF3 := gF2.keepR kr3 2 cl_fc (by decide)
   have gS3 := gS2.keepR kr3 4 cl_sc (by decide)
   have gT3 := qT.keepR kr3 5 cl_tb (by decide)
   obtain ⟨d21,d22,d23,d24,d25,d26,d27⟩ := r3.m.cell
   have hy := True.intro
   repeat' (first | simp (disch := first | rfl | omega | exact lt_new _ | assumption | decide | (simp [dkS] <;> omega) | fail) only [r55_0,r55_1,r55_2,r55_3,r55_4,r55_5,r55_6,r55_7,r55_8,r55_9,r55_10,r55_11,r55_12,r55_14,r55_15,r55_16,r55_17,r55_18,r55_19,r55_21,r55_22,r55_23,r55_24,r55_25,r55_27,c55,rs55,gc55,loadV_ptr,storeV_ptr,tkS,y0,y3,y15,y16,y17,hrow3,d11,d12,d13,d14,d15,d16,d17,d21,d22,d23,d24,d25,d26,d27,d41,d42,d43,d44,d45,d46,d47,c11,c12,c13,c14,c15,c16,c17,c21,c22,c23,c24,c25,c26,c27,c31,c32,c33,c34,c35,c36,c37,c41,c42,c43,c44,c45,c46,c47,go_sem,↓reduceIte,Nat.reduceLT,Nat.reduceEqDiff,Nat.reduceAdd,Nat.reduceMul,Nat.reduceSub,Int.reduceAdd,Int.reduceSub,Nat.reduceLeDiff,Int.reduceLT,Int.reduceLE,Int.reduceEq,Int.reduceNeg,Int.reduceToNat,hy] | ((first | refine guardB_dec (fun hy => ?_) (fun hy => ?_) | refine guardB_bool (fun hy => ?_) (fun hy => ?_) | refine guardQ_ite (fun hy => ?_) (fun hy => ?_) | refine brQ_dec (fun hy => ?_) (fun hy => ?_) | refine brQ_bool (fun hy => ?_) (fun hy => ?_)) <;> (try simp only [Bool.not_eq_true',Bool.not_eq_false',Bool.and_eq_true,Bool.or_eq_false_iff,decide_eq_true_eq,decide_eq_false_iff_not] at hy)))
   refine lp3 (bf := c.secretsN) (xs := c.secrets) (a3 := .ptr (P.length + (K.length + 1)) 0 0) (a15 := vl) (a16 := .int .i64 ls.length) (a17 := .int .i64 k) (F0 := s.S) (by simp [go_sem,y0]) (by simp [go_sem,y3]) (by simp [go_sem,y15]) (by simp [go_sem,y16]) (by simp [go_sem,y17]) (by simp [go_sem]) (by simp [go_sem]) (by simp [go_sem]) gS3 b3 b5 (by omega) ?_
   clear y0 y3 y15 y16 y17
   intro T3 K4 vS1 y0 y3 y15 y16 y17 r4 kr4
   have gl4 := gl3.keepR kr4 1 cl_cp (by decide)
   have gF4 := gF3.keepR kr4 2 cl_fc (by decide)
   have gN4 := r3.keepR kr4 3 cl_nm (by decide)
   have gT4 := gT3.keepR kr4 5 cl_tb (by decide)
   have hy := True.intro
   repeat' (first | simp (disch := first | rfl | omega | exact lt_new _ | assumption | decide | (simp [dkS] <;> omega) | fail) only [r55_0,r55_1,r55_2,r55_3,r55_4,r55_5,r55_6,r55_7,r55_8,r55_9,r55_10,r55_11,r55_12,r55_14,r55_15,r55_16,r55_17,r55_18,r55_19,r55_21,r55_22,r55_23,r55_24,r55_25,r55_27,c55,rs55,gc55,loadV_ptr,storeV_ptr,tkS,y0,y3,y15,y16,y17,go_sem,↓reduceIte,Nat.reduceLT,Nat.reduceEqDiff,Nat.reduceAdd,Nat.reduceMul,Nat.reduceSub,Int.reduceAdd,Int.reduceSub,Nat.reduceLeDiff,Int.reduceLT,Int.reduceLE,Int.reduceEq,Int.reduceNeg,Int.reduceToNat,hy] | ((first | refine guardB_dec (fun hy => ?_) (fun hy => ?_) | refine guardB_bool (fun hy => ?_) (fun hy => ?_) | refine guardQ_ite (fun hy => ?_) (fun hy => ?_) | refine brQ_dec (fun hy => ?_) (fun hy => ?_) | refine brQ_bool (fun hy => ?_) (fun hy => ?_)) <;> (try simp only [Bool.not_eq_true',Bool.not_eq_false',Bool.and_eq_true,Bool.or_eq_false_iff,decide_eq_true_eq,decide_eq_false_iff_not] at hy)))
   exact ⟨_,by omega,k + 1,K4,hd1 s c,vF1,vN1,vS1,vT1,rfl,hlt,by simp [hd1,hnt,hno],rfl,hsn,gl4,gF4,gN4,r4,gT4⟩
 ·obtain rfl : k = ls.length := by omega
  rw [List.take_length] at hs
  subst hs
  have hy := True.intro
  repeat' (first | simp (disch := first | rfl | omega | exact lt_new _ | assumption | decide | (simp [dkS] <;> omega) | fail) only [r55_0,r55_1,r55_2,r55_3,r55_4,r55_5,r55_6,r55_7,r55_8,r55_9,r55_10,r55_11,r55_12,r55_14,r55_15,r55_16,r55_17,r55_18,r55_19,r55_21,r55_22,r55_23,r55_24,r55_25,r55_27,c55,rs55,gc55,l55_28,loadV_ptr,storeV_ptr,tkS,t0,t15,t16,t17,Int.lt_irrefl,go_sem,↓reduceIte,Nat.reduceLT,Nat.reduceEqDiff,Nat.reduceAdd,Nat.reduceMul,Nat.reduceSub,Int.reduceAdd,Int.reduceSub,Nat.reduceLeDiff,Int.reduceLT,Int.reduceLE,Int.reduceEq,Int.reduceNeg,Int.reduceToNat,hy] | ((first | refine guardB_dec (fun hy => ?_) (fun hy => ?_) | refine guardB_bool (fun hy => ?_) (fun hy => ?_) | refine guardQ_ite (fun hy => ?_) (fun hy => ?_) | refine brQ_dec (fun hy => ?_) (fun hy => ?_) | refine brQ_bool (fun hy => ?_) (fun hy => ?_)) <;> (try simp only [Bool.not_eq_true',Bool.not_eq_false',Bool.and_eq_true,Bool.or_eq_false_iff,decide_eq_true_eq,decide_eq_false_iff_not] at hy)))
  exact ⟨_,K,vF,vN,vS,vT,rfl,hl,hF,hN,hS,hT⟩
end Go.Proofs.Ytejkgnmjdaohdaa
