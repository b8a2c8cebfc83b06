/-
  Texts of this seat, laid together. No statement of the seat stands here.
-/
import Derived.Test.YtejkgnmjdaohdaaP6
set_option linter.unusedSimpArgs false
set_option linter.unusedVariables false
namespace Go.Proofs.Ytejkgnmjdaohdaa
open Go Go.An
set_option maxRecDepth 4000
def bstep (f : Nat → List Int) (b : Int) (k : Nat) : Int := if f k ≠ [] ∧ (b < 0 ∨ (f k).headD 0 < (f b.toNat).headD 0) then (k : Int) else b
def bestN (f : Nat → List Int) : Nat → Int
 | 0 => -1
 | n + 1 => bstep f (bestN f n) n
theorem bestN_in (f : Nat → List Int) : ∀ n,bestN f n = -1 ∨ ∃ j : Nat,bestN f n = j ∧ j < n ∧ f j ≠ []
 | 0 => Or.inl rfl
 | n + 1 => by
  unfold bestN bstep
  split
  ·rename_i h
   exact Or.inr ⟨n,rfl,by omega,h.1⟩
  ·rcases bestN_in f n with h | ⟨j,h1,h2,h3⟩
   ·exact Or.inl h
   ·exact Or.inr ⟨j,h1,by omega,h3⟩
theorem bestN_no (f : Nat → List Int) : ∀ n,bestN f n = -1 → ∀ k < n,f k = []
 | 0,_,k,hk => absurd hk (Nat.not_lt_zero k)
 | n + 1,h,k,hk => by
  unfold bestN bstep at h
  split at h
  ·omega
  ·rename_i h2
   have h3 : f n = [] := by
    apply Classical.byContradiction
    intro hn
    exact h2 ⟨hn,Or.inl (by omega)⟩
   rcases Nat.lt_succ_iff_lt_or_eq.1 hk with h4 | h4
   ·exact bestN_no f n h k h4
   ·rw [h4]; exact h3
def tsF (ls : List Cp) (ats : List Int) (k : Nat) : List Int := ((cpE.at ls k).packets.drop (inE.at ats k).toNat).map (·.time)
def AtOk (ls : List Cp) (ats : List Int) : Prop := ats.length = ls.length ∧ ∀ k < ls.length,0 ≤ inE.at ats k ∧ inE.at ats k ≤ (cpE.at ls k).packets.length
theorem tsF_ne {ls : List Cp} {ats : List Int} {k : Nat} (h : 0 ≤ inE.at ats k) : tsF ls ats k ≠ [] ↔ inE.at ats k < (cpE.at ls k).packets.length := by
 unfold tsF
 rw [Ne,List.map_eq_nil_iff,List.drop_eq_nil_iff]
 omega
theorem tsF_hd {ls : List Cp} {ats : List Int} {k : Nat} (h0 : 0 ≤ inE.at ats k) (h : inE.at ats k < (cpE.at ls k).packets.length) : (tsF ls ats k).headD 0 = (pkE.at (cpE.at ls k).packets (inE.at ats k).toNat).time := by
 unfold tsF
 have hl : (inE.at ats k).toNat < (cpE.at ls k).packets.length := by omega
 have e := pkE.at_some hl
 rw [List.drop_eq_getElem_cons hl]
 rw [List.getElem?_eq_getElem hl] at e
 rw [← Option.some.inj e]
 rfl
set_option maxHeartbeats 4000000 in
theorem fn56 {ls : List Cp} {ats : List Int} {b1 b2 : Bool} {x1 x2 x3 x4 x5 x6 : V} (hn : ls.length ≤ 2 ^ 20) (ho : AtOk ls ats) (H : Hp) : callL Try.prog pr 56 [.ipt [slV b1 cpE ls,slV b2 inE ats,x1,x2,x3,x4,x5,x6] 0] H = some (.int .i64 (bestN (tsF ls ats) ls.length),H) := by
 obtain ⟨ho1,ho2⟩ := ho
 refine pur_eq rfl rfl (by simp [go_sem]) rfl ?_
 clear H
 intro H
 refine run56 (Nat.le_of_ble_eq_true rfl) ?_
 have hy := True.intro
 repeat' (first | simp (disch := first | rfl | omega | exact lt_new _ | assumption | decide | (simp [dkS] <;> omega) | fail) only [r56_0,r56_1,r56_2,r56_3,r56_4,r56_5,r56_6,r56_7,r56_9,c56,rs56,gc56,loadV_ptr,storeV_ptr,tkS,go_sem,↓reduceIte,Nat.reduceLT,Nat.reduceEqDiff,Nat.reduceAdd,Nat.reduceMul,Nat.reduceSub,Int.reduceAdd,Int.reduceSub,Nat.reduceLeDiff,Int.reduceLT,Int.reduceLE,Int.reduceEq,Int.reduceNeg,Int.reduceToNat,hy] | ((first | refine guardB_dec (fun hy => ?_) (fun hy => ?_) | refine guardB_bool (fun hy => ?_) (fun hy => ?_) | refine guardQ_ite (fun hy => ?_) (fun hy => ?_) | refine brQ_dec (fun hy => ?_) (fun hy => ?_) | refine brQ_bool (fun hy => ?_) (fun hy => ?_)) <;> (try simp only [Bool.not_eq_true',Bool.not_eq_false',Bool.and_eq_true,Bool.or_eq_false_iff,decide_eq_true_eq,decide_eq_false_iff_not] at hy)))
 refine Wp_loop (fun m T D H' => ∃ k G,m = ls.length - k ∧ k ≤ ls.length ∧ D = [] ∧ H' = H ++ G ∧ get T 0 = .ipt [slV b1 cpE ls,slV b2 inE ats,x1,x2,x3,x4,x5,x6] 0 ∧ get T 3 = .int .i64 (bestN (tsF ls ats) k) ∧ get T 9 = slV b1 cpE ls ∧ get T 10 = .int .i64 ls.length ∧ get T 11 = .int .i64 k) ?_ ls.length _ _ _ ?_
 case refine_2 => exact ⟨0,[],by simp (disch := first | rfl | omega | exact lt_new _ | assumption | decide | (simp [dkS] <;> omega) | fail) only [go_sem,↓reduceIte,Nat.reduceLT,Nat.reduceEqDiff,Nat.reduceAdd,Nat.reduceMul,Nat.reduceSub,Int.reduceAdd,Int.reduceSub,Nat.reduceLeDiff,Int.reduceLT,Int.reduceLE,Int.reduceEq,Int.reduceNeg,Int.reduceToNat]; simp [bestN]⟩
 rintro m T D H' ⟨k,G,rfl,hk,rfl,rfl,t0,t3,t9,t10,t11⟩
 by_cases hlt : k < ls.length
 ·have hlt' : (k : Int) < ls.length := by omega
  have hlt2 : (k : Int) < ats.length := by omega
  obtain ⟨ok1,ok2⟩ := ho2 k hlt
  have hne := tsF_ne (ls := ls) ok1
  have hhd := tsF_hd (ls := ls) ok1
  have hb : bestN (tsF ls ats) (k + 1) = bstep (tsF ls ats) (bestN (tsF ls ats) k) k := rfl
  have la := fun H => @ld_cell0 _ Try.prog H _ inE ats 3 1 k g3 rfl (by omega)
  obtain ⟨n,hn2⟩ : ∃ n : Nat,inE.at ats k = n := ⟨(inE.at ats k).toNat,by omega⟩
  rw [hn2] at la ok1 ok2 hne hhd
  rw [Int.toNat_natCast] at hhd
  have lc := fun H => ld_cpE (H := H) hlt
  obtain ⟨c,hc⟩ : ∃ c,cpE.at ls k = c := ⟨_,rfl⟩
  rw [hc] at ok2 hne hhd lc
  by_cases ha : (n : Int) < c.packets.length
  case neg =>
   have hb2 : bestN (tsF ls ats) (k + 1) = bestN (tsF ls ats) k := by rw [hb]; unfold bstep; rw [if_neg (fun h => ha (hne.1 h.1))]
   have hy := True.intro
   repeat' (first | simp (disch := first | rfl | omega | exact lt_new _ | assumption | decide | (simp [dkS] <;> omega) | fail) only [r56_0,r56_1,r56_2,r56_3,r56_4,r56_5,r56_6,r56_7,l56_8,r56_9,c56,rs56,gc56,loadV_ptr,storeV_ptr,tkS,t0,t3,t9,t10,t11,hlt',hlt2,la,lc,ha,go_sem,↓reduceIte,Nat.reduceLT,Nat.reduceEqDiff,Nat.reduceAdd,Nat.reduceMul,Nat.reduceSub,Int.reduceAdd,Int.reduceSub,Nat.reduceLeDiff,Int.reduceLT,Int.reduceLE,Int.reduceEq,Int.reduceNeg,Int.reduceToNat,hy] | ((first | refine guardB_dec (fun hy => ?_) (fun hy => ?_) | refine guardB_bool (fun hy => ?_) (fun hy => ?_) | refine guardQ_ite (fun hy => ?_) (fun hy => ?_) | refine brQ_dec (fun hy => ?_) (fun hy => ?_) | refine brQ_bool (fun hy => ?_) (fun hy => ?_)) <;> (try simp only [Bool.not_eq_true',Bool.not_eq_false',Bool.and_eq_true,Bool.or_eq_false_iff,decide_eq_true_eq,decide_eq_false_iff_not] at hy)))
   exact ⟨_,by omega,k + 1,G ++ [_],rfl,hlt,rfl,by rw [hb2],rfl⟩
  have hn3 : n < c.packets.length := by omega
  have lp := fun H => ld_pkE_0 (H := H) hn3
  rcases bestN_in (tsF ls ats) k with h1 | ⟨j,hj1,hj2,hj3⟩
  ·have hb2 : bestN (tsF ls ats) (k + 1) = k := by rw [hb,h1]; unfold bstep; rw [if_pos ⟨hne.2 ha,Or.inl (by decide)⟩]
   rw [h1] at t3
   have hy := True.intro
   repeat' (first | simp (disch := first | rfl | omega | exact lt_new _ | assumption | decide | (simp [dkS] <;> omega) | fail) only [r56_0,r56_1,r56_2,r56_3,r56_4,r56_5,r56_6,r56_7,l56_8,r56_9,c56,rs56,gc56,loadV_ptr,storeV_ptr,tkS,t0,t3,t9,t10,t11,hlt',hlt2,la,lc,ha,lp,go_sem,↓reduceIte,Nat.reduceLT,Nat.reduceEqDiff,Nat.reduceAdd,Nat.reduceMul,Nat.reduceSub,Int.reduceAdd,Int.reduceSub,Nat.reduceLeDiff,Int.reduceLT,Int.reduceLE,Int.reduceEq,Int.reduceNeg,Int.reduceToNat,hy] | ((first | refine guardB_dec (fun hy => ?_) (fun hy => ?_) | refine guardB_bool (fun hy => ?_) (fun hy => ?_) | refine guardQ_ite (fun hy => ?_) (fun hy => ?_) | refine brQ_dec (fun hy => ?_) (fun hy => ?_) | refine brQ_bool (fun hy => ?_) (fun hy => ?_)) <;> (try simp only [Bool.not_eq_true',Bool.not_eq_false',Bool.and_eq_true,Bool.or_eq_false_iff,decide_eq_true_eq,decide_eq_false_iff_not] at hy)))
   exact ⟨_,by omega,k + 1,G ++ [_],rfl,hlt,rfl,by rw [hb2],rfl⟩
  ·have jlt : j < ls.length := by omega
   have jlt' : (j : Int) < ls.length := by omega
   have jlt2 : (j : Int) < ats.length := by omega
   obtain ⟨jk1,jk2⟩ := ho2 j jlt
   have jne := tsF_ne (ls := ls) jk1
   have jhd := tsF_hd (ls := ls) jk1
   have lja := fun H => @ld_cell0 _ Try.prog H _ inE ats 3 1 j g3 rfl (by omega)
   obtain ⟨i,hi2⟩ : ∃ i : Nat,inE.at ats j = i := ⟨(inE.at ats j).toNat,by omega⟩
   rw [hi2] at lja jk1 jk2 jne jhd
   rw [Int.toNat_natCast] at jhd
   have ljc := fun H => ld_cpE_4 (H := H) jlt
   obtain ⟨d,hd⟩ : ∃ d,cpE.at ls j = d := ⟨_,rfl⟩
   rw [hd] at jk2 jne jhd ljc
   have jl : (i : Int) < d.packets.length := jne.1 hj3
   have jl3 : i < d.packets.length := by omega
   have ljp := fun H => ld_pkE_0 (H := H) jl3
   have jn : ¬ (j : Int) < 0 := by omega
   rw [hj1] at t3
   obtain ⟨p,hp⟩ : ∃ p,(pkE.at c.packets n).time = p := ⟨_,rfl⟩
   obtain ⟨q,hq⟩ : ∃ q,(pkE.at d.packets i).time = q := ⟨_,rfl⟩
   rw [hp] at lp hhd
   rw [hq] at ljp jhd
   by_cases hpq : p < q
   ·have hb2 : bestN (tsF ls ats) (k + 1) = k := by rw [hb,hj1]; unfold bstep; rw [if_pos ⟨hne.2 ha,Or.inr (by rw [Int.toNat_natCast,hhd ha,jhd jl]; exact hpq)⟩]
    have hy := True.intro
    repeat' (first | simp (disch := first | rfl | omega | exact lt_new _ | assumption | decide | (simp [dkS] <;> omega) | fail) only [r56_0,r56_1,r56_2,r56_3,r56_4,r56_5,r56_6,r56_7,l56_8,r56_9,c56,rs56,gc56,loadV_ptr,storeV_ptr,tkS,t0,t3,t9,t10,t11,hlt',hlt2,la,lc,ha,lp,jlt',jlt2,lja,ljc,jl,ljp,jn,hpq,go_sem,↓reduceIte,Nat.reduceLT,Nat.reduceEqDiff,Nat.reduceAdd,Nat.reduceMul,Nat.reduceSub,Int.reduceAdd,Int.reduceSub,Nat.reduceLeDiff,Int.reduceLT,Int.reduceLE,Int.reduceEq,Int.reduceNeg,Int.reduceToNat,hy] | ((first | refine guardB_dec (fun hy => ?_) (fun hy => ?_) | refine guardB_bool (fun hy => ?_) (fun hy => ?_) | refine guardQ_ite (fun hy => ?_) (fun hy => ?_) | refine brQ_dec (fun hy => ?_) (fun hy => ?_) | refine brQ_bool (fun hy => ?_) (fun hy => ?_)) <;> (try simp only [Bool.not_eq_true',Bool.not_eq_false',Bool.and_eq_true,Bool.or_eq_false_iff,decide_eq_true_eq,decide_eq_false_iff_not] at hy)))
    exact ⟨_,by omega,k + 1,G ++ [_],rfl,hlt,rfl,by rw [hb2],rfl⟩
   ·have hb2 : bestN (tsF ls ats) (k + 1) = j := by
     rw [hb,hj1]
     unfold bstep
     rw [if_neg]
     rintro ⟨_,h | h⟩
     ·exact jn h
     ·rw [Int.toNat_natCast,hhd ha,jhd jl] at h
      exact hpq h
    have hy := True.intro
    repeat' (first | simp (disch := first | rfl | omega | exact lt_new _ | assumption | decide | (simp [dkS] <;> omega) | fail) only [r56_0,r56_1,r56_2,r56_3,r56_4,r56_5,r56_6,r56_7,l56_8,r56_9,c56,rs56,gc56,loadV_ptr,storeV_ptr,tkS,t0,t3,t9,t10,t11,hlt',hlt2,la,lc,ha,lp,jlt',jlt2,lja,ljc,jl,ljp,jn,hpq,go_sem,↓reduceIte,Nat.reduceLT,Nat.reduceEqDiff,Nat.reduceAdd,Nat.reduceMul,Nat.reduceSub,Int.reduceAdd,Int.reduceSub,Nat.reduceLeDiff,Int.reduceLT,Int.reduceLE,Int.reduceEq,Int.reduceNeg,Int.reduceToNat,hy] | ((first | refine guardB_dec (fun hy => ?_) (fun hy => ?_) | refine guardB_bool (fun hy => ?_) (fun hy => ?_) | refine guardQ_ite (fun hy => ?_) (fun hy => ?_) | refine brQ_dec (fun hy => ?_) (fun hy => ?_) | refine brQ_bool (fun hy => ?_) (fun hy => ?_)) <;> (try simp only [Bool.not_eq_true',Bool.not_eq_false',Bool.and_eq_true,Bool.or_eq_false_iff,decide_eq_true_eq,decide_eq_false_iff_not] at hy)))
    exact ⟨_,by omega,k + 1,G ++ [_],rfl,hlt,rfl,by rw [hb2],rfl⟩
 ·obtain rfl : k = ls.length := by omega
  have hy := True.intro
  repeat' (first | simp (disch := first | rfl | omega | exact lt_new _ | assumption | decide | (simp [dkS] <;> omega) | fail) only [r56_0,r56_1,r56_2,r56_3,r56_4,r56_5,r56_6,r56_7,l56_8,r56_9,c56,rs56,gc56,loadV_ptr,storeV_ptr,tkS,t0,t3,t9,t10,t11,Int.lt_irrefl,go_sem,↓reduceIte,Nat.reduceLT,Nat.reduceEqDiff,Nat.reduceAdd,Nat.reduceMul,Nat.reduceSub,Int.reduceAdd,Int.reduceSub,Nat.reduceLeDiff,Int.reduceLT,Int.reduceLE,Int.reduceEq,Int.reduceNeg,Int.reduceToNat,hy] | ((first | refine guardB_dec (fun hy => ?_) (fun hy => ?_) | refine guardB_bool (fun hy => ?_) (fun hy => ?_) | refine guardQ_ite (fun hy => ?_) (fun hy => ?_) | refine brQ_dec (fun hy => ?_) (fun hy => ?_) | refine brQ_bool (fun hy => ?_) (fun hy => ?_)) <;> (try simp only [Bool.not_eq_true',Bool.not_eq_false',Bool.and_eq_true,Bool.or_eq_false_iff,decide_eq_true_eq,decide_eq_false_iff_not] at hy)))
  exact finQ_app (by simp (disch := first | rfl | omega | exact lt_new _ | assumption | decide | (simp [dkS] <;> omega) | fail) only [go_sem,↓reduceIte,Nat.reduceLT,Nat.reduceEqDiff,Nat.reduceAdd,Nat.reduceMul,Nat.reduceSub,Int.reduceAdd,Int.reduceSub,Nat.reduceLeDiff,Int.reduceLT,Int.reduceLE,Int.reduceEq,Int.reduceNeg,Int.reduceToNat])
def setT (to : Int → Int × Bool) (p : Pk) : Pk := {p with time := (to p.time).1}
def okTo (to : Int → Int × Bool) (p : Pk) : Bool := (to p.time).2
def tmF (c : Cp) (to : Int → Int × Bool) : Cp × Int := if valE c = 0 then (if c.packets.all (okTo to) = true then ({c with packets := c.packets.map (setT to)},0) else (noCp,1)) else (noCp,valE c)
theorem take_all {p : Pk → Bool} {l : List Pk} {i : Nat} (h : i < l.length) : (l.take (i + 1)).all p = ((l.take i).all p && p (pkE.at l i)) := by
 rw [pkE.take_at h]; simp
theorem all_drop {p : Pk → Bool} {l : List Pk} {i : Nat} (h : i < l.length) (hp : p (pkE.at l i) = false) : l.all p = false := by
 rw [List.all_eq_false]
 exact ⟨_,pkE.at_mem h,by simp [hp]⟩
set_option maxHeartbeats 2000000 in
theorem fn91 (c : Cp) (hc : CpOk c) (to : Int → Int × Bool) (f : Nat) (ca cb : List V) (hk : ∀ v,demK f v = v.dem) (hf : valE c = 0 → ∀ p ∈ c.packets,∀ H,callL Try.prog pr f (ca ++ [.int .i64 p.time] ++ cb) H = some (.tup [.int .i64 (to p.time).1,.bool (to p.time).2],H)) (H : Hp) : ∃ d,callL Try.prog pr 91 [.agg (cpE.f c),.fn f ca cb] H = some (.tup [.agg (cpE.f d),.int .i64 (tmF c to).2],H) ∧ CpEq d (tmF c to).1 := by
 suffices h : ∃ r,callL Try.prog pr 91 [.agg (cpE.f c),.fn f ca cb] H = some r ∧ ∃ d,r = (.tup [.agg (cpE.f d),.int .i64 (tmF c to).2],H) ∧ CpEq d (tmF c to).1 by
  obtain ⟨_,h1,d,rfl,h2⟩ := h; exact ⟨d,h1,h2⟩
 have hfy := ne_demK hk
 have h54 := ask1 c hc
 refine ex91 (Nat.le_of_ble_eq_true rfl) ?_
 unfold tmF
 by_cases hv : valE c = 0
 case neg =>
  rw [if_neg hv]
  have hy := True.intro
  repeat' (first | simp (disch := first | rfl | omega | exact lt_new _ | assumption | decide | (simp [dkS] <;> omega) | fail) only [r91_0,r91_1,r91_2,r91_3,r91_4,r91_5,r91_6,r91_7,r91_8,r91_9,r91_10,r91_11,r91_12,r91_14,c91,rs91,gc91,loadV_ptr,storeV_ptr,tkS,h54,hv,go_sem,↓reduceIte,Nat.reduceLT,Nat.reduceEqDiff,Nat.reduceAdd,Nat.reduceMul,Nat.reduceSub,Int.reduceAdd,Int.reduceSub,Nat.reduceLeDiff,Int.reduceLT,Int.reduceLE,Int.reduceEq,Int.reduceNeg,Int.reduceToNat,hy] | ((first | refine guardB_dec (fun hy => ?_) (fun hy => ?_) | refine guardB_bool (fun hy => ?_) (fun hy => ?_) | refine guardQ_ite (fun hy => ?_) (fun hy => ?_) | refine brQ_dec (fun hy => ?_) (fun hy => ?_) | refine brQ_bool (fun hy => ?_) (fun hy => ?_)) <;> (try simp only [Bool.not_eq_true',Bool.not_eq_false',Bool.and_eq_true,Bool.or_eq_false_iff,decide_eq_true_eq,decide_eq_false_iff_not] at hy)))
  exact ⟨noCp,finQ_app (by rw [noCp_f]; simp (disch := first | rfl | omega | exact lt_new _ | assumption | decide | (simp [dkS] <;> omega) | fail) only [go_sem,↓reduceIte,Nat.reduceLT,Nat.reduceEqDiff,Nat.reduceAdd,Nat.reduceMul,Nat.reduceSub,Int.reduceAdd,Int.reduceSub,Nat.reduceLeDiff,Int.reduceLT,Int.reduceLE,Int.reduceEq,Int.reduceNeg,Int.reduceToNat]),CpEq.rfl' _⟩
 rw [if_pos hv]
 replace hf := hf hv
 have hl := (val_pk hv).2.1.1
 have hc0 : cpE.f c = [.str c.note,slV c.facesN fcE c.faces,slV c.namesN nmE c.names,slV c.secretsN scE c.secrets,slV c.packetsN pkE c.packets] := rfl
 obtain ⟨v1,v2,v3,v4,L,X,e,q1,q2,q3,q4⟩ := fn74s c (val_S hv) (H ++ .row 0 (cpE.f c) true :: .row 0 [.str [],.nilslice,.nilslice,.nilslice,.nilslice] true :: [])
 rw [show (H ++ AB.row 0 (cpE.f c) true :: .row 0 [.str [],.nilslice,.nilslice,.nilslice,.nilslice] true :: []).length = H.length + 2 by simp] at q1 q2 q3 q4
 obtain ⟨c11,c12,c13,c14,c15,c16,c17⟩ := q1.cell
 obtain ⟨c21,c22,c23,c24,c25,c26,c27⟩ := q2.cell
 obtain ⟨c31,c32,c33,c34,c35,c36,c37⟩ := q3.cell
 obtain ⟨c41,c42,c43,c44,c45,c46,c47⟩ := q4.cell
 have n4 := fun H' => q4.len (P := Try.prog) (t := 29) (z := 5) (by kernel_rfl) H'
 rw [hc0] at e
 rw [hc0] at h54
 simp (disch := first | rfl | omega | exact lt_new _ | assumption | decide | (simp [dkS] <;> omega) | fail) only [r91_0,r91_1,r91_2,r91_3,r91_4,r91_5,r91_6,r91_7,r91_8,r91_9,r91_10,r91_11,r91_12,r91_14,c91,rs91,gc91,go_sem,↓reduceIte,Nat.reduceLT,Nat.reduceEqDiff,Nat.reduceAdd,Nat.reduceMul,Nat.reduceSub,Int.reduceAdd,Int.reduceSub,Nat.reduceLeDiff,Int.reduceLT,Int.reduceLE,Int.reduceEq,Int.reduceNeg,Int.reduceToNat,loadV_ptr,storeV_ptr,tkS,h54,hv,hc0,e,n4,c11,c12,c13,c14,c15,c16,c17,c21,c22,c23,c24,c25,c26,c27,c31,c32,c33,c34,c35,c36,c37,c41,c42,c43,c44,c45,c46,c47]
 refine Wp_loop (fun m T D H' => ∃ k G Y,m = c.packets.length - k ∧ k ≤ c.packets.length ∧ D = [] ∧ H' = H ++ AB.row 0 [.str c.note,slV c.facesN fcE c.faces,slV c.namesN nmE c.names,slV c.secretsN scE c.secrets,slV c.packetsN pkE c.packets] true :: AB.row 0 [.str [],.nilslice,.nilslice,.nilslice,.nilslice] true :: (L ++ (Y ++ AB.row 0 [.str c.note,v1,v2,v3,v4] true :: G)) ∧ get T 1 = .fn f ca cb ∧ get T 4 = .ptr (H.length + 1) 0 0 ∧ get T 7 = .ptr (H.length + (L.length + Y.length + 1 + 1)) 0 0 ∧ get T 22 = v4 ∧ get T 23 = .int .i64 c.packets.length ∧ get T 24 = .int .i64 k ∧ RowM pkE (H.length + 2 + L.length) Y v4 (mix (setT to) c.packets k) ∧ (c.packets.take k).all (okTo to) = true) ?_ c.packets.length _ _ _ ?_
 case refine_2 => exact ⟨0,[],X,by simp (disch := first | rfl | omega | exact lt_new _ | assumption | decide | (simp [dkS] <;> omega) | fail) only [go_sem,↓reduceIte,Nat.reduceLT,Nat.reduceEqDiff,Nat.reduceAdd,Nat.reduceMul,Nat.reduceSub,Int.reduceAdd,Int.reduceSub,Nat.reduceLeDiff,Int.reduceLT,Int.reduceLE,Int.reduceEq,Int.reduceNeg,Int.reduceToNat]; simp [mix_0,q4]⟩
 rintro m T D H' ⟨k,G,Y,rfl,hk',rfl,rfl,t1,t4,t7,t22,t23,t24,qY,hall⟩
 by_cases hlt : k < c.packets.length
 ·have hlt' : (k : Int) < c.packets.length := by omega
  rcases RowM.four qY with ⟨_,hnil⟩ | ⟨j,g,hv4,hj,hr⟩
  ·have := congrArg List.length hnil
   rw [mix_len] at this
   rw [this] at hlt
   exact absurd hlt (Nat.not_lt_zero _)
  rw [mix_len] at hv4
  have hlm : k < (mix (setT to) c.packets k).length := by rw [mix_len]; exact hlt
  have p1 : partV Try.prog 56 (flatE pkE (mix (setT to) c.packets k)) (k * 5) = some (.agg (pkE.f (pkE.at c.packets k))) := by
   rw [← mix_at pkE (setT to) hlt]
   exact ld_pkE (H := H) hlm
  have hfk := hf _ (pkE.at_mem hlt)
  simp only [List.append_assoc,List.cons_append,List.nil_append] at hfk
  have hfl : (flatE pkE (mix (setT to) c.packets k)).length = c.packets.length * 5 := by rw [flatE_len,mix_len]; rfl
  have hle : k * 5 + 1 ≤ c.packets.length * 5 := by omega
  have hset : setAt (flatE pkE (mix (setT to) c.packets k)) (k * 5) [.int .i64 (to (pkE.at c.packets k).time).1] = flatE pkE (mix (setT to) c.packets (k + 1)) := by
   have := flatE_at_set (E := pkE) (l := mix (setT to) c.packets k) (i := k) (j := 0) (v := .int .i64 (to (pkE.at c.packets k).time).1) (x := setT to (pkE.at c.packets k)) hlm (by decide) (by rw [mix_at pkE (setT to) hlt]; rfl)
   rw [mix_set pkE (setT to) hlt,Nat.add_zero] at this
   exact this
  have hj2 : H.length + (L.length + j + 1 + 1) = H.length + (L.length + j + 1 + 1) := rfl
  subst hv4
  by_cases hq : (to (pkE.at c.packets k).time).2 = true
  ·skip
   have hy := True.intro
   repeat' (first | simp (disch := first | rfl | omega | exact lt_new _ | assumption | decide | (simp [dkS] <;> omega) | fail) only [r91_0,r91_1,r91_2,r91_3,r91_4,r91_5,r91_6,r91_7,r91_8,r91_9,r91_10,r91_11,r91_12,l91_13,r91_14,c91,rs91,gc91,loadV_ptr,storeV_ptr,tkS,gr_l hj,st_l hj,hr,t1,t4,t7,t22,t23,t24,hlt',p1,hk,hfk,hq,hfl,hle,hset,go_sem,↓reduceIte,Nat.reduceLT,Nat.reduceEqDiff,Nat.reduceAdd,Nat.reduceMul,Nat.reduceSub,Int.reduceAdd,Int.reduceSub,Nat.reduceLeDiff,Int.reduceLT,Int.reduceLE,Int.reduceEq,Int.reduceNeg,Int.reduceToNat,hy] | ((first | refine guardB_dec (fun hy => ?_) (fun hy => ?_) | refine guardB_bool (fun hy => ?_) (fun hy => ?_) | refine guardQ_ite (fun hy => ?_) (fun hy => ?_) | refine brQ_dec (fun hy => ?_) (fun hy => ?_) | refine brQ_bool (fun hy => ?_) (fun hy => ?_)) <;> (try simp only [Bool.not_eq_true',Bool.not_eq_false',Bool.and_eq_true,Bool.or_eq_false_iff,decide_eq_true_eq,decide_eq_false_iff_not] at hy)))
   refine ⟨_,by omega,k + 1,G ++ [AB.row 0 (pkE.f (pkE.at c.packets k)) true],Y.set j (.row g (flatE pkE (mix (setT to) c.packets (k + 1))) true),rfl,hlt,rfl,?_⟩
   refine ⟨by simp,by simp,Or.inr ⟨j,g,by rw [mix_len]; congr 1; omega,by simp [hj],?_⟩,by rw [take_all hlt,hall]; simpa [okTo] using hq⟩
   unfold getRow
   simp [hj]
  ·rw [Bool.not_eq_true] at hq
   have hno : c.packets.all (okTo to) = false := all_drop hlt hq
   have hy := True.intro
   repeat' (first | simp (disch := first | rfl | omega | exact lt_new _ | assumption | decide | (simp [dkS] <;> omega) | fail) only [r91_0,r91_1,r91_2,r91_3,r91_4,r91_5,r91_6,r91_7,r91_8,r91_9,r91_10,r91_11,r91_12,l91_13,r91_14,c91,rs91,gc91,loadV_ptr,storeV_ptr,tkS,gr_l hj,st_l hj,hr,t1,t4,t7,t22,t23,t24,hlt',p1,hk,hfk,hq,hfl,hle,go_sem,↓reduceIte,Nat.reduceLT,Nat.reduceEqDiff,Nat.reduceAdd,Nat.reduceMul,Nat.reduceSub,Int.reduceAdd,Int.reduceSub,Nat.reduceLeDiff,Int.reduceLT,Int.reduceLE,Int.reduceEq,Int.reduceNeg,Int.reduceToNat,hy] | ((first | refine guardB_dec (fun hy => ?_) (fun hy => ?_) | refine guardB_bool (fun hy => ?_) (fun hy => ?_) | refine guardQ_ite (fun hy => ?_) (fun hy => ?_) | refine brQ_dec (fun hy => ?_) (fun hy => ?_) | refine brQ_bool (fun hy => ?_) (fun hy => ?_)) <;> (try simp only [Bool.not_eq_true',Bool.not_eq_false',Bool.and_eq_true,Bool.or_eq_false_iff,decide_eq_true_eq,decide_eq_false_iff_not] at hy)))
   simp only [hno,Bool.false_eq_true,if_false]
   exact ⟨noCp,finQ_app (by rw [noCp_f]; simp (disch := first | rfl | omega | exact lt_new _ | assumption | decide | (simp [dkS] <;> omega) | fail) only [go_sem,↓reduceIte,Nat.reduceLT,Nat.reduceEqDiff,Nat.reduceAdd,Nat.reduceMul,Nat.reduceSub,Int.reduceAdd,Int.reduceSub,Nat.reduceLeDiff,Int.reduceLT,Int.reduceLE,Int.reduceEq,Int.reduceNeg,Int.reduceToNat]),CpEq.rfl' _⟩
 ·obtain rfl : k = c.packets.length := by omega
  rw [List.take_length] at hall
  rw [mix_all] at qY
  have hy := True.intro
  repeat' (first | simp (disch := first | rfl | omega | exact lt_new _ | assumption | decide | (simp [dkS] <;> omega) | fail) only [r91_0,r91_1,r91_2,r91_3,r91_4,r91_5,r91_6,r91_7,r91_8,r91_9,r91_10,r91_11,r91_12,l91_13,r91_14,c91,rs91,gc91,loadV_ptr,storeV_ptr,tkS,t1,t4,t7,t22,t23,t24,Int.lt_irrefl,c11,c12,c13,c14,c15,c16,c17,c21,c22,c23,c24,c25,c26,c27,c31,c32,c33,c34,c35,c36,c37,c41,c42,c43,c44,c45,c46,c47,go_sem,↓reduceIte,Nat.reduceLT,Nat.reduceEqDiff,Nat.reduceAdd,Nat.reduceMul,Nat.reduceSub,Int.reduceAdd,Int.reduceSub,Nat.reduceLeDiff,Int.reduceLT,Int.reduceLE,Int.reduceEq,Int.reduceNeg,Int.reduceToNat,hy] | ((first | refine guardB_dec (fun hy => ?_) (fun hy => ?_) | refine guardB_bool (fun hy => ?_) (fun hy => ?_) | refine guardQ_ite (fun hy => ?_) (fun hy => ?_) | refine brQ_dec (fun hy => ?_) (fun hy => ?_) | refine brQ_bool (fun hy => ?_) (fun hy => ?_)) <;> (try simp only [Bool.not_eq_true',Bool.not_eq_false',Bool.and_eq_true,Bool.or_eq_false_iff,decide_eq_true_eq,decide_eq_false_iff_not] at hy)))
  simp only [hall,if_true]
  have hin : ∀ {α : Type} {E : Enc α} {v : V} {l : List α},RowM E (H.length + 2) (L ++ Y) v l → ∀ A B Z,∃ b,inlC H.length (H ++ A :: B :: (L ++ (Y ++ Z))) 8 v = some (slV b E l) := by
   intro α E v l h A B Z
   obtain ⟨b,i⟩ := RowM.inl (f := 6) (A := H) (m := H.length) (RowM.pre [A,B] (h.app Z)) rfl (Nat.le_refl _)
   simp only [List.cons_append,List.nil_append,List.append_assoc] at i
   exact ⟨b,i⟩
  obtain ⟨b1,i1⟩ := hin (q1.app Y) (AB.row 0 [.str c.note,slV c.facesN fcE c.faces,slV c.namesN nmE c.names,slV c.secretsN scE c.secrets,slV c.packetsN pkE c.packets] true) (AB.row 0 [.str c.note,v1,v2,v3,v4] true) (AB.row 0 [.str c.note,v1,v2,v3,v4] true :: G)
  obtain ⟨b2,i2⟩ := hin (q2.app Y) (AB.row 0 [.str c.note,slV c.facesN fcE c.faces,slV c.namesN nmE c.names,slV c.secretsN scE c.secrets,slV c.packetsN pkE c.packets] true) (AB.row 0 [.str c.note,v1,v2,v3,v4] true) (AB.row 0 [.str c.note,v1,v2,v3,v4] true :: G)
  obtain ⟨b3,i3⟩ := hin (q3.app Y) (AB.row 0 [.str c.note,slV c.facesN fcE c.faces,slV c.namesN nmE c.names,slV c.secretsN scE c.secrets,slV c.packetsN pkE c.packets] true) (AB.row 0 [.str c.note,v1,v2,v3,v4] true) (AB.row 0 [.str c.note,v1,v2,v3,v4] true :: G)
  obtain ⟨b4,i4⟩ := hin (RowM.pre L qY) (AB.row 0 [.str c.note,slV c.facesN fcE c.faces,slV c.namesN nmE c.names,slV c.secretsN scE c.secrets,slV c.packetsN pkE c.packets] true) (AB.row 0 [.str c.note,v1,v2,v3,v4] true) (AB.row 0 [.str c.note,v1,v2,v3,v4] true :: G)
  refine ⟨⟨c.note,b1,c.faces,b2,c.names,b3,c.secrets,b4,c.packets.map (setT to)⟩,finQ_app ?_,rfl,rfl,rfl,rfl,rfl⟩
  simp (disch := first | rfl | omega | exact lt_new _ | assumption | decide | (simp [dkS] <;> omega) | fail) only [go_sem,↓reduceIte,Nat.reduceLT,Nat.reduceEqDiff,Nat.reduceAdd,Nat.reduceMul,Nat.reduceSub,Int.reduceAdd,Int.reduceSub,Nat.reduceLeDiff,Int.reduceLT,Int.reduceLE,Int.reduceEq,Int.reduceNeg,Int.reduceToNat,i1,i2,i3,i4,cpE_f]
theorem fn46 (c : Cp) (hc : CpOk c) (b : Int) (H : Hp) : ∃ d,callL Try.prog pr 46 [.agg (cpE.f c),.int .i64 b] H = some (.tup [.agg (cpE.f d),.int .i64 (tmF c (fun t => addF t b)).2],H) ∧ CpEq d (tmF c (fun t => addF t b)).1 := by
 obtain ⟨d,hd⟩ : ∃ d : Hp → Cp,∀ H,callL Try.prog pr 91 [.agg (cpE.f c),.fn 92 [] [.ipt [.int .i64 b] 0]] H = some (.tup [.agg (cpE.f (d H)),.int .i64 (tmF c (fun t => addF t b)).2],H) ∧ CpEq (d H) (tmF c (fun t => addF t b)).1 := by
  have h := fun H => fn91 c hc (fun t => addF t b) 92 [] [.ipt [.int .i64 b] 0] kp92 (fun hv p hp H => by
   have := (pf_pk ((val_pk hv).1 p hp)).1
   exact fn92 this.1 this.2 H) H
  exact ⟨fun H => (h H).choose,fun H => (h H).choose_spec⟩
 have h91 := fun H => (hd H).1
 suffices h : ∃ r,callL Try.prog pr 46 [.agg (cpE.f c),.int .i64 b] H = some r ∧ ∃ d,r = (.tup [.agg (cpE.f d),.int .i64 (tmF c (fun t => addF t b)).2],H) ∧ CpEq d (tmF c (fun t => addF t b)).1 by
  obtain ⟨_,h1,d,rfl,h2⟩ := h; exact ⟨d,h1,h2⟩
 refine ex46 (Nat.le_of_ble_eq_true rfl) ?_
 have hy := True.intro
 repeat' (first | simp (disch := first | rfl | omega | exact lt_new _ | assumption | decide | (simp [dkS] <;> omega) | fail) only [r46_0,r46_1,c46,rs46,gc46,loadV_ptr,storeV_ptr,tkS,h91,go_sem,↓reduceIte,Nat.reduceLT,Nat.reduceEqDiff,Nat.reduceAdd,Nat.reduceMul,Nat.reduceSub,Int.reduceAdd,Int.reduceSub,Nat.reduceLeDiff,Int.reduceLT,Int.reduceLE,Int.reduceEq,Int.reduceNeg,Int.reduceToNat,hy] | ((first | refine guardB_dec (fun hy => ?_) (fun hy => ?_) | refine guardB_bool (fun hy => ?_) (fun hy => ?_) | refine guardQ_ite (fun hy => ?_) (fun hy => ?_) | refine brQ_dec (fun hy => ?_) (fun hy => ?_) | refine brQ_bool (fun hy => ?_) (fun hy => ?_)) <;> (try simp only [Bool.not_eq_true',Bool.not_eq_false',Bool.and_eq_true,Bool.or_eq_false_iff,decide_eq_true_eq,decide_eq_false_iff_not] at hy)))
 exact ⟨_,finQ_app (by simp (disch := first | rfl | omega | exact lt_new _ | assumption | decide | (simp [dkS] <;> omega) | fail) only [go_sem,↓reduceIte,Nat.reduceLT,Nat.reduceEqDiff,Nat.reduceAdd,Nat.reduceMul,Nat.reduceSub,Int.reduceAdd,Int.reduceSub,Nat.reduceLeDiff,Int.reduceLT,Int.reduceLE,Int.reduceEq,Int.reduceNeg,Int.reduceToNat]; rfl),(hd _).2⟩
def lateF (t b : Int) : Int × Bool := if (addF t b).2 = true then addF t b else (0,false)
theorem fn62 {t b : Int} (h0 : 0 ≤ t) (h1 : t ≤ 1000000000000000) (H : Hp) : callL Try.prog pr 62 [.int .i64 t,.int .i64 b] H = some (.tup [.int .i64 (lateF t b).1,.bool (lateF t b).2],H) := by
 have h72 := fun n H => fn72 n H
 unfold lateF
 by_cases hb : 1000000000000000 < b ∨ b < -1000000000000000
 ·have hb2 : ¬ 1000000000000000 < b → b < -1000000000000000 := fun h => hb.resolve_left h
  have e : addF t b = (0,false) := by unfold addF; rw [if_pos hb]
  rw [e]
  refine run62 (Nat.le_of_ble_eq_true rfl) ?_
  have hy := True.intro
  repeat' (first | simp (disch := first | rfl | omega | exact lt_new _ | assumption | decide | (simp [dkS] <;> omega) | fail) only [r62_0,r62_1,r62_2,r62_3,c62,rs62,gc62,h72,hb2,go_sem,↓reduceIte,Nat.reduceLT,Nat.reduceEqDiff,Nat.reduceAdd,Nat.reduceMul,Nat.reduceSub,Int.reduceAdd,Int.reduceSub,Nat.reduceLeDiff,Int.reduceLT,Int.reduceLE,Int.reduceEq,Int.reduceNeg,Int.reduceToNat,hy] | ((first | refine guardB_dec (fun hy => ?_) (fun hy => ?_) | refine guardB_bool (fun hy => ?_) (fun hy => ?_) | refine guardQ_ite (fun hy => ?_) (fun hy => ?_) | refine brQ_dec (fun hy => ?_) (fun hy => ?_) | refine brQ_bool (fun hy => ?_) (fun hy => ?_)) <;> (try simp only [Bool.not_eq_true',Bool.not_eq_false',Bool.and_eq_true,Bool.or_eq_false_iff,decide_eq_true_eq,decide_eq_false_iff_not] at hy)))
  all_goals (try ((first | refine finQ_same ?_ | refine finQ_app ?_ | (rw [List.append_assoc]; refine finQ_app ?_)) <;> simp (disch := first | rfl | omega | exact lt_new _ | assumption | decide | (simp [dkS] <;> omega) | fail) only [go_sem,↓reduceIte,Nat.reduceLT,Nat.reduceEqDiff,Nat.reduceAdd,Nat.reduceMul,Nat.reduceSub,Int.reduceAdd,Int.reduceSub,Nat.reduceLeDiff,Int.reduceLT,Int.reduceLE,Int.reduceEq,Int.reduceNeg,Int.reduceToNat,List.append_assoc,List.cons_append,List.nil_append, *]))
  all_goals (try first | rfl | (simp [*]; done) | grind)
 ·have hb1 : ¬ 1000000000000000 < b := fun h => hb (.inl h)
  have hb2 : ¬ b < -1000000000000000 := fun h => hb (.inr h)
  have hw : IntKind.i64.wrap (t + b) = t + b := IntWalk.i64_in _ (by omega)
  have e : addF t b = (t + b,okT (t + b)) := by unfold addF; rw [if_neg hb]
  rw [e]
  by_cases ho : okT (t + b) = true
  ·refine run62 (Nat.le_of_ble_eq_true rfl) ?_
   have hy := True.intro
   repeat' (first | simp (disch := first | rfl | omega | exact lt_new _ | assumption | decide | (simp [dkS] <;> omega) | fail) only [r62_0,r62_1,r62_2,r62_3,c62,rs62,gc62,h72,hb1,hb2,hw,ho,go_sem,↓reduceIte,Nat.reduceLT,Nat.reduceEqDiff,Nat.reduceAdd,Nat.reduceMul,Nat.reduceSub,Int.reduceAdd,Int.reduceSub,Nat.reduceLeDiff,Int.reduceLT,Int.reduceLE,Int.reduceEq,Int.reduceNeg,Int.reduceToNat,hy] | ((first | refine guardB_dec (fun hy => ?_) (fun hy => ?_) | refine guardB_bool (fun hy => ?_) (fun hy => ?_) | refine guardQ_ite (fun hy => ?_) (fun hy => ?_) | refine brQ_dec (fun hy => ?_) (fun hy => ?_) | refine brQ_bool (fun hy => ?_) (fun hy => ?_)) <;> (try simp only [Bool.not_eq_true',Bool.not_eq_false',Bool.and_eq_true,Bool.or_eq_false_iff,decide_eq_true_eq,decide_eq_false_iff_not] at hy)))
   all_goals (try ((first | refine finQ_same ?_ | refine finQ_app ?_ | (rw [List.append_assoc]; refine finQ_app ?_)) <;> simp (disch := first | rfl | omega | exact lt_new _ | assumption | decide | (simp [dkS] <;> omega) | fail) only [go_sem,↓reduceIte,Nat.reduceLT,Nat.reduceEqDiff,Nat.reduceAdd,Nat.reduceMul,Nat.reduceSub,Int.reduceAdd,Int.reduceSub,Nat.reduceLeDiff,Int.reduceLT,Int.reduceLE,Int.reduceEq,Int.reduceNeg,Int.reduceToNat,List.append_assoc,List.cons_append,List.nil_append, *]))
   all_goals (try first | rfl | (simp [*]; done) | grind)
  ·rw [Bool.not_eq_true] at ho
   refine run62 (Nat.le_of_ble_eq_true rfl) ?_
   have hy := True.intro
   repeat' (first | simp (disch := first | rfl | omega | exact lt_new _ | assumption | decide | (simp [dkS] <;> omega) | fail) only [r62_0,r62_1,r62_2,r62_3,c62,rs62,gc62,h72,hb1,hb2,hw,ho,go_sem,↓reduceIte,Nat.reduceLT,Nat.reduceEqDiff,Nat.reduceAdd,Nat.reduceMul,Nat.reduceSub,Int.reduceAdd,Int.reduceSub,Nat.reduceLeDiff,Int.reduceLT,Int.reduceLE,Int.reduceEq,Int.reduceNeg,Int.reduceToNat,hy] | ((first | refine guardB_dec (fun hy => ?_) (fun hy => ?_) | refine guardB_bool (fun hy => ?_) (fun hy => ?_) | refine guardQ_ite (fun hy => ?_) (fun hy => ?_) | refine brQ_dec (fun hy => ?_) (fun hy => ?_) | refine brQ_bool (fun hy => ?_) (fun hy => ?_)) <;> (try simp only [Bool.not_eq_true',Bool.not_eq_false',Bool.and_eq_true,Bool.or_eq_false_iff,decide_eq_true_eq,decide_eq_false_iff_not] at hy)))
   all_goals (try ((first | refine finQ_same ?_ | refine finQ_app ?_ | (rw [List.append_assoc]; refine finQ_app ?_)) <;> simp (disch := first | rfl | omega | exact lt_new _ | assumption | decide | (simp [dkS] <;> omega) | fail) only [go_sem,↓reduceIte,Nat.reduceLT,Nat.reduceEqDiff,Nat.reduceAdd,Nat.reduceMul,Nat.reduceSub,Int.reduceAdd,Int.reduceSub,Nat.reduceLeDiff,Int.reduceLT,Int.reduceLE,Int.reduceEq,Int.reduceNeg,Int.reduceToNat,List.append_assoc,List.cons_append,List.nil_append, *]))
   all_goals (try first | rfl | (simp [*]; done) | grind)
theorem setT_f (p : Pk) (x : Int) : setAt (pkE.f p) 0 [.int .i64 x] = pkE.f {p with time := x} := rfl
theorem mapT {to : Int → Int × Bool} {l : List Pk} {k : Nat} (h : k < l.length) : (l.take (k + 1)).map (setT to) = (l.take k).map (setT to) ++ [setT to (pkE.at l k)] := by
 rw [pkE.take_at h]; simp
theorem bestN_congr {f g : Nat → List Int} : ∀ n,(∀ k < n,f k = g k) → bestN f n = bestN g n
 | 0,_ => rfl
 | n + 1,h => by
  have h1 := bestN_congr n fun k hk => h k (by omega)
  have h2 := h n (by omega)
  unfold bestN
  rw [h1]
  unfold bstep
  rw [h2]
  rcases bestN_in g n with h3 | ⟨j,h3,h4,_⟩
  ·rw [h3]
   simp
  ·rw [h3,Int.toNat_natCast,h j (by omega)]
def rwT (rows : List (List Pk)) (k : Nat) : List Int := (rows.getD k []).map (·.time)
def mrg : Nat → List (List Pk) → List Pk
 | 0,_ => []
 | f + 1,rows => if bestN (rwT rows) rows.length < 0 then [] else pkE.at (rows.getD (bestN (rwT rows) rows.length).toNat []) 0 :: mrg f (rows.set (bestN (rwT rows) rows.length).toNat (rows.getD (bestN (rwT rows) rows.length).toNat []).tail)
def tot : List (List Pk) → Nat
 | [] => 0
 | r :: rows => r.length + tot rows
theorem tot_set : ∀ (rows : List (List Pk)) (j : Nat),j < rows.length → rows.getD j [] ≠ [] → tot (rows.set j (rows.getD j []).tail) + 1 = tot rows
 | [],j,h,_ => absurd h (Nat.not_lt_zero j)
 | r :: rows,0,_,h => by
  cases r with
  | nil => exact absurd rfl h
  | cons x xs => simp [tot]; omega
 | r :: rows,j + 1,h,h2 => by
  have := tot_set rows j (by simpa using h) (by simpa using h2)
  simp only [List.getD_cons_succ,List.set_cons_succ,tot]
  omega
theorem mrg_step {f j : Nat} {rows : List (List Pk)} (hj : bestN (rwT rows) rows.length = (j : Int)) : mrg (f + 1) rows = pkE.at (rows.getD j []) 0 :: mrg f (rows.set j (rows.getD j []).tail) := by
 show (if _ then _ else _) = _
 rw [hj,if_neg (by omega),Int.toNat_natCast]
theorem mrg_end {f : Nat} {rows : List (List Pk)} (hj : bestN (rwT rows) rows.length = -1) : mrg f rows = [] := by
 cases f with
 | zero => rfl
 | succ f =>
  show (if _ then _ else _) = _
  rw [hj]
  rfl
theorem mrg_len : ∀ (f : Nat) (rows : List (List Pk)),(mrg f rows).length ≤ f
 | 0,_ => Nat.le_refl 0
 | f + 1,rows => by
  show (if _ then _ else _ : List Pk).length ≤ _
  split
  ·simp
  ·have := mrg_len f (rows.set (bestN (rwT rows) rows.length).toNat (rows.getD (bestN (rwT rows) rows.length).toNat []).tail)
   rw [List.length_cons]
   omega
def mapR (T : List (List Int)) (k : Nat) (p : Pk) : Pk := {p with face := inE.at (tbE.at T k) p.face.toNat}
def rowsA (ds : List Cp) (T : List (List Int)) (ats : List Int) : List (List Pk) := (List.range ds.length).map fun k => ((cpE.at ds k).packets.drop (inE.at ats k).toNat).map (mapR T k)
theorem rowsA_len (ds : List Cp) (T : List (List Int)) (ats : List Int) : (rowsA ds T ats).length = ds.length := by simp [rowsA]
theorem rowsA_at {ds : List Cp} {T : List (List Int)} {ats : List Int} {k : Nat} (h : k < ds.length) : (rowsA ds T ats).getD k [] = ((cpE.at ds k).packets.drop (inE.at ats k).toNat).map (mapR T k) := by
 unfold rowsA
 rw [List.getD_eq_getElem?_getD,List.getElem?_map,List.getElem?_range h]
 rfl
theorem rowsA_best (ds : List Cp) (T : List (List Int)) (ats : List Int) : bestN (rwT (rowsA ds T ats)) (rowsA ds T ats).length = bestN (tsF ds ats) ds.length := by
 rw [rowsA_len]
 refine bestN_congr _ fun k hk => ?_
 unfold rwT tsF
 rw [rowsA_at hk,List.map_map]
 rfl
theorem at_set {l : List Int} {j k : Nat} {x : Int} (hj : j < l.length) : inE.at (l.set j x) k = if k = j then x else inE.at l k := by
 unfold Enc.at
 rw [List.getD_eq_getElem?_getD,List.getD_eq_getElem?_getD,List.getElem?_set]
 by_cases h : j = k
 ·subst h
  simp [hj]
 ·rw [if_neg h,if_neg fun e => h e.symm]
theorem rowsA_set {ds : List Cp} {T : List (List Int)} {ats : List Int} {j n : Nat} (hj : j < ds.length) (hl : ats.length = ds.length) (hn : inE.at ats j = n) (hp : n < (cpE.at ds j).packets.length) : rowsA ds T (ats.set j ((n : Int) + 1)) = (rowsA ds T ats).set j ((rowsA ds T ats).getD j []).tail ∧ pkE.at ((rowsA ds T ats).getD j []) 0 = mapR T j (pkE.at (cpE.at ds j).packets n) ∧ (rowsA ds T ats).getD j [] ≠ [] := by
 have hd := rowsA_at (T := T) (ats := ats) hj
 rw [hn,Int.toNat_natCast] at hd
 have he : (cpE.at ds j).packets.drop n = pkE.at (cpE.at ds j).packets n :: (cpE.at ds j).packets.drop (n + 1) := by
  have e := pkE.at_some hp
  rw [List.drop_eq_getElem_cons hp]
  rw [List.getElem?_eq_getElem hp] at e
  rw [← Option.some.inj e]
 refine ⟨?_,by rw [hd,he]; rfl,by rw [hd,he]; simp⟩
 rw [hd,he,List.map_cons,List.tail_cons]
 refine List.ext_getElem? fun k => ?_
 rw [List.getElem?_set,rowsA_len]
 unfold rowsA
 by_cases hk : k < ds.length
 ·rw [List.getElem?_map,List.getElem?_map,List.getElem?_range hk]
  by_cases hjk : j = k
  ·subst hjk
   rw [if_pos rfl,if_pos hj]
   simp only [Option.map_some]
   rw [at_set (by omega),if_pos rfl,show ((n : Int) + 1).toNat = n + 1 by omega]
  ·rw [if_neg hjk]
   simp only [Option.map_some]
   rw [at_set (by omega),if_neg fun e => hjk e.symm]
 ·rw [List.getElem?_map,List.getElem?_map,List.getElem?_eq_none (by simpa using hk)]
  rw [if_neg (by omega)]
  rfl
def nfC (c : Cp) : Cp := ⟨c.note,true,c.faces,true,c.names,true,c.secrets,true,c.packets⟩
theorem nfC_eq {a b : Cp} (h : CpEq a b) : nfC a = nfC b := by
 obtain ⟨h1,h2,h3,h4,h5⟩ := h
 unfold nfC
 rw [h1,h2,h3,h4,h5]
theorem hdL_nf (l : List Cp) : hdL (l.map nfC) = hdL l := by
 unfold hdL
 rw [List.foldl_map]
 rfl
theorem rowsA_nf (l : List Cp) (T : List (List Int)) (ats : List Int) : rowsA (l.map nfC) T ats = rowsA l T ats := by
 unfold rowsA
 rw [List.length_map]
 refine List.map_congr_left fun k hk => ?_
 have hk := List.mem_range.1 hk
 have h1 : cpE.at (l.map nfC) k = nfC (cpE.at l k) := by
  have e := cpE.at_some hk
  have e2 := cpE.at_some (l := l.map nfC) (i := k) (by simpa using hk)
  rw [List.getElem?_map,e] at e2
  exact (Option.some.inj e2).symm
 rw [h1]
 rfl
def shD (ls : List Cp) (drs : List Int) (n : Nat) : List Cp := (List.range n).map fun i => (tmF (cpE.at ls i) fun t => addF t (inE.at drs i)).1
def okS (ls : List Cp) (drs : List Int) (n : Nat) : Bool := (List.range n).all fun i => decide ((tmF (cpE.at ls i) fun t => addF t (inE.at drs i)).2 = 0)
theorem shD_snoc (ls : List Cp) (drs : List Int) (n : Nat) : shD ls drs (n + 1) = shD ls drs n ++ [(tmF (cpE.at ls n) fun t => addF t (inE.at drs n)).1] := by
 unfold shD
 rw [List.range_succ,List.map_append]
 rfl
theorem shD_len (ls : List Cp) (drs : List Int) (n : Nat) : (shD ls drs n).length = n := by simp [shD]
theorem shD_at {ls : List Cp} {drs : List Int} {n k : Nat} (h : k < n) : cpE.at (shD ls drs n) k = (tmF (cpE.at ls k) fun t => addF t (inE.at drs k)).1 := by
 have e := cpE.at_some (l := shD ls drs n) (i := k) (by rw [shD_len]; exact h)
 unfold shD at e ⊢
 rw [List.getElem?_map,List.getElem?_range h] at e
 exact (Option.some.inj e).symm
def mgC (D : List Cp) : Cp := ⟨(hdL D).note,true,(hdL D).F,true,(hdL D).N,true,(hdL D).S,true,mrg (tot (rowsA D (hdL D).T [])) (rowsA D (hdL D).T [])⟩
def mgF (ls : List Cp) (drs : List Int) : Cp × Int :=
 if askE ls = 0 then (if ls.length = drs.length then (if ls.length = 0 then (noCp,1) else if okS ls drs ls.length = true then (if valE (mgC (shD ls drs ls.length)) = 0 then (mgC (shD ls drs ls.length),0) else (noCp,valE (mgC (shD ls drs ls.length)))) else (noCp,1)) else (noCp,10)) else (noCp,askE ls)
theorem rowsA_0 (ds : List Cp) (T : List (List Int)) (n : Nat) : rowsA ds T (List.replicate n 0) = rowsA ds T [] := by
 unfold rowsA
 refine List.map_congr_left fun k _ => ?_
 have h1 : inE.at (List.replicate n 0) k = 0 := by
  unfold Enc.at
  rw [List.getD_eq_getElem?_getD,List.getElem?_replicate]
  split <;> rfl
 rw [h1]
 rfl
theorem inl_ptr {H : Hp} {id g off : Nat} {cs xs : List V} (h : H[id]? = some (.row g cs true)) (hx : mapO (inlB 0 H 8) cs = some xs) (hi : immL xs = true) : inlR 0 H 9 (.ptr id g off) = some (.ipt xs off) := by
 show inlB 0 H 9 (.ptr id g off) = _
 have e : inlB 0 H 9 (.ptr id g off) = (if id < 0 then some (.ptr id g off) else match H[id]? with | some (.row g' cs true) => if g' = g then (mapO (inlB 0 H 8) cs).bind fun xs => if immL xs = true then some (.ipt xs off) else none else none | _ => none) := rfl
 rw [e,if_neg (Nat.not_lt_zero _),h]
 simp only [if_pos,hx,Option.bind_some,hi]
theorem RowN.inB {α : Type} {E : Enc α} {n : Nat} {A K : Hp} {v : V} {l : List α} (h : RowN E n K v l) (hn : n = A.length) : ∃ b,inlB 0 (A ++ K) 8 v = some (slV b E l) := by
 obtain ⟨b,hb⟩ := h.m.inl (f := 6) (m := 0) hn (Nat.zero_le _)
 refine ⟨b,?_⟩
 rcases h with ⟨rfl,_⟩ | ⟨_,j,g,rfl,_⟩ <;> exact hb
theorem RowN.inC {α : Type} {E : Enc α} {n : Nat} {A K : Hp} {v : V} {l : List α} (h : RowN E n K v l) (hn : n = A.length) : ∃ b,inlC 0 (A ++ K) 9 v = some (slV b E l) := h.m.inl (f := 7) (m := 0) hn (Nat.zero_le _)
theorem slV_false {α : Type} (E : Enc α) (l : List α) : slV false E l = .isl (flatE E l) l.length E.w := if_neg (by simp)
set_option maxHeartbeats 1000000 in
theorem nx56 {H K : Hp} {z : AB} {vl vF vN vS vP vT : V} {ds : List Cp} {ats : List Int} {note : List UInt8} {F : List Fc} {N : List Nm} {S : List Sc} {pk : List Pk} {T : List (List Int)}
  (hl : RowN cpE (H.length + 3) K vl ds) (hF : RowN fcE (H.length + 3) K vF F) (hN : RowN nmE (H.length + 3) K vN N) (hS : RowN scE (H.length + 3) K vS S) (hP : RowN pkE (H.length + 3) K vP pk) (hT : RowN tbE (H.length + 3) K vT T) (hn : ds.length ≤ 2 ^ 20) (ho : AtOk ds ats) :
  callL Try.prog pr 56 [.ptr (H.length + 2) 0 0] (H ++ z :: AB.row 0 (flatE inE ats) true :: AB.row 0 [vl,.slice (H.length + 1) 0 0 ats.length 1 .full,.str note,vF,vN,vS,vP,vT] true :: K) = some (.int .i64 (bestN (tsF ds ats) ds.length),H ++ z :: AB.row 0 (flatE inE ats) true :: AB.row 0 [vl,.slice (H.length + 1) 0 0 ats.length 1 .full,.str note,vF,vN,vS,vP,vT] true :: K) := by
 obtain ⟨W,hW⟩ : ∃ W,H ++ z :: AB.row 0 (flatE inE ats) true :: AB.row 0 [vl,.slice (H.length + 1) 0 0 ats.length 1 .full,.str note,vF,vN,vS,vP,vT] true :: K = W := ⟨_,rfl⟩
 have hA : W = (H ++ [z,AB.row 0 (flatE inE ats) true,AB.row 0 [vl,.slice (H.length + 1) 0 0 ats.length 1 .full,.str note,vF,vN,vS,vP,vT] true]) ++ K := by rw [← hW]; simp
 have hlen : H.length + 3 = (H ++ [z,AB.row 0 (flatE inE ats) true,AB.row 0 [vl,.slice (H.length + 1) 0 0 ats.length 1 .full,.str note,vF,vN,vS,vP,vT] true]).length := by simp
 have hM : W[H.length + 2]? = some (AB.row 0 [vl,.slice (H.length + 1) 0 0 ats.length 1 .full,.str note,vF,vN,vS,vP,vT] true) := by
  rw [← hW,List.getElem?_append_right (by omega),show H.length + 2 - H.length = 2 by omega]; rfl
 have hAt : W[H.length + 1]? = some (AB.row 0 (flatE inE ats) true) := by
  rw [← hW,List.getElem?_append_right (by omega),show H.length + 1 - H.length = 1 by omega]; rfl
 obtain ⟨b1,i1⟩ := hl.inB hlen
 obtain ⟨b3,i3⟩ := hF.inB hlen
 obtain ⟨b4,i4⟩ := hN.inB hlen
 obtain ⟨b5,i5⟩ := hS.inB hlen
 obtain ⟨b6,i6⟩ := hP.inB hlen
 obtain ⟨b7,i7⟩ := hT.inB hlen
 rw [← hA] at i1 i3 i4 i5 i6 i7
 have i2 : inlB 0 W 8 (.slice (H.length + 1) 0 0 ats.length 1 .full) = some (slV false inE ats) := by
  rw [slV_false]
  exact inlB_row (f := 6) (Nat.zero_le _) hAt flatE_len flatE_imm
 have hx : mapO (inlB 0 W 8) [vl,.slice (H.length + 1) 0 0 ats.length 1 .full,.str note,vF,vN,vS,vP,vT] = some [slV b1 cpE ds,slV false inE ats,.str note,slV b3 fcE F,slV b4 nmE N,slV b5 scE S,slV b6 pkE pk,slV b7 tbE T] := by
  simp only [mapO,i1,i2,i3,i4,i5,i6,i7,Option.bind_some,Option.map_some,show inlB 0 W 8 (.str note) = some (.str note) from rfl]
 have hp := inl_ptr (off := 0) hM hx (by simp only [immL,slV_imm]; rfl)
 rw [hW,pur_inl (a := [.ipt [slV b1 cpE ds,slV false inE ats,.str note,slV b3 fcE F,slV b4 nmE N,slV b5 scE S,slV b6 pkE pk,slV b7 tbE T] 0]) rfl rfl (by simp only [mapO,hp,Option.bind_some,Option.map_some]) (by simp only [mapO,inlR_ipt,Option.bind_some,Option.map_some])]
 exact fn56 hn ho W
theorem inl_cp {A K : Hp} {n : Nat} {v1 v2 v3 v4 : V} {note : List UInt8} {F : List Fc} {N : List Nm} {S : List Sc} {pk : List Pk} (hF : RowN fcE n K v1 F) (hN : RowN nmE n K v2 N) (hS : RowN scE n K v3 S) (hP : RowN pkE n K v4 pk) (hn : n = A.length) : ∃ o,inlR 0 (A ++ K) 9 (.agg [.str note,v1,v2,v3,v4]) = some (.agg (cpE.f o)) ∧ CpEq o ⟨note,true,F,true,N,true,S,true,pk⟩ := by
 obtain ⟨b1,i1⟩ := hF.inC hn
 obtain ⟨b2,i2⟩ := hN.inC hn
 obtain ⟨b3,i3⟩ := hS.inC hn
 obtain ⟨b4,i4⟩ := hP.inC hn
 refine ⟨⟨note,b1,F,b2,N,b3,S,b4,pk⟩,?_,rfl,rfl,rfl,rfl,rfl⟩
 rw [inlR_agg]
 simp only [mapO,i1,i2,i3,i4,Option.bind_some,Option.map_some,show inlC 0 (A ++ K) 9 (.str note) = some (.str note) from rfl,cpE_f]
theorem CpEq.ok {a b : Cp} (h : CpEq a b) (hb : CpOk b) : CpOk a := by
 obtain ⟨h1,h2,h3,h4,h5⟩ := h
 unfold CpOk
 rw [h1,h2,h3,h4,h5]
 exact hb
theorem val_congr {a b : Cp} (h : CpEq a b) : valE a = valE b := by
 obtain ⟨h1,h2,h3,h4,h5⟩ := h
 unfold valE largeB wrongB
 rw [h1,h2,h3,h4,h5]
theorem cpE_imm' (d : Cp) (H : Hp) : inlR 0 H 9 (.agg (cpE.f d)) = some (.agg (cpE.f d)) := by simp [go_sem]
theorem val57 {A K : Hp} {n : Nat} {v1 v2 v3 v4 : V} {note : List UInt8} {F : List Fc} {N : List Nm} {S : List Sc} {pk : List Pk} (hF : RowN fcE n K v1 F) (hN : RowN nmE n K v2 N) (hS : RowN scE n K v3 S) (hP : RowN pkE n K v4 pk) (hn : n = A.length) (hok : CpOk ⟨note,true,F,true,N,true,S,true,pk⟩) : callL Try.prog pr 57 [.agg [.str note,v1,v2,v3,v4]] (A ++ K) = some (.int .i64 (valE ⟨note,true,F,true,N,true,S,true,pk⟩),A ++ K) ∧ callL Try.prog pr 63 [.agg [.str note,v1,v2,v3,v4]] (A ++ K) = some (.int .i64 (valE ⟨note,true,F,true,N,true,S,true,pk⟩),A ++ K) := by
 obtain ⟨o,ho,he⟩ := inl_cp (note := note) hF hN hS hP hn
 rw [← val_congr he]
 constructor
 ·rw [pur_inl (a := [.agg (cpE.f o)]) rfl rfl (by simp only [mapO,ho,Option.bind_some,Option.map_some]) (by simp only [mapO,cpE_imm',Option.bind_some,Option.map_some])]
  exact fn57 o (he.ok hok) _
 ·rw [pur_inl (a := [.agg (cpE.f o)]) rfl rfl (by simp only [mapO,ho,Option.bind_some,Option.map_some]) (by simp only [mapO,cpE_imm',Option.bind_some,Option.map_some])]
  exact fn63 o (he.ok hok) _
theorem putF_mem {α : Type} {S : α → α → Bool} {l : List α} {x y : α} (h : y ∈ (putF S l x).1) : y ∈ l ∨ y = x := by
 unfold putF at h
 split at h
 ·rcases List.mem_append.1 h with h | h
  ·exact Or.inl h
  ·exact Or.inr (List.mem_singleton.1 h)
 ·exact Or.inl h
theorem putsL_mem {α : Type} {S : α → α → Bool} : ∀ {xs l : List α} {y : α},y ∈ putsL S l xs → y ∈ l ∨ y ∈ xs
 | [],l,y,h => Or.inl h
 | x :: xs,l,y,h => by
  rcases putsL_mem (xs := xs) (l := (putF S l x).1) h with h | h
  ·rcases putF_mem h with h | h
   ·exact Or.inl h
   ·exact Or.inr (by rw [h]; exact List.mem_cons_self)
  ·exact Or.inr (List.mem_cons_of_mem _ h)
theorem findI_lt {α : Type} (p : α → Bool) : ∀ (l : List α) (i : Int),findI p l i < 0 ∨ findI p l i < i + l.length
 | [],i => Or.inl (by simp [findI])
 | x :: xs,i => by
  unfold findI
  split
  ·right; rw [List.length_cons]; omega
  ·rcases findI_lt p xs (i + 1) with h | h
   ·exact Or.inl h
   ·right; rw [List.length_cons]; omega
theorem putF_at {α : Type} (S : α → α → Bool) (l : List α) (x : α) : 0 ≤ (putF S l x).2 ∧ (putF S l x).2 < ((putF S l x).1.length : Int) ∧ l.length ≤ (putF S l x).1.length := by
 unfold putF
 split
 ·rw [List.length_append]; simp; omega
 ·rename_i h
  rcases findI_lt (fun y => S x y) l 0 with h2 | h2
  ·exact absurd h2 h
  ·exact ⟨by show 0 ≤ findI (fun y => S x y) l 0; omega,by show findI (fun y => S x y) l 0 < (l.length : Int); omega,Nat.le_refl _⟩
theorem putsB_ok : ∀ (xs l : List Fc) (t : List Int),(∀ i ∈ t,0 ≤ i ∧ i < (l.length : Int)) → (∀ y ∈ (xs.foldl (fun a x => ((putF fcS a.1 x).1,a.2 ++ [(putF fcS a.1 x).2])) (l,t)).1,y ∈ l ∨ y ∈ xs) ∧ (∀ i ∈ (xs.foldl (fun a x => ((putF fcS a.1 x).1,a.2 ++ [(putF fcS a.1 x).2])) (l,t)).2,0 ≤ i ∧ i < ((xs.foldl (fun a x => ((putF fcS a.1 x).1,a.2 ++ [(putF fcS a.1 x).2])) (l,t)).1.length : Int))
 | [],l,t,h => ⟨fun y hy => Or.inl hy,h⟩
 | x :: xs,l,t,h => by
  obtain ⟨a1,a2,a3⟩ := putF_at fcS l x
  obtain ⟨h1,h2⟩ := putsB_ok xs (putF fcS l x).1 (t ++ [(putF fcS l x).2]) fun i hi => by
   rcases List.mem_append.1 hi with hi | hi
   ·have := h i hi; omega
   ·rw [List.mem_singleton.1 hi]; omega
  refine ⟨fun y hy => ?_,h2⟩
  rcases h1 y hy with h3 | h3
  ·rcases putF_mem h3 with h4 | h4
   ·exact Or.inl h4
   ·exact Or.inr (by rw [h4]; exact List.mem_cons_self)
  ·exact Or.inr (List.mem_cons_of_mem _ h3)
def MgOk (s : Mg) : Prop := s.note.length ≤ 140737488355328 ∧ (∀ x ∈ s.F,FcOk x) ∧ (∀ x ∈ s.N,NmOk x) ∧ (∀ x ∈ s.S,ScOk x) ∧ ∀ t ∈ s.T,∀ i ∈ t,0 ≤ i ∧ i ≤ 4294967296
theorem hdL_ok : ∀ (l : List Cp) (n : Nat) (s : Mg),(∀ c ∈ l,HdOk c ∧ CpOk c) → s.F.length ≤ 4 * n → n + l.length ≤ 2 ^ 20 → MgOk s → MgOk (l.foldl hd1 s)
 | [],n,s,_,_,_,h => h
 | c :: l,n,s,hc,hF,hn,h => by
  rw [List.length_cons] at hn
  obtain ⟨k1,k2⟩ := hc c List.mem_cons_self
  have h1 := hd1_len s c
  refine hdL_ok l (n + 1) (hd1 s c) (fun x hx => hc x (List.mem_cons_of_mem _ hx)) (by have := k1.1; omega) (by omega) ?_
  obtain ⟨a1,a2,a3,a4,a5⟩ := h
  obtain ⟨o0,o1,o1l,o2,o2l,o3,o3l,o4,o4l⟩ := k2
  obtain ⟨p1,p2⟩ := putsB_ok c.faces s.F [] (fun i hi => by cases hi)
  refine ⟨?_,fun x hx => ?_,fun x hx => ?_,fun x hx => ?_,fun t ht i hi => ?_⟩
  ·show (if s.note = [] then c.note else s.note).length ≤ _
   split
   ·exact o0
   ·exact a1
  ·rcases p1 x hx with h3 | h3
   ·exact a2 x h3
   ·exact o1 x h3
  ·rcases putsL_mem hx with h3 | h3
   ·exact a3 x h3
   ·exact o2 x h3
  ·rcases putsL_mem hx with h3 | h3
   ·exact a4 x h3
   ·exact o3 x h3
  ·rcases List.mem_append.1 ht with h3 | h3
   ·exact a5 t h3 i hi
   ·rw [List.mem_singleton.1 h3] at hi
    have h4 := p2 i hi
    have h5 := h1.1
    have h6 : (hd1 s c).F = (c.faces.foldl (fun a x => ((putF fcS a.1 x).1,a.2 ++ [(putF fcS a.1 x).2])) (s.F,[])).1 := rfl
    rw [h6] at h5
    have := k1.1
    omega
theorem mrg_mem : ∀ (f : Nat) (rows : List (List Pk)) (p : Pk),p ∈ mrg f rows → ∃ r ∈ rows,p ∈ r
 | 0,rows,p,h => by cases h
 | f + 1,rows,p,h => by
  rcases bestN_in (rwT rows) rows.length with hb | ⟨j,hb,hj,hne⟩
  ·rw [mrg_end hb] at h; cases h
  ·rw [mrg_step hb] at h
   have hne2 : rows.getD j [] ≠ [] := fun e => hne (by unfold rwT; rw [e]; rfl)
   have hmem : rows.getD j [] ∈ rows := by
    rw [List.getD_eq_getElem?_getD,List.getElem?_eq_getElem hj]
    exact List.getElem_mem hj
   rcases List.mem_cons.1 h with h | h
   ·exact ⟨_,hmem,by rw [h]; exact pkE.at_mem (List.length_pos_iff.2 hne2)⟩
   ·obtain ⟨r,hr,hp⟩ := mrg_mem f _ p h
    rcases List.mem_or_eq_of_mem_set hr with h2 | h2
    ·exact ⟨r,h2,hp⟩
    ·exact ⟨_,hmem,List.mem_of_mem_tail (by rw [← h2]; exact hp)⟩
theorem ds_fact {ls ds : List Cp} {drs : List Int} (hd : ds.map nfC = (shD ls drs ls.length).map nfC) (hv : ∀ c ∈ ls,valE c = 0) (ho : okS ls drs ls.length = true) {x : Cp} (hx : x ∈ ds) : ∃ c ∈ ls,∃ to : Int → Int × Bool,CpEq x {c with packets := c.packets.map (setT to)} ∧ c.packets.all (okTo to) = true ∧ ∃ y,to = fun t => addF t y := by
 have h1 : nfC x ∈ (shD ls drs ls.length).map nfC := hd ▸ List.mem_map_of_mem hx
 obtain ⟨z,hz,hzx⟩ := List.mem_map.1 h1
 unfold shD at hz
 obtain ⟨i,hi,rfl⟩ := List.mem_map.1 hz
 have hi := List.mem_range.1 hi
 unfold okS at ho
 have h2 := List.all_eq_true.1 ho i (List.mem_range.2 hi)
 simp only [decide_eq_true_eq] at h2
 refine ⟨cpE.at ls i,cpE.at_mem hi,fun t => addF t (inE.at drs i),?_,?_,⟨_,rfl⟩⟩
 ·unfold tmF at h2 hzx
  rw [if_pos (hv _ (cpE.at_mem hi))] at h2 hzx
  split at h2
  ·rename_i h3
   rw [if_pos h3] at hzx
   simp only [nfC,Cp.mk.injEq] at hzx
   exact ⟨hzx.1.symm,hzx.2.2.1.symm,hzx.2.2.2.2.1.symm,hzx.2.2.2.2.2.2.1.symm,hzx.2.2.2.2.2.2.2.2.symm⟩
  ·cases h2
 ·unfold tmF at h2
  rw [if_pos (hv _ (cpE.at_mem hi))] at h2
  split at h2
  ·assumption
  ·cases h2
theorem ds_ok {ls ds : List Cp} {drs : List Int} (hd : ds.map nfC = (shD ls drs ls.length).map nfC) (hok : ∀ c ∈ ls,CpOk c) (hv : ∀ c ∈ ls,valE c = 0) (ho : okS ls drs ls.length = true) {x : Cp} (hx : x ∈ ds) : HdOk x ∧ CpOk x ∧ x.packets.length ≤ 100 ∧ ∀ p ∈ x.packets,0 ≤ p.face ∧ p.face < x.faces.length := by
 obtain ⟨c,hc,to,⟨e1,e2,e3,e4,e5⟩,ha,y,rfl⟩ := ds_fact hd hv ho hx
 obtain ⟨hpf,⟨l4,l3,l2,l1⟩,hf1⟩ := val_pk (hv c hc)
 obtain ⟨o0,o1,o1l,o2,o2l,o3,o3l,o4,o4l⟩ := hok c hc
 have hpl : x.packets.length = c.packets.length := by rw [e5]; simp
 simp only at e1 e2 e3 e4 e5
 refine ⟨⟨by rw [e2]; exact l1,by rw [e3]; exact l2,by rw [e4]; exact l3,by rw [e3]; exact o2,by rw [e4]; exact o3⟩,⟨by rw [e1]; exact o0,by rw [e2]; exact o1,by rw [e2]; exact o1l,by rw [e3]; exact o2,by rw [e3]; exact o2l,by rw [e4]; exact o3,by rw [e4]; exact o3l,fun p hp => ?_,by rw [hpl]; exact o4l⟩,by omega,fun p hp => ?_⟩
 ·rw [e5] at hp
  obtain ⟨q,hq,rfl⟩ := List.mem_map.1 hp
  obtain ⟨a1,a2,a3,a4,a5⟩ := o4 q hq
  have h6 := List.all_eq_true.1 ha q hq
  have h7 := pf_pk (hpf q hq)
  refine ⟨?_,a2,a3,a4,a5⟩
  unfold okTo addF at h6
  show Inx (addF q.time y).1
  unfold addF
  unfold Inx
  have h8 := h7.1
  unfold PkT at h8
  split
  ·omega
  ·simp only; omega
 ·rw [e5] at hp
  obtain ⟨q,hq,rfl⟩ := List.mem_map.1 hp
  have h7 := pf_pk (hpf q hq)
  rw [e2]
  exact ⟨h7.2.1,h7.2.2.1⟩
theorem tb_len {l : List Cp} : ∀ i ≤ l.length,(hdL (l.take i)).T.length = i ∧ ∀ k < i,(tbE.at (hdL (l.take i)).T k).length = (cpE.at l k).faces.length
 | 0,_ => ⟨by simp [hdL],fun k hk => absurd hk (Nat.not_lt_zero k)⟩
 | i + 1,h => by
  obtain ⟨h1,h2⟩ := tb_len (l := l) i (by omega)
  rw [hdL_snoc (l := l) (i := i) (by omega)]
  refine ⟨by show ((hdL (l.take i)).T ++ [_]).length = _; rw [List.length_append,h1]; rfl,fun k hk => ?_⟩
  show (tbE.at ((hdL (l.take i)).T ++ [_]) k).length = _
  unfold Enc.at
  rw [List.getD_eq_getElem?_getD]
  rcases Nat.lt_succ_iff_lt_or_eq.1 hk with h3 | h3
  ·rw [List.getElem?_append_left (by omega)]
   have := h2 k h3
   unfold Enc.at at this
   rw [List.getD_eq_getElem?_getD] at this
   exact this
  ·subst h3
   rw [List.getElem?_append_right (by omega),h1,Nat.sub_self]
   have := (putsB_len (cpE.at l k).faces (hdL (l.take k)).F []).2
   simp only [List.getElem?_cons_zero,Option.getD_some]
   unfold Enc.at at this
   simpa [putsB] using this
theorem mgC_ok {ds : List Cp} (hn : ds.length ≤ 400000) (h : ∀ x ∈ ds,HdOk x ∧ CpOk x ∧ x.packets.length ≤ 100 ∧ ∀ p ∈ x.packets,0 ≤ p.face ∧ p.face < x.faces.length) : MgOk (hdL ds) ∧ (hdL ds).F.length ≤ 2 ^ 30 ∧ (hdL ds).N.length ≤ 2 ^ 30 ∧ (hdL ds).S.length ≤ 2 ^ 30 ∧ tot (rowsA ds (hdL ds).T []) ≤ 100 * ds.length ∧ ∀ f,∀ p ∈ mrg f (rowsA ds (hdL ds).T []),PkOk p := by
 have hl := hdL_len ds 0 ⟨[],[],[],[],[]⟩ (fun c hc => (h c hc).1) ⟨by simp,by simp,by simp,rfl⟩
 have hm := hdL_ok ds 0 ⟨[],[],[],[],[]⟩ (fun c hc => ⟨(h c hc).1,(h c hc).2.1⟩) (by simp) (by omega) ⟨by simp,(fun x hx => by cases hx),(fun x hx => by cases hx),(fun x hx => by cases hx),(fun x hx => by cases hx)⟩
 have hm' : MgOk (hdL ds) := hm
 have hl' : (hdL ds).F.length ≤ 4 * (0 + ds.length) ∧ (hdL ds).N.length ≤ 60 * (0 + ds.length) ∧ (hdL ds).S.length ≤ 60 * (0 + ds.length) ∧ (hdL ds).T.length = 0 + ds.length := hl
 refine ⟨hm',by omega,by omega,by omega,?_,fun f p hp => ?_⟩
 ·have hg : ∀ rows : List (List Pk),(∀ r ∈ rows,r.length ≤ 100) → tot rows ≤ 100 * rows.length := by
   intro rows
   induction rows with
   | nil => intro _; exact Nat.le_refl 0
   | cons r rows ih =>
    intro hr
    have h1 := ih fun x hx => hr x (List.mem_cons_of_mem _ hx)
    have h2 := hr r List.mem_cons_self
    unfold tot
    rw [List.length_cons]
    omega
  have h3 := hg (rowsA ds (hdL ds).T []) fun r hr => by
   unfold rowsA at hr
   obtain ⟨k,hk,rfl⟩ := List.mem_map.1 hr
   have := (h _ (cpE.at_mem (List.mem_range.1 hk))).2.2.1
   simp
   omega
  rw [rowsA_len] at h3
  exact h3
 ·obtain ⟨r,hr,hpr⟩ := mrg_mem f _ p hp
  unfold rowsA at hr
  obtain ⟨k,hk,rfl⟩ := List.mem_map.1 hr
  have hk := List.mem_range.1 hk
  obtain ⟨q,hq,rfl⟩ := List.mem_map.1 hpr
  have hq := List.mem_of_mem_drop hq
  obtain ⟨_,ok,_,hfc⟩ := h _ (cpE.at_mem hk)
  obtain ⟨a1,a2,a3,a4,a5⟩ := ok.2.2.2.2.2.2.2.1 q hq
  refine ⟨a1,?_,a3,a4,a5⟩
  have h3 := tb_len (l := ds) ds.length (Nat.le_refl _)
  rw [List.take_length] at h3
  have h4 := h3.2 k hk
  have hkT : k < (hdL ds).T.length := by omega
  have hf := hfc q hq
  have h5 := hm'.2.2.2.2 _ (tbE.at_mem hkT) _ (inE.at_mem (l := tbE.at (hdL ds).T k) (i := q.face.toNat) (by omega))
  show Inx (inE.at (tbE.at (hdL ds).T k) q.face.toNat)
  unfold Inx
  omega
theorem rep_zeroI (n : Nat) : repeatV [V.int .i64 0] n = flatE inE (List.replicate n 0) := by
 induction n with
 | zero => rfl
 | succ n ih => rw [List.replicate_succ]; simp only [repeatV,ih,flatE,List.map_cons,List.flatten_cons]; rfl
theorem mk23 {n : Nat} {H : Hp} (h : n ≤ 2 ^ 20) : makeSliceV Try.prog 23 H (.int .i64 (n : Int)) (.int .i64 (n : Int)) = some (.slice H.length 0 0 n 1 .full,H ++ [.row 0 (flatE inE (List.replicate n 0)) true]) := by
 unfold makeSliceV
 rw [u23]
 simp only [z3,y3,o3,Option.bind_some]
 rw [if_pos ⟨by decide,rfl,rfl,by omega,by omega,by omega,by omega⟩,Int.toNat_natCast]
 show some (_,H ++ [AB.row 0 (repeatV [V.int .i64 0] n) true]) = _
 rw [rep_zeroI]
theorem tm_01 {c : Cp} {to : Int → Int × Bool} (h : valE c = 0) : (tmF c to).2 = 0 ∨ (tmF c to).2 = 1 := by
 unfold tmF
 rw [if_pos h]
 split <;> simp
theorem okS_snoc (ls : List Cp) (drs : List Int) (n : Nat) : okS ls drs (n + 1) = (okS ls drs n && decide ((tmF (cpE.at ls n) fun t => addF t (inE.at drs n)).2 = 0)) := by
 unfold okS
 rw [List.range_succ,List.all_append]
 simp
theorem okS_at {ls : List Cp} {drs : List Int} {n k : Nat} (h : okS ls drs n = true) (hk : k < n) : (tmF (cpE.at ls k) fun t => addF t (inE.at drs k)).2 = 0 := by
 unfold okS at h
 have := List.all_eq_true.1 h k (List.mem_range.2 hk)
 simpa using this
theorem okS_no {ls : List Cp} {drs : List Int} {n k : Nat} (hk : k < n) (h : (tmF (cpE.at ls k) fun t => addF t (inE.at drs k)).2 ≠ 0) : okS ls drs n = false := by
 cases he : okS ls drs n with
 | false => rfl
 | true => exact absurd (okS_at he hk) h
theorem RowN.three {α : Type} {E : Enc α} {n : Nat} {K : Hp} {v : V} {l : List α} (h : RowN E (n + 3) K v l) (h0 : l ≠ []) : ∃ j g,v = .slice (n + (j + 1 + 1 + 1)) g 0 l.length E.w .full ∧ j < K.length ∧ getRow K j g = some (flatE E l,true) := by
 obtain ⟨j,g,e,hj,hr,_⟩ := h.row h0
 exact ⟨j,g,by rw [e,show n + 3 + j = n + (j + 1 + 1 + 1) by omega],hj,hr⟩
theorem mgC_nf (l : List Cp) : mgC (l.map nfC) = mgC l := by
 unfold mgC
 rw [hdL_nf,rowsA_nf]
theorem set_int {l : List Int} {k : Nat} (hk : k < l.length) (x : Int) : setAt (flatE inE l) (k * 1) [.int .i64 x] = flatE inE (l.set k x) := by
 have := flatE_set (E := inE) (l := l) (i := k) (j := 0) (v := .int .i64 x) (a := x) hk (by decide) rfl
 rw [show inE.w = 1 from rfl,Nat.add_zero] at this
 exact this
set_option maxHeartbeats 8000000 in
theorem fn16 {b b' : Bool} {ls : List Cp} {drs : List Int} (hok : ∀ c ∈ ls,CpOk c) (hl : ls.length ≤ 2 ^ 62) (hdl : drs.length ≤ 2 ^ 62) (hlen : askE ls = 0 → ls.length ≤ 400000) (H : Hp) : ∃ d,callL Try.prog pr 16 [slV b cpE ls,slV b' inE drs] H = some (.tup [.agg (cpE.f d),.int .i64 (mgF ls drs).2],H) ∧ CpEq d (mgF ls drs).1 := by
 suffices h : ∃ r,callL Try.prog pr 16 [slV b cpE ls,slV b' inE drs] H = some r ∧ ∃ d,r = (.tup [.agg (cpE.f d),.int .i64 (mgF ls drs).2],H) ∧ CpEq d (mgF ls drs).1 by
  obtain ⟨_,h1,d,rfl,h2⟩ := h; exact ⟨d,h1,h2⟩
 have h54 := fun H => fn54 (b := b) hok hl H
 refine ex16 (Nat.le_of_ble_eq_true rfl) ?_
 unfold mgF
 by_cases ha : askE ls = 0
 case neg =>
  rw [if_neg ha]
  have hy := True.intro
  repeat' (first | simp (disch := first | rfl | omega | exact lt_new _ | assumption | decide | (simp [dkS] <;> omega) | fail) only [r16_0,r16_1,r16_2,r16_3,r16_4,r16_5,r16_6,r16_7,r16_8,r16_9,r16_10,r16_11,r16_12,r16_13,r16_14,r16_15,r16_16,r16_18,r16_19,r16_20,r16_21,r16_22,r16_23,r16_24,r16_25,r16_27,r16_28,r16_29,r16_30,c16,rs16,gc16,loadV_ptr,storeV_ptr,tkS,h54,ha,go_sem,↓reduceIte,Nat.reduceLT,Nat.reduceEqDiff,Nat.reduceAdd,Nat.reduceMul,Nat.reduceSub,Int.reduceAdd,Int.reduceSub,Nat.reduceLeDiff,Int.reduceLT,Int.reduceLE,Int.reduceEq,Int.reduceNeg,Int.reduceToNat,hy] | ((first | refine guardB_dec (fun hy => ?_) (fun hy => ?_) | refine guardB_bool (fun hy => ?_) (fun hy => ?_) | refine guardQ_ite (fun hy => ?_) (fun hy => ?_) | refine brQ_dec (fun hy => ?_) (fun hy => ?_) | refine brQ_bool (fun hy => ?_) (fun hy => ?_)) <;> (try simp only [Bool.not_eq_true',Bool.not_eq_false',Bool.and_eq_true,Bool.or_eq_false_iff,decide_eq_true_eq,decide_eq_false_iff_not] at hy)))
  exact ⟨noCp,finQ_app (by rw [noCp_f]; simp (disch := first | rfl | omega | exact lt_new _ | assumption | decide | (simp [dkS] <;> omega) | fail) only [go_sem,↓reduceIte,Nat.reduceLT,Nat.reduceEqDiff,Nat.reduceAdd,Nat.reduceMul,Nat.reduceSub,Int.reduceAdd,Int.reduceSub,Nat.reduceLeDiff,Int.reduceLT,Int.reduceLE,Int.reduceEq,Int.reduceNeg,Int.reduceToNat]),CpEq.rfl' _⟩
 rw [if_pos ha]
 have hn := hlen ha
 have hv := askE_all ha
 by_cases he : ls.length = drs.length
 case neg =>
  have he' : ¬ (ls.length : Int) = drs.length := by omega
  rw [if_neg he]
  have hy := True.intro
  repeat' (first | simp (disch := first | rfl | omega | exact lt_new _ | assumption | decide | (simp [dkS] <;> omega) | fail) only [r16_0,r16_1,r16_2,r16_3,r16_4,r16_5,r16_6,r16_7,r16_8,r16_9,r16_10,r16_11,r16_12,r16_13,r16_14,r16_15,r16_16,r16_18,r16_19,r16_20,r16_21,r16_22,r16_23,r16_24,r16_25,r16_27,r16_28,r16_29,r16_30,c16,rs16,gc16,loadV_ptr,storeV_ptr,tkS,h54,ha,he',go_sem,↓reduceIte,Nat.reduceLT,Nat.reduceEqDiff,Nat.reduceAdd,Nat.reduceMul,Nat.reduceSub,Int.reduceAdd,Int.reduceSub,Nat.reduceLeDiff,Int.reduceLT,Int.reduceLE,Int.reduceEq,Int.reduceNeg,Int.reduceToNat,hy] | ((first | refine guardB_dec (fun hy => ?_) (fun hy => ?_) | refine guardB_bool (fun hy => ?_) (fun hy => ?_) | refine guardQ_ite (fun hy => ?_) (fun hy => ?_) | refine brQ_dec (fun hy => ?_) (fun hy => ?_) | refine brQ_bool (fun hy => ?_) (fun hy => ?_)) <;> (try simp only [Bool.not_eq_true',Bool.not_eq_false',Bool.and_eq_true,Bool.or_eq_false_iff,decide_eq_true_eq,decide_eq_false_iff_not] at hy)))
  exact ⟨noCp,finQ_app (by rw [noCp_f]; simp (disch := first | rfl | omega | exact lt_new _ | assumption | decide | (simp [dkS] <;> omega) | fail) only [go_sem,↓reduceIte,Nat.reduceLT,Nat.reduceEqDiff,Nat.reduceAdd,Nat.reduceMul,Nat.reduceSub,Int.reduceAdd,Int.reduceSub,Nat.reduceLeDiff,Int.reduceLT,Int.reduceLE,Int.reduceEq,Int.reduceNeg,Int.reduceToNat]),CpEq.rfl' _⟩
 rw [if_pos he]
 have he' : (ls.length : Int) = drs.length := by omega
 by_cases h0 : ls.length = 0
 ·have h0' : (ls.length : Int) = 0 := by omega
  rw [if_pos h0]
  have h00 : (drs.length : Int) = 0 := by omega
  have hy := True.intro
  repeat' (first | simp (disch := first | rfl | omega | exact lt_new _ | assumption | decide | (simp [dkS] <;> omega) | fail) only [r16_0,r16_1,r16_2,r16_3,r16_4,r16_5,r16_6,r16_7,r16_8,r16_9,r16_10,r16_11,r16_12,r16_13,r16_14,r16_15,r16_16,r16_18,r16_19,r16_20,r16_21,r16_22,r16_23,r16_24,r16_25,r16_27,r16_28,r16_29,r16_30,c16,rs16,gc16,loadV_ptr,storeV_ptr,tkS,h54,ha,he',h00,go_sem,↓reduceIte,Nat.reduceLT,Nat.reduceEqDiff,Nat.reduceAdd,Nat.reduceMul,Nat.reduceSub,Int.reduceAdd,Int.reduceSub,Nat.reduceLeDiff,Int.reduceLT,Int.reduceLE,Int.reduceEq,Int.reduceNeg,Int.reduceToNat,hy] | ((first | refine guardB_dec (fun hy => ?_) (fun hy => ?_) | refine guardB_bool (fun hy => ?_) (fun hy => ?_) | refine guardQ_ite (fun hy => ?_) (fun hy => ?_) | refine brQ_dec (fun hy => ?_) (fun hy => ?_) | refine brQ_bool (fun hy => ?_) (fun hy => ?_)) <;> (try simp only [Bool.not_eq_true',Bool.not_eq_false',Bool.and_eq_true,Bool.or_eq_false_iff,decide_eq_true_eq,decide_eq_false_iff_not] at hy)))
  exact ⟨noCp,finQ_app (by rw [noCp_f]; simp (disch := first | rfl | omega | exact lt_new _ | assumption | decide | (simp [dkS] <;> omega) | fail) only [go_sem,↓reduceIte,Nat.reduceLT,Nat.reduceEqDiff,Nat.reduceAdd,Nat.reduceMul,Nat.reduceSub,Int.reduceAdd,Int.reduceSub,Nat.reduceLeDiff,Int.reduceLT,Int.reduceLE,Int.reduceEq,Int.reduceNeg,Int.reduceToNat]),CpEq.rfl' _⟩
 rw [if_neg h0]
 have h0' : ¬ (ls.length : Int) = 0 := by omega
 have hd0' : ¬ (drs.length : Int) = 0 := by omega
 obtain ⟨n,hnn⟩ : ∃ n,ls.length = n := ⟨_,rfl⟩
 have hmk := fun H => mk23 (n := n) (H := H) (by omega)
 have hdn : drs.length = n := by omega
 rw [hnn] at h0' hn ⊢
 rw [hnn,hdn] at he'
 have hy := True.intro
 repeat' (first | simp (disch := first | rfl | omega | exact lt_new _ | assumption | decide | (simp [dkS] <;> omega) | fail) only [r16_0,r16_1,r16_2,r16_3,r16_4,r16_5,r16_6,r16_7,r16_8,r16_9,r16_10,r16_11,r16_12,r16_13,r16_14,r16_15,r16_16,r16_18,r16_19,r16_20,r16_21,r16_22,r16_23,r16_24,r16_25,r16_27,r16_28,r16_29,r16_30,c16,rs16,gc16,loadV_ptr,storeV_ptr,tkS,h54,ha,he',h0',hnn,hdn,hmk,go_sem,↓reduceIte,Nat.reduceLT,Nat.reduceEqDiff,Nat.reduceAdd,Nat.reduceMul,Nat.reduceSub,Int.reduceAdd,Int.reduceSub,Nat.reduceLeDiff,Int.reduceLT,Int.reduceLE,Int.reduceEq,Int.reduceNeg,Int.reduceToNat,hy] | ((first | refine guardB_dec (fun hy => ?_) (fun hy => ?_) | refine guardB_bool (fun hy => ?_) (fun hy => ?_) | refine guardQ_ite (fun hy => ?_) (fun hy => ?_) | refine brQ_dec (fun hy => ?_) (fun hy => ?_) | refine brQ_bool (fun hy => ?_) (fun hy => ?_)) <;> (try simp only [Bool.not_eq_true',Bool.not_eq_false',Bool.and_eq_true,Bool.or_eq_false_iff,decide_eq_true_eq,decide_eq_false_iff_not] at hy)))
 refine Wp_loop (fun m T D H' => ∃ k K vl ds,m = n - k ∧ k ≤ n ∧ D = [] ∧ H' = H ++ AB.row 0 [.str [],.nilslice,.nilslice,.nilslice,.nilslice] true :: AB.row 0 (flatE inE (List.replicate n 0)) true :: AB.row 0 [vl,.slice (H.length + 1) 0 0 n 1 .full,.str [],.nilslice,.nilslice,.nilslice,.nilslice,.nilslice] true :: K ∧ get T 0 = slV b cpE ls ∧ get T 1 = slV b' inE drs ∧ get T 4 = .ptr H.length 0 0 ∧ get T 7 = .ptr (H.length + 2) 0 0 ∧ get T 36 = slV b cpE ls ∧ get T 37 = .int .i64 n ∧ get T 38 = .int .i64 k ∧ RowN cpE (H.length + 3) K vl ds ∧ ds.map nfC = (shD ls drs k).map nfC ∧ okS ls drs k = true) ?_ n _ _ _ ?_
 case refine_2 => exact ⟨0,[],.nilslice,[],by simp (disch := first | rfl | omega | exact lt_new _ | assumption | decide | (simp [dkS] <;> omega) | fail) only [go_sem,↓reduceIte,Nat.reduceLT,Nat.reduceEqDiff,Nat.reduceAdd,Nat.reduceMul,Nat.reduceSub,Int.reduceAdd,Int.reduceSub,Nat.reduceLeDiff,Int.reduceLT,Int.reduceLE,Int.reduceEq,Int.reduceNeg,Int.reduceToNat]; exact ⟨Nat.zero_le _,Or.inl ⟨rfl,rfl⟩,rfl,rfl⟩⟩
 rintro m T D H' ⟨k,K,vl,ds,rfl,hk,rfl,rfl,t0,t1,t4,t7,t36,t37,t38,q,hds,hokS⟩
 obtain ⟨c1,c2,c3,c4,c5,c6,c7⟩ := q.m.cell
 have hdl : ds.length = k := by
  have := congrArg List.length hds
  simpa [shD_len] using this
 by_cases hlt : k < n
 ·have hlt' : (k : Int) < n := by omega
  have hkl : k < ls.length := by omega
  have hlt2 : (k : Int) < ls.length := by omega
  have hlt3 : (k : Int) < drs.length := by omega
  have hcv := hv _ (cpE.at_mem hkl)
  have hco := hok _ (cpE.at_mem hkl)
  have lc := fun H => ld_cpE (H := H) hkl
  have la := fun H => @ld_cell0 _ Try.prog H _ inE drs 3 1 k g3 rfl (by omega)
  have hsn := shD_snoc ls drs k
  have hos := okS_snoc ls drs k
  have hno := okS_no (ls := ls) (drs := drs) (n := n) hlt
  obtain ⟨c,hc⟩ : ∃ c,cpE.at ls k = c := ⟨_,rfl⟩
  obtain ⟨y,hy0⟩ : ∃ y,inE.at drs k = y := ⟨_,rfl⟩
  rw [hc,hy0] at hsn hos hno
  rw [hc] at lc hcv hco
  rw [hy0] at la
  have la' : ∀ H,loadV Try.prog 3 H (.ipt (flatE inE drs) (k * 1)) = some (.int .i64 y) := fun H => by rw [la H]; rfl
  obtain ⟨d,e46,hd⟩ : ∃ d : Hp → Cp,(∀ H,callL Try.prog pr 46 [.agg (cpE.f c),.int .i64 y] H = some (.tup [.agg (cpE.f (d H)),.int .i64 (tmF c fun t => addF t y).2],H)) ∧ ∀ H,CpEq (d H) (tmF c fun t => addF t y).1 := ⟨fun H => (fn46 c hco y H).choose,fun H => (fn46 c hco y H).choose_spec.1,fun H => (fn46 c hco y H).choose_spec.2⟩
  rcases tm_01 (to := fun t => addF t y) hcv with h1 | h1
  ·rw [h1] at e46
   obtain ⟨x,hx⟩ : ∃ x,d (H ++ AB.row 0 [.str [],.nilslice,.nilslice,.nilslice,.nilslice] true :: AB.row 0 (flatE inE (List.replicate n 0)) true :: AB.row 0 [vl,.slice (H.length + 1) 0 0 n 1 .full,.str [],.nilslice,.nilslice,.nilslice,.nilslice,.nilslice] true :: (K ++ [AB.row 0 (cpE.f c) true])) = x := ⟨_,rfl⟩
   have hdx := hd (H ++ AB.row 0 [.str [],.nilslice,.nilslice,.nilslice,.nilslice] true :: AB.row 0 (flatE inE (List.replicate n 0)) true :: AB.row 0 [vl,.slice (H.length + 1) 0 0 n 1 .full,.str [],.nilslice,.nilslice,.nilslice,.nilslice,.nilslice] true :: (K ++ [AB.row 0 (cpE.f c) true]))
   rw [hx] at hdx
   obtain ⟨vl',K',ea,qa,hkq⟩ := push_rowQ (E := cpE) (w := 5) (by_ := 112) (q := 1) (A := H ++ AB.row 0 [.str [],.nilslice,.nilslice,.nilslice,.nilslice] true :: AB.row 0 (flatE inE (List.replicate n 0)) true :: [AB.row 0 [vl,.slice (H.length + 1) 0 0 n 1 .full,.str [],.nilslice,.nilslice,.nilslice,.nilslice,.nilslice] true] ) (by simp) rfl (q.app [AB.row 0 (cpE.f c) true,AB.row 0 (cpE.f x) true]) x (by omega) (by omega) cl_cp
   simp only [List.append_assoc,List.cons_append,List.nil_append] at ea
   obtain ⟨j1,j2,j3,j4,j5,j6,j7⟩ := qa.m.cell
   have hy := True.intro
   repeat' (first | simp (disch := first | rfl | omega | exact lt_new _ | assumption | decide | (simp [dkS] <;> omega) | fail) only [r16_0,r16_1,r16_2,r16_3,r16_4,r16_5,r16_6,r16_7,r16_8,r16_9,r16_10,r16_11,r16_12,r16_13,r16_14,r16_15,r16_16,r16_18,r16_19,r16_20,r16_21,r16_22,r16_23,r16_24,r16_25,r16_27,r16_28,r16_29,r16_30,c16,rs16,gc16,l16_17,loadV_ptr,storeV_ptr,tkS,t0,t1,t4,t7,t36,t37,t38,hlt',hlt2,hlt3,lc,la',e46,hx,ea,c1,c2,c3,c4,c5,c6,c7,j1,j2,j3,j4,j5,j6,j7,go_sem,↓reduceIte,Nat.reduceLT,Nat.reduceEqDiff,Nat.reduceAdd,Nat.reduceMul,Nat.reduceSub,Int.reduceAdd,Int.reduceSub,Nat.reduceLeDiff,Int.reduceLT,Int.reduceLE,Int.reduceEq,Int.reduceNeg,Int.reduceToNat,hy] | ((first | refine guardB_dec (fun hy => ?_) (fun hy => ?_) | refine guardB_bool (fun hy => ?_) (fun hy => ?_) | refine guardQ_ite (fun hy => ?_) (fun hy => ?_) | refine brQ_dec (fun hy => ?_) (fun hy => ?_) | refine brQ_bool (fun hy => ?_) (fun hy => ?_)) <;> (try simp only [Bool.not_eq_true',Bool.not_eq_false',Bool.and_eq_true,Bool.or_eq_false_iff,decide_eq_true_eq,decide_eq_false_iff_not] at hy)))
   exact ⟨_,by omega,k + 1,K',vl',ds ++ [x],rfl,hlt,rfl,rfl,qa,by rw [hsn,List.map_append,List.map_append,hds]; simp only [List.map_cons,List.map_nil,nfC_eq hdx],by rw [hos,hokS,h1]; rfl⟩
  ·rw [h1] at e46
   have hy := True.intro
   repeat' (first | simp (disch := first | rfl | omega | exact lt_new _ | assumption | decide | (simp [dkS] <;> omega) | fail) only [r16_0,r16_1,r16_2,r16_3,r16_4,r16_5,r16_6,r16_7,r16_8,r16_9,r16_10,r16_11,r16_12,r16_13,r16_14,r16_15,r16_16,r16_18,r16_19,r16_20,r16_21,r16_22,r16_23,r16_24,r16_25,r16_27,r16_28,r16_29,r16_30,c16,rs16,gc16,l16_17,loadV_ptr,storeV_ptr,tkS,t0,t1,t4,t7,t36,t37,t38,hlt',hlt2,hlt3,lc,la',e46,go_sem,↓reduceIte,Nat.reduceLT,Nat.reduceEqDiff,Nat.reduceAdd,Nat.reduceMul,Nat.reduceSub,Int.reduceAdd,Int.reduceSub,Nat.reduceLeDiff,Int.reduceLT,Int.reduceLE,Int.reduceEq,Int.reduceNeg,Int.reduceToNat,hy] | ((first | refine guardB_dec (fun hy => ?_) (fun hy => ?_) | refine guardB_bool (fun hy => ?_) (fun hy => ?_) | refine guardQ_ite (fun hy => ?_) (fun hy => ?_) | refine brQ_dec (fun hy => ?_) (fun hy => ?_) | refine brQ_bool (fun hy => ?_) (fun hy => ?_)) <;> (try simp only [Bool.not_eq_true',Bool.not_eq_false',Bool.and_eq_true,Bool.or_eq_false_iff,decide_eq_true_eq,decide_eq_false_iff_not] at hy)))
   rw [if_neg (by rw [hno (by rw [h1]; decide)]; decide)]
   exact ⟨noCp,finQ_app (by rw [noCp_f]; simp (disch := first | rfl | omega | exact lt_new _ | assumption | decide | (simp [dkS] <;> omega) | fail) only [go_sem,↓reduceIte,Nat.reduceLT,Nat.reduceEqDiff,Nat.reduceAdd,Nat.reduceMul,Nat.reduceSub,Int.reduceAdd,Int.reduceSub,Nat.reduceLeDiff,Int.reduceLT,Int.reduceLE,Int.reduceEq,Int.reduceNeg,Int.reduceToNat]),CpEq.rfl' _⟩
 ·obtain rfl : k = n := by omega
  rw [if_pos hokS]
  have hfacts := fun x (hx : x ∈ ds) => ds_ok (ls := ls) (drs := drs) (by rw [hnn]; exact hds) hok hv (by rw [hnn]; exact hokS) (x := x) hx
  have hmg : mgC (shD ls drs k) = mgC ds := by rw [← mgC_nf,← hds]; exact mgC_nf ds
  rw [hmg]
  clear hmg hds hokS hnn hdn h54 hmk
  generalize k = n at *
  have pl : (H ++ [AB.row 0 [.str [],.nilslice,.nilslice,.nilslice,.nilslice] true,AB.row 0 (flatE inE (List.replicate n 0)) true]).length = H.length + 2 := by simp
  obtain ⟨r55,K1,vF,vN,vS,vT,e55,g1,gF,gN,gS,gT⟩ := fn55 (P := H ++ [AB.row 0 [.str [],.nilslice,.nilslice,.nilslice,.nilslice] true,AB.row 0 (flatE inE (List.replicate n 0)) true]) (K := K) (vl := vl) (va := .slice (H.length + 1) 0 0 n 1 .full) (ls := ds) (by rw [pl]; exact q) (fun c hc => (hfacts c hc).1) (by omega)
  rw [pl] at e55 g1 gF gN gS gT
  simp only [List.append_assoc,List.cons_append,List.nil_append] at e55
  obtain ⟨hm,hF30,hN30,hS30,htot,hpk⟩ := mgC_ok (ds := ds) (by omega) hfacts
  have hat0 : AtOk ds (List.replicate n 0) := by
   refine ⟨by rw [List.length_replicate,hdl],fun k hk => ?_⟩
   have h1 : inE.at (List.replicate n 0) k = 0 := by
    unfold Enc.at
    rw [List.getD_eq_getElem?_getD,List.getElem?_replicate]
    split <;> rfl
   rw [h1]
   omega
  have e56 := nx56 (H := H) (z := AB.row 0 [.str [],.nilslice,.nilslice,.nilslice,.nilslice] true) (note := (hdL ds).note) (vP := .nilslice) (pk := []) g1 gF gN gS (Or.inl ⟨rfl,rfl⟩) gT (by omega) hat0
  rw [List.length_replicate] at e56
  obtain ⟨f1,f2,f3,f4,f5,f6,f7⟩ := gF.m.cell
  obtain ⟨n1,n2,n3,n4,n5,n6,n7⟩ := gN.m.cell
  obtain ⟨s1,s2,s3,s4,s5,s6,s7⟩ := gS.m.cell
  obtain ⟨u1,u2,u3,u4,u5,u6,u7⟩ := gT.m.cell
  obtain ⟨R,hR⟩ : ∃ R,mrg (tot (rowsA ds (hdL ds).T [])) (rowsA ds (hdL ds).T []) = R := ⟨_,rfl⟩
  obtain ⟨t0n,ht0⟩ : ∃ t,tot (rowsA ds (hdL ds).T []) = t := ⟨_,rfl⟩
  have hpkR : ∀ p ∈ R,PkOk p := fun p hp => hpk _ p (by rw [hR]; exact hp)
  have hy := True.intro
  repeat' (first | simp (disch := first | rfl | omega | exact lt_new _ | assumption | decide | (simp [dkS] <;> omega) | fail) only [r16_0,r16_1,r16_2,r16_3,r16_4,r16_5,r16_6,r16_7,r16_8,r16_9,r16_10,r16_11,r16_12,r16_13,r16_14,r16_15,r16_16,r16_18,r16_19,r16_20,r16_21,r16_22,r16_23,r16_24,r16_25,r16_27,r16_28,r16_29,r16_30,c16,rs16,gc16,l16_17,loadV_ptr,storeV_ptr,tkS,t0,t1,t4,t7,t36,t37,t38,Int.lt_irrefl,e55,e56,c1,c2,c3,c4,c5,c6,c7,go_sem,↓reduceIte,Nat.reduceLT,Nat.reduceEqDiff,Nat.reduceAdd,Nat.reduceMul,Nat.reduceSub,Int.reduceAdd,Int.reduceSub,Nat.reduceLeDiff,Int.reduceLT,Int.reduceLE,Int.reduceEq,Int.reduceNeg,Int.reduceToNat,hy] | ((first | refine guardB_dec (fun hy => ?_) (fun hy => ?_) | refine guardB_bool (fun hy => ?_) (fun hy => ?_) | refine guardQ_ite (fun hy => ?_) (fun hy => ?_) | refine brQ_dec (fun hy => ?_) (fun hy => ?_) | refine brQ_bool (fun hy => ?_) (fun hy => ?_)) <;> (try simp only [Bool.not_eq_true',Bool.not_eq_false',Bool.and_eq_true,Bool.or_eq_false_iff,decide_eq_true_eq,decide_eq_false_iff_not] at hy)))
  refine Wp_loop (fun m T D H' => ∃ K ats vP pk,D = [] ∧ H' = H ++ AB.row 0 [.str [],.nilslice,.nilslice,.nilslice,.nilslice] true :: AB.row 0 (flatE inE ats) true :: AB.row 0 [vl,.slice (H.length + 1) 0 0 n 1 .full,.str (hdL ds).note,vF,vN,vS,vP,vT] true :: K ∧ get T 4 = .ptr H.length 0 0 ∧ get T 7 = .ptr (H.length + 2) 0 0 ∧ get T 12 = .int .i64 (bestN (tsF ds ats) ds.length) ∧ RowN cpE (H.length + 3) K vl ds ∧ RowN fcE (H.length + 3) K vF (hdL ds).F ∧ RowN nmE (H.length + 3) K vN (hdL ds).N ∧ RowN scE (H.length + 3) K vS (hdL ds).S ∧ RowN tbE (H.length + 3) K vT (hdL ds).T ∧ RowN pkE (H.length + 3) K vP pk ∧ AtOk ds ats ∧ pk ++ mrg m (rowsA ds (hdL ds).T ats) = R ∧ tot (rowsA ds (hdL ds).T ats) = m ∧ pk.length + m = t0n) ?_ t0n _ _ _ ?_
  case refine_2 => exact ⟨K1,List.replicate n 0,.nilslice,[],rfl,rfl,by simp [go_sem,t4],by simp [go_sem,t7],by simp [go_sem],g1,gF,gN,gS,gT,Or.inl ⟨rfl,rfl⟩,hat0,by rw [rowsA_0,← ht0,hR]; rfl,by rw [rowsA_0,ht0],by simp⟩
  clear t0 t1 t4 t7 t36 t37 t38 e55 e56 g1 gF gN gS gT
  rintro m T D H' ⟨K,ats,vP,pk,rfl,rfl,t4,t7,t12,g1,gF,gN,gS,gT,gP,hat,hmr,htm,hpl⟩
  obtain ⟨p1,p2,p3,p4,p5,p6,p7⟩ := gP.m.cell
  rcases bestN_in (tsF ds ats) ds.length with hb | ⟨j,hb,hj,hne⟩
  ·have hpR : pk = R := by rw [← hmr,mrg_end (by rw [rowsA_best,hb]),List.append_nil]
   rw [hb] at t12
   have hpl2 : pk.length ≤ 2 ^ 30 := by omega
   have hok2 : CpOk ⟨(hdL ds).note,true,(hdL ds).F,true,(hdL ds).N,true,(hdL ds).S,true,pk⟩ := ⟨hm.1,hm.2.1,by show (hdL ds).F.length ≤ _; omega,hm.2.2.1,by show (hdL ds).N.length ≤ _; omega,hm.2.2.2.1,by show (hdL ds).S.length ≤ _; omega,by rw [hpR]; exact hpkR,by show pk.length ≤ _; omega⟩
   have e57 := (val57 (A := H ++ AB.row 0 [.str [],.nilslice,.nilslice,.nilslice,.nilslice] true :: AB.row 0 (flatE inE ats) true :: [AB.row 0 [vl,.slice (H.length + 1) 0 0 n 1 .full,.str (hdL ds).note,vF,vN,vS,vP,vT] true] ) (note := (hdL ds).note) gF gN gS gP (by simp) hok2).1
   simp only [List.append_assoc,List.cons_append,List.nil_append] at e57
   have hmc : mgC ds = ⟨(hdL ds).note,true,(hdL ds).F,true,(hdL ds).N,true,(hdL ds).S,true,pk⟩ := by unfold mgC; rw [hR,hpR]
   rw [hmc]
   obtain ⟨ov,hov⟩ : ∃ v,valE ⟨(hdL ds).note,true,(hdL ds).F,true,(hdL ds).N,true,(hdL ds).S,true,pk⟩ = v := ⟨_,rfl⟩
   rw [hov] at e57 ⊢
   have hge : ¬ (0 : Int) ≤ -1 := by decide
   by_cases hv0 : ov = 0
   ·subst hv0
    rw [if_pos rfl]
    have hy := True.intro
    repeat' (first | simp (disch := first | rfl | omega | exact lt_new _ | assumption | decide | (simp [dkS] <;> omega) | fail) only [r16_0,r16_1,r16_2,r16_3,r16_4,r16_5,r16_6,r16_7,r16_8,r16_9,r16_10,r16_11,r16_12,r16_13,r16_14,r16_15,r16_16,l16_17,r16_18,r16_19,r16_20,r16_21,r16_22,r16_23,r16_24,r16_25,l16_26,r16_27,r16_28,r16_29,r16_30,c16,rs16,gc16,loadV_ptr,storeV_ptr,tkS,t4,t7,t12,hge,e57,c1,c2,c3,c4,c5,c6,c7,f1,f2,f3,f4,f5,f6,f7,n1,n2,n3,n4,n5,n6,n7,s1,s2,s3,s4,s5,s6,s7,u1,u2,u3,u4,u5,u6,u7,p1,p2,p3,p4,p5,p6,p7,go_sem,↓reduceIte,Nat.reduceLT,Nat.reduceEqDiff,Nat.reduceAdd,Nat.reduceMul,Nat.reduceSub,Int.reduceAdd,Int.reduceSub,Nat.reduceLeDiff,Int.reduceLT,Int.reduceLE,Int.reduceEq,Int.reduceNeg,Int.reduceToNat,hy] | ((first | refine guardB_dec (fun hy => ?_) (fun hy => ?_) | refine guardB_bool (fun hy => ?_) (fun hy => ?_) | refine guardQ_ite (fun hy => ?_) (fun hy => ?_) | refine brQ_dec (fun hy => ?_) (fun hy => ?_) | refine brQ_bool (fun hy => ?_) (fun hy => ?_)) <;> (try simp only [Bool.not_eq_true',Bool.not_eq_false',Bool.and_eq_true,Bool.or_eq_false_iff,decide_eq_true_eq,decide_eq_false_iff_not] at hy)))
    have hin : ∀ {α : Type} {E : Enc α} {v : V} {l : List α},RowN E (H.length + 3) K v l → ∃ b,inlC H.length (H ++ AB.row 0 [.str (hdL ds).note,vF,vN,vS,vP] true :: AB.row 0 (flatE inE ats) true :: AB.row 0 [vl,.slice (H.length + 1) 0 0 n 1 .full,.str (hdL ds).note,vF,vN,vS,vP,vT] true :: K) 8 v = some (slV b E l) := fun {_ _ _ _} h => by
     have := h.m.inl (f := 6) (A := H ++ AB.row 0 [.str (hdL ds).note,vF,vN,vS,vP] true :: AB.row 0 (flatE inE ats) true :: [AB.row 0 [vl,.slice (H.length + 1) 0 0 n 1 .full,.str (hdL ds).note,vF,vN,vS,vP,vT] true]) (m := H.length) (by simp) (by omega)
     simpa only [List.append_assoc,List.cons_append,List.nil_append] using this
    obtain ⟨b1,i1⟩ := hin gF
    obtain ⟨b2,i2⟩ := hin gN
    obtain ⟨b3,i3⟩ := hin gS
    obtain ⟨b4,i4⟩ := hin gP
    refine ⟨⟨(hdL ds).note,b1,(hdL ds).F,b2,(hdL ds).N,b3,(hdL ds).S,b4,pk⟩,finQ_app ?_,rfl,rfl,rfl,rfl,rfl⟩
    simp (disch := first | rfl | omega | exact lt_new _ | assumption | decide | (simp [dkS] <;> omega) | fail) only [go_sem,↓reduceIte,Nat.reduceLT,Nat.reduceEqDiff,Nat.reduceAdd,Nat.reduceMul,Nat.reduceSub,Int.reduceAdd,Int.reduceSub,Nat.reduceLeDiff,Int.reduceLT,Int.reduceLE,Int.reduceEq,Int.reduceNeg,Int.reduceToNat,i1,i2,i3,i4,cpE_f]
   ·rw [if_neg hv0]
    have hy := True.intro
    repeat' (first | simp (disch := first | rfl | omega | exact lt_new _ | assumption | decide | (simp [dkS] <;> omega) | fail) only [r16_0,r16_1,r16_2,r16_3,r16_4,r16_5,r16_6,r16_7,r16_8,r16_9,r16_10,r16_11,r16_12,r16_13,r16_14,r16_15,r16_16,l16_17,r16_18,r16_19,r16_20,r16_21,r16_22,r16_23,r16_24,r16_25,l16_26,r16_27,r16_28,r16_29,r16_30,c16,rs16,gc16,loadV_ptr,storeV_ptr,tkS,t4,t7,t12,hge,e57,hv0,c1,c2,c3,c4,c5,c6,c7,f1,f2,f3,f4,f5,f6,f7,n1,n2,n3,n4,n5,n6,n7,s1,s2,s3,s4,s5,s6,s7,u1,u2,u3,u4,u5,u6,u7,p1,p2,p3,p4,p5,p6,p7,go_sem,↓reduceIte,Nat.reduceLT,Nat.reduceEqDiff,Nat.reduceAdd,Nat.reduceMul,Nat.reduceSub,Int.reduceAdd,Int.reduceSub,Nat.reduceLeDiff,Int.reduceLT,Int.reduceLE,Int.reduceEq,Int.reduceNeg,Int.reduceToNat,hy] | ((first | refine guardB_dec (fun hy => ?_) (fun hy => ?_) | refine guardB_bool (fun hy => ?_) (fun hy => ?_) | refine guardQ_ite (fun hy => ?_) (fun hy => ?_) | refine brQ_dec (fun hy => ?_) (fun hy => ?_) | refine brQ_bool (fun hy => ?_) (fun hy => ?_)) <;> (try simp only [Bool.not_eq_true',Bool.not_eq_false',Bool.and_eq_true,Bool.or_eq_false_iff,decide_eq_true_eq,decide_eq_false_iff_not] at hy)))
    exact ⟨noCp,finQ_app (by rw [noCp_f]; simp (disch := first | rfl | omega | exact lt_new _ | assumption | decide | (simp [dkS] <;> omega) | fail) only [go_sem,↓reduceIte,Nat.reduceLT,Nat.reduceEqDiff,Nat.reduceAdd,Nat.reduceMul,Nat.reduceSub,Int.reduceAdd,Int.reduceSub,Nat.reduceLeDiff,Int.reduceLT,Int.reduceLE,Int.reduceEq,Int.reduceNeg,Int.reduceToNat]),CpEq.rfl' _⟩
  ·rw [hb] at t12
   have hjd : j < ds.length := hj
   have hjn : (j : Int) < n := by omega
   have hjds : (j : Int) < ds.length := by omega
   have hjn2 : (j : Int) < (hdL ds).T.length := by
    have := (tb_len (l := ds) ds.length (Nat.le_refl _)).1
    rw [List.take_length] at this
    omega
   have hds0 : ds ≠ [] := fun e => by rw [e] at hjd; exact Nat.not_lt_zero _ hjd
   have hT0 : (hdL ds).T ≠ [] := fun e => by rw [e] at hjn2; simp at hjn2; omega
   obtain ⟨k1,k2⟩ := hat.2 j hjd
   have hane := (tsF_ne (ls := ds) k1).1 hne
   have hatl : ats.length = n := hat.1.trans hdl
   obtain ⟨i,hi⟩ : ∃ i : Nat,inE.at ats j = i := ⟨(inE.at ats j).toNat,by omega⟩
   rw [hi] at k1 k2 hane
   have hin : i < (cpE.at ds j).packets.length := by omega
   obtain ⟨r1,r2,r3⟩ := rowsA_set (T := (hdL ds).T) hjd hat.1 hi hin
   have hfc := (hfacts _ (cpE.at_mem hjd)).2.2.2 _ (pkE.at_mem hin)
   have htl := (tb_len (l := ds) ds.length (Nat.le_refl _)).2 j hjd
   rw [List.take_length] at htl
   have lT : partV Try.prog 23 (flatE tbE (hdL ds).T) (j * 1) = some (slV true inE (tbE.at (hdL ds).T j)) := by
    rw [lq_cell0 (E := tbE) (l := (hdL ds).T) (t := 23) (w := 1) (i := j) g23 rfl (by omega)]; rfl
   have lA : partV Try.prog 3 (flatE inE ats) (j * 1) = some (.int .i64 (i : Int)) := by
    rw [lq_cell0 (E := inE) (l := ats) (t := 3) (w := 1) (i := j) g3 rfl (by omega),hi]; rfl
   have lD : partV Try.prog 29 (flatE cpE ds) (j * 5 + 4) = some (slV (cpE.at ds j).packetsN pkE (cpE.at ds j).packets) := ld_cpE_4 (H := H) hjd
   have lP := fun H => ld_pkE (H := H) hin
   have hset := set_int (l := ats) (k := j) (by omega) ((i : Int) + 1)
   have hfl : (flatE inE ats).length = n := by rw [flatE_len,hatl]; exact Nat.mul_one _
   have hle : j * 1 + 1 ≤ n := by omega
   have hil : (i : Int) < (cpE.at ds j).packets.length := by omega
   obtain ⟨p,hp⟩ : ∃ p,pkE.at (cpE.at ds j).packets i = p := ⟨_,rfl⟩
   rw [hp] at lP r2 hfc
   have hfc2 : 0 ≤ p.face ∧ p.face < (tbE.at (hdL ds).T j).length := ⟨hfc.1,by rw [htl]; exact hfc.2⟩
   have lF : ∀ H,loadV Try.prog 3 H (.ipt (flatE inE (tbE.at (hdL ds).T j)) (p.face.toNat * 1)) = some (.int .i64 (inE.at (tbE.at (hdL ds).T j) p.face.toNat)) := fun H => by
    rw [@ld_cell0 _ Try.prog H _ inE (tbE.at (hdL ds).T j) 3 1 p.face.toNat g3 rfl (by omega)]; rfl
   have hsp : setAt (pkE.f p) 1 [.int .i64 (inE.at (tbE.at (hdL ds).T j) p.face.toNat)] = pkE.f (mapR (hdL ds).T j p) := rfl
   obtain ⟨p',hp'⟩ : ∃ q,mapR (hdL ds).T j p = q := ⟨_,rfl⟩
   rw [hp'] at hsp r2
   have htot1 := tot_set (rowsA ds (hdL ds).T ats) j (by rw [rowsA_len]; exact hjd) r3
   rw [← r1,htm] at htot1
   obtain ⟨f,rfl⟩ : ∃ f,m = f + 1 := ⟨m - 1,by omega⟩
   have hms := mrg_step (f := f) (rows := rowsA ds (hdL ds).T ats) (j := j) (by rw [rowsA_best,hb])
   rw [r2,← r1] at hms
   have gP' := gP.app [AB.row 0 (pkE.f p') true]
   obtain ⟨vP',K',ea,qa,hkq⟩ := push_rowQ (E := pkE) (w := 5) (by_ := 64) (q := 6) (A := H ++ AB.row 0 [.str [],.nilslice,.nilslice,.nilslice,.nilslice] true :: AB.row 0 (flatE inE (ats.set j ((i : Int) + 1))) true :: [AB.row 0 [vl,.slice (H.length + 1) 0 0 n 1 .full,.str (hdL ds).note,vF,vN,vS,vP,vT] true]) (by simp) rfl gP' p' (by omega) (by omega) cl_pk
   simp only [List.append_assoc,List.cons_append,List.nil_append] at ea
   have hkq' := (KeepQ.more 6 K [AB.row 0 (pkE.f p') true]).trans hkq
   have w1 := g1.keepQ hkq' 1 cl_cp (by decide)
   have wF := gF.keepQ hkq' 2 cl_fc (by decide)
   have wN := gN.keepQ hkq' 3 cl_nm (by decide)
   have wS := gS.keepQ hkq' 4 cl_sc (by decide)
   have wT := gT.keepQ hkq' 5 cl_tb (by decide)
   have hat' : AtOk ds (ats.set j ((i : Int) + 1)) := by
    refine ⟨by rw [List.length_set]; exact hat.1,fun k hk => ?_⟩
    rw [at_set (by omega)]
    split
    ·rename_i h; subst h; omega
    ·exact hat.2 k hk
   have e56 := nx56 (H := H) (z := AB.row 0 [.str [],.nilslice,.nilslice,.nilslice,.nilslice] true) (note := (hdL ds).note) w1 wF wN wS qa wT (by omega) hat'
   rw [List.length_set,hatl] at e56
   obtain ⟨q1,q2,q3,q4,q5,q6,q7⟩ := qa.m.cell
   obtain ⟨jl,gl,rfl,hjl,hrl⟩ := g1.three hds0
   obtain ⟨jt,gt,rfl,hjt,hrt⟩ := gT.three hT0
   simp only [cpE_w,tbE_w] at ea e56
   have hge : (0 : Int) ≤ (j : Int) := by omega
   have hi100 : i ≤ 100 := by have := (hfacts _ (cpE.at_mem hjd)).2.2.1; omega
   have hy := True.intro
   repeat' (first | simp (disch := first | rfl | omega | exact lt_new _ | assumption | decide | (simp [dkS] <;> omega) | fail) only [r16_0,r16_1,r16_2,r16_3,r16_4,r16_5,r16_6,r16_7,r16_8,r16_9,r16_10,r16_11,r16_12,r16_13,r16_14,r16_15,r16_16,r16_18,r16_19,r16_20,r16_21,r16_22,r16_23,r16_24,r16_25,r16_27,r16_28,r16_29,r16_30,c16,rs16,gc16,l16_26,loadV_ptr,storeV_ptr,tkS,t4,t7,t12,hge,hjn,hjds,hjn2,gr_l hjl,gr_l hjt,hrl,hrt,lT,lA,lD,lP,hil,hfc2,lF,hsp,hset,hfl,hle,ea,e56,c1,c2,c3,c4,c5,c6,c7,f1,f2,f3,f4,f5,f6,f7,n1,n2,n3,n4,n5,n6,n7,s1,s2,s3,s4,s5,s6,s7,u1,u2,u3,u4,u5,u6,u7,p1,p2,p3,p4,p5,p6,p7,q1,q2,q3,q4,q5,q6,q7,go_sem,↓reduceIte,Nat.reduceLT,Nat.reduceEqDiff,Nat.reduceAdd,Nat.reduceMul,Nat.reduceSub,Int.reduceAdd,Int.reduceSub,Nat.reduceLeDiff,Int.reduceLT,Int.reduceLE,Int.reduceEq,Int.reduceNeg,Int.reduceToNat,hy] | ((first | refine guardB_dec (fun hy => ?_) (fun hy => ?_) | refine guardB_bool (fun hy => ?_) (fun hy => ?_) | refine guardQ_ite (fun hy => ?_) (fun hy => ?_) | refine brQ_dec (fun hy => ?_) (fun hy => ?_) | refine brQ_bool (fun hy => ?_) (fun hy => ?_)) <;> (try simp only [Bool.not_eq_true',Bool.not_eq_false',Bool.and_eq_true,Bool.or_eq_false_iff,decide_eq_true_eq,decide_eq_false_iff_not] at hy)))
   exact ⟨f,by omega,K',ats.set j ((i : Int) + 1),vP',pk ++ [p'],rfl,rfl,w1,wF,wN,wS,wT,qa,hat',by rw [List.append_assoc,List.singleton_append,← hms]; exact hmr,by omega,by rw [List.length_append]; simp; omega⟩
theorem dcom {α : Type} [DecidableEq α] (x y : α) : decide (x = y) = decide (y = x) := by
 by_cases h : x = y
 ·simp [h]
 ·rw [decide_eq_false h,decide_eq_false fun e => h e.symm]
theorem putF_any {α : Type} (S : α → α → Bool) (l : List α) (x : α) : (putF S l x).1 = if l.any (fun y => S x y) = true then l else l ++ [x] := by
 have h := findI_any (fun y => S x y) l 0 (by omega)
 unfold putF
 by_cases hn : findI (fun y => S x y) l 0 < 0
 ·rw [if_pos hn]
  rw [decide_eq_false (by omega)] at h
  rw [← h]
  rfl
 ·rw [if_neg hn]
  rw [decide_eq_true (by omega)] at h
  rw [← h]
  rfl
set_option maxHeartbeats 2000000 in
theorem fn59 {P K : Hp} {u : V} {l : List Fc} (x : Fc) (h : RowN fcE P.length K u l) (hl : l.length + 1 ≤ 2 ^ 30) : ∃ u' K',callL Try.prog pr 59 [u,.agg (fcE.f x)] (P ++ K) = some (.tup [u',.int .i64 (putF fcS l x).2],P ++ K') ∧ RowN fcE P.length K' u' (putF fcS l x).1 ∧ KeepQ 2 K K' := by
 suffices h : ∃ r,callL Try.prog pr 59 [u,.agg (fcE.f x)] (P ++ K) = some r ∧ ∃ u' K',r = (.tup [u',.int .i64 (putF fcS l x).2],P ++ K') ∧ RowN fcE P.length K' u' (putF fcS l x).1 ∧ KeepQ 2 K K' by
  obtain ⟨_,h1,u',K',rfl,h2⟩ := h; exact ⟨u',K',h1,h2⟩
 refine ex59 (Nat.le_of_ble_eq_true rfl) ?_
 obtain ⟨c1,c2,c3,c4,c5,c6,c7⟩ := h.m.cell
 obtain ⟨A,hs⟩ := sq_fcE (G := []) h
 rw [List.append_nil] at hs
 obtain ⟨_,hs1,hs2⟩ := hs
 have hs3 := fun H' => h.m.len (P := Try.prog) (t := 26) (z := 3) (by kernel_rfl) H'
 have hy := True.intro
 repeat' (first | simp (disch := first | rfl | omega | exact lt_new _ | assumption | decide | (simp [dkS] <;> omega) | fail) only [r59_0,r59_1,r59_2,r59_3,r59_4,r59_5,r59_7,c59,rs59,gc59,loadV_ptr,storeV_ptr,tkS,go_sem,↓reduceIte,Nat.reduceLT,Nat.reduceEqDiff,Nat.reduceAdd,Nat.reduceMul,Nat.reduceSub,Int.reduceAdd,Int.reduceSub,Nat.reduceLeDiff,Int.reduceLT,Int.reduceLE,Int.reduceEq,Int.reduceNeg,Int.reduceToNat,hy] | ((first | refine guardB_dec (fun hy => ?_) (fun hy => ?_) | refine guardB_bool (fun hy => ?_) (fun hy => ?_) | refine guardQ_ite (fun hy => ?_) (fun hy => ?_) | refine brQ_dec (fun hy => ?_) (fun hy => ?_) | refine brQ_bool (fun hy => ?_) (fun hy => ?_)) <;> (try simp only [Bool.not_eq_true',Bool.not_eq_false',Bool.and_eq_true,Bool.or_eq_false_iff,decide_eq_true_eq,decide_eq_false_iff_not] at hy)))
 refine Wp_loop (fun m T D H' => ∃ i,m = l.length - i ∧ i ≤ l.length ∧ D = [] ∧ H' = P ++ K ∧ get T 0 = u ∧ get T 3 = .ipt (fcE.f x) 0 ∧ get T 6 = .int .i64 i ∧ findI (fun y => fcS x y) l 0 = findI (fun y => fcS x y) (l.drop i) i) ?_ l.length _ _ _ ?_
 case refine_2 => exact ⟨0,by simp (disch := first | rfl | omega | exact lt_new _ | assumption | decide | (simp [dkS] <;> omega) | fail) only [go_sem,↓reduceIte,Nat.reduceLT,Nat.reduceEqDiff,Nat.reduceAdd,Nat.reduceMul,Nat.reduceSub,Int.reduceAdd,Int.reduceSub,Nat.reduceLeDiff,Int.reduceLT,Int.reduceLE,Int.reduceEq,Int.reduceNeg,Int.reduceToNat]; simp⟩
 rintro m T D H' ⟨i,rfl,hi,rfl,rfl,t0,t3,t6,hp⟩
 by_cases hlt : i < l.length
 ·have hlt' : (i : Int) < l.length := by omega
  have hpi := findI_drop (fun y => fcS x y) (fcE.at_some hlt) i
  obtain ⟨x1,x2⟩ := hs2 i hlt
  obtain ⟨y,hy0⟩ : ∃ y,fcE.at l i = y := ⟨_,rfl⟩
  rw [hy0] at x2 hpi
  by_cases hxy : fcS x y = true
  ·have hyx : fcS y x = true := by unfold fcS at hxy ⊢; rw [dcom]; exact hxy
   rw [if_pos hxy] at hpi
   have hput : putF fcS l x = (l,(i : Int)) := by unfold putF; rw [hp,hpi,if_neg (by omega)]
   rw [hput]
   have hy := True.intro
   repeat' (first | simp (disch := first | rfl | omega | exact lt_new _ | assumption | decide | (simp [dkS] <;> omega) | fail) only [r59_0,r59_1,r59_2,r59_3,r59_4,r59_5,l59_6,r59_7,c59,rs59,gc59,loadV_ptr,storeV_ptr,tkS,t0,t3,t6,hs3,hlt',x1,x2,hyx,c1,c2,c3,c4,c5,c6,c7,go_sem,↓reduceIte,Nat.reduceLT,Nat.reduceEqDiff,Nat.reduceAdd,Nat.reduceMul,Nat.reduceSub,Int.reduceAdd,Int.reduceSub,Nat.reduceLeDiff,Int.reduceLT,Int.reduceLE,Int.reduceEq,Int.reduceNeg,Int.reduceToNat,hy] | ((first | refine guardB_dec (fun hy => ?_) (fun hy => ?_) | refine guardB_bool (fun hy => ?_) (fun hy => ?_) | refine guardQ_ite (fun hy => ?_) (fun hy => ?_) | refine brQ_dec (fun hy => ?_) (fun hy => ?_) | refine brQ_bool (fun hy => ?_) (fun hy => ?_)) <;> (try simp only [Bool.not_eq_true',Bool.not_eq_false',Bool.and_eq_true,Bool.or_eq_false_iff,decide_eq_true_eq,decide_eq_false_iff_not] at hy)))
   exact ⟨u,K,rfl,h,KeepQ.same _ _⟩
  ·have hyx : fcS y x = false := by
    rw [Bool.not_eq_true] at hxy
    unfold fcS at hxy ⊢
    rw [dcom]
    exact hxy
   rw [if_neg hxy] at hpi
   have hy := True.intro
   repeat' (first | simp (disch := first | rfl | omega | exact lt_new _ | assumption | decide | (simp [dkS] <;> omega) | fail) only [r59_0,r59_1,r59_2,r59_3,r59_4,r59_5,l59_6,r59_7,c59,rs59,gc59,loadV_ptr,storeV_ptr,tkS,t0,t3,t6,hs3,hlt',x1,x2,hyx,c1,c2,c3,c4,c5,c6,c7,go_sem,↓reduceIte,Nat.reduceLT,Nat.reduceEqDiff,Nat.reduceAdd,Nat.reduceMul,Nat.reduceSub,Int.reduceAdd,Int.reduceSub,Nat.reduceLeDiff,Int.reduceLT,Int.reduceLE,Int.reduceEq,Int.reduceNeg,Int.reduceToNat,hy] | ((first | refine guardB_dec (fun hy => ?_) (fun hy => ?_) | refine guardB_bool (fun hy => ?_) (fun hy => ?_) | refine guardQ_ite (fun hy => ?_) (fun hy => ?_) | refine brQ_dec (fun hy => ?_) (fun hy => ?_) | refine brQ_bool (fun hy => ?_) (fun hy => ?_)) <;> (try simp only [Bool.not_eq_true',Bool.not_eq_false',Bool.and_eq_true,Bool.or_eq_false_iff,decide_eq_true_eq,decide_eq_false_iff_not] at hy)))
   exact ⟨_,by omega,i + 1,rfl,hlt,rfl,by rw [hp,hpi]; rfl⟩
 ·obtain rfl : i = l.length := by omega
  obtain ⟨u',K',ea,qa,hkq⟩ := push_rowQ (E := fcE) (w := 3) (by_ := 32) (q := 2) (A := P) rfl rfl h x (by omega) (by omega) cl_fc
  obtain ⟨j1,j2,j3,j4,j5,j6,j7⟩ := qa.m.cell
  have hput : putF fcS l x = (l ++ [x],(l.length : Int)) := by unfold putF; rw [hp,List.drop_length]; rfl
  rw [hput]
  have hy := True.intro
  repeat' (first | simp (disch := first | rfl | omega | exact lt_new _ | assumption | decide | (simp [dkS] <;> omega) | fail) only [r59_0,r59_1,r59_2,r59_3,r59_4,r59_5,l59_6,r59_7,c59,rs59,gc59,loadV_ptr,storeV_ptr,tkS,t0,t3,t6,hs3,Int.lt_irrefl,ea,c1,c2,c3,c4,c5,c6,c7,j1,j2,j3,j4,j5,j6,j7,go_sem,↓reduceIte,Nat.reduceLT,Nat.reduceEqDiff,Nat.reduceAdd,Nat.reduceMul,Nat.reduceSub,Int.reduceAdd,Int.reduceSub,Nat.reduceLeDiff,Int.reduceLT,Int.reduceLE,Int.reduceEq,Int.reduceNeg,Int.reduceToNat,hy] | ((first | refine guardB_dec (fun hy => ?_) (fun hy => ?_) | refine guardB_bool (fun hy => ?_) (fun hy => ?_) | refine guardQ_ite (fun hy => ?_) (fun hy => ?_) | refine brQ_dec (fun hy => ?_) (fun hy => ?_) | refine brQ_bool (fun hy => ?_) (fun hy => ?_)) <;> (try simp only [Bool.not_eq_true',Bool.not_eq_false',Bool.and_eq_true,Bool.or_eq_false_iff,decide_eq_true_eq,decide_eq_false_iff_not] at hy)))
  exact ⟨u',K',rfl,qa,hkq⟩
theorem fn111 (x y : Nm) (hx : NmOk x) (H : Hp) : callL Try.prog pr 111 [.agg (nmE.f x),.agg (nmE.f y)] H = some (.bool (nmS x y),H) := by
 refine run111 (Nat.le_of_ble_eq_true rfl) ?_
 unfold nmS
 have hy := True.intro
 repeat' (first | simp (disch := first | rfl | omega | exact lt_new _ | assumption | decide | (simp [dkS] <;> omega) | fail) only [r111_0,r111_1,c111,rs111,gc111,loadV_ptr,storeV_ptr,tkS,go_sem,↓reduceIte,Nat.reduceLT,Nat.reduceEqDiff,Nat.reduceAdd,Nat.reduceMul,Nat.reduceSub,Int.reduceAdd,Int.reduceSub,Nat.reduceLeDiff,Int.reduceLT,Int.reduceLE,Int.reduceEq,Int.reduceNeg,Int.reduceToNat,hy] | ((first | refine guardB_dec (fun hy => ?_) (fun hy => ?_) | refine guardB_bool (fun hy => ?_) (fun hy => ?_) | refine guardQ_ite (fun hy => ?_) (fun hy => ?_) | refine brQ_dec (fun hy => ?_) (fun hy => ?_) | refine brQ_bool (fun hy => ?_) (fun hy => ?_)) <;> (try simp only [Bool.not_eq_true',Bool.not_eq_false',Bool.and_eq_true,Bool.or_eq_false_iff,decide_eq_true_eq,decide_eq_false_iff_not] at hy)))
 all_goals (try ((first | refine finQ_same ?_ | refine finQ_app ?_ | (rw [List.append_assoc]; refine finQ_app ?_)) <;> simp (disch := first | rfl | omega | exact lt_new _ | assumption | decide | (simp [dkS] <;> omega) | fail) only [go_sem,↓reduceIte,Nat.reduceLT,Nat.reduceEqDiff,Nat.reduceAdd,Nat.reduceMul,Nat.reduceSub,Int.reduceAdd,Int.reduceSub,Nat.reduceLeDiff,Int.reduceLT,Int.reduceLE,Int.reduceEq,Int.reduceNeg,Int.reduceToNat,List.append_assoc,List.cons_append,List.nil_append, *]))
 all_goals (try first | rfl | (simp [*]; done) | grind)
set_option maxHeartbeats 4000000 in
theorem fn60 {P K : Hp} {u : V} {l more : List Nm} {b : Bool} (h : RowN nmE P.length K u l) (hm : more.length ≤ 60) (ho : ∀ x ∈ more,NmOk x) (ho2 : ∀ x ∈ l,NmOk x) (hl : l.length ≤ 2 ^ 28) : ∃ u' K',callL Try.prog pr 60 [u,slV b nmE more] (P ++ K) = some (u',P ++ K') ∧ RowN nmE P.length K' u' (putsL nmS l more) ∧ KeepQ 3 K K' := by
 suffices h : ∃ r,callL Try.prog pr 60 [u,slV b nmE more] (P ++ K) = some r ∧ ∃ u' K',r = (u',P ++ K') ∧ RowN nmE P.length K' u' (putsL nmS l more) ∧ KeepQ 3 K K' by
  obtain ⟨_,h1,u',K',rfl,h2⟩ := h; exact ⟨u',K',h1,h2⟩
 refine ex60 (Nat.le_of_ble_eq_true rfl) ?_
 have hy := True.intro
 repeat' (first | simp (disch := first | rfl | omega | exact lt_new _ | assumption | decide | (simp [dkS] <;> omega) | fail) only [r60_0,r60_1,r60_2,r60_3,r60_4,r60_5,r60_6,r60_7,r60_9,r60_10,r60_11,r60_13,c60,rs60,gc60,loadV_ptr,storeV_ptr,tkS,go_sem,↓reduceIte,Nat.reduceLT,Nat.reduceEqDiff,Nat.reduceAdd,Nat.reduceMul,Nat.reduceSub,Int.reduceAdd,Int.reduceSub,Nat.reduceLeDiff,Int.reduceLT,Int.reduceLE,Int.reduceEq,Int.reduceNeg,Int.reduceToNat,hy] | ((first | refine guardB_dec (fun hy => ?_) (fun hy => ?_) | refine guardB_bool (fun hy => ?_) (fun hy => ?_) | refine guardQ_ite (fun hy => ?_) (fun hy => ?_) | refine brQ_dec (fun hy => ?_) (fun hy => ?_) | refine brQ_bool (fun hy => ?_) (fun hy => ?_)) <;> (try simp only [Bool.not_eq_true',Bool.not_eq_false',Bool.and_eq_true,Bool.or_eq_false_iff,decide_eq_true_eq,decide_eq_false_iff_not] at hy)))
 refine Wp_loop (fun m T D H' => ∃ i K1 u1,m = more.length - i ∧ i ≤ more.length ∧ D = [] ∧ H' = P ++ K1 ∧ get T 0 = u1 ∧ get T 1 = slV b nmE more ∧ get T 5 = .int .i64 i ∧ RowN nmE P.length K1 u1 (putsL nmS l (more.take i)) ∧ KeepQ 3 K K1) ?_ more.length _ _ _ ?_
 case refine_2 => exact ⟨0,K,u,by simp (disch := first | rfl | omega | exact lt_new _ | assumption | decide | (simp [dkS] <;> omega) | fail) only [go_sem,↓reduceIte,Nat.reduceLT,Nat.reduceEqDiff,Nat.reduceAdd,Nat.reduceMul,Nat.reduceSub,Int.reduceAdd,Int.reduceSub,Nat.reduceLeDiff,Int.reduceLT,Int.reduceLE,Int.reduceEq,Int.reduceNeg,Int.reduceToNat]; exact ⟨Nat.zero_le _,h,KeepQ.same _ _⟩⟩
 clear h
 rintro m T D H' ⟨i,K1,u1,rfl,hi,rfl,rfl,t0,t1,t5,h,hkq⟩
 obtain ⟨c1,c2,c3,c4,c5,c6,c7⟩ := h.m.cell
 by_cases hlt : i < more.length
 ·have hlt' : (i : Int) < more.length := by omega
  have hox := ho _ (nmE.at_mem hlt)
  have hsn := putsL_snoc nmE nmS l hlt
  have lM := fun H => ld_nmE (H := H) hlt
  have hol : ∀ y ∈ putsL nmS l (more.take i),NmOk y := fun y hy => by
   rcases putsL_mem hy with h1 | h1
   ·exact ho2 y h1
   ·exact ho y (List.mem_of_mem_take h1)
  have hll := putsL_len nmS (more.take i) l
  rw [List.length_take_of_le hi] at hll
  obtain ⟨x,hx⟩ : ∃ x,nmE.at more i = x := ⟨_,rfl⟩
  obtain ⟨lc,hlc⟩ : ∃ lc,putsL nmS l (more.take i) = lc := ⟨_,rfl⟩
  rw [hx] at lM hsn hox
  rw [hlc] at h hsn hol hll
  obtain ⟨A,hs⟩ := sq_nmE (G := []) h
  rw [List.append_nil] at hs
  obtain ⟨_,hs1,hs2⟩ := hs
  have hs3 := fun H' => h.m.len (P := Try.prog) (t := 27) (z := 2) (by kernel_rfl) H'
  have hy := True.intro
  repeat' (first | simp (disch := first | rfl | omega | exact lt_new _ | assumption | decide | (simp [dkS] <;> omega) | fail) only [r60_0,r60_1,r60_2,r60_3,r60_4,r60_5,r60_6,r60_7,r60_9,r60_10,r60_11,r60_13,c60,rs60,gc60,l60_12,loadV_ptr,storeV_ptr,tkS,t0,t1,t5,hlt',lM,go_sem,↓reduceIte,Nat.reduceLT,Nat.reduceEqDiff,Nat.reduceAdd,Nat.reduceMul,Nat.reduceSub,Int.reduceAdd,Int.reduceSub,Nat.reduceLeDiff,Int.reduceLT,Int.reduceLE,Int.reduceEq,Int.reduceNeg,Int.reduceToNat,hy] | ((first | refine guardB_dec (fun hy => ?_) (fun hy => ?_) | refine guardB_bool (fun hy => ?_) (fun hy => ?_) | refine guardQ_ite (fun hy => ?_) (fun hy => ?_) | refine brQ_dec (fun hy => ?_) (fun hy => ?_) | refine brQ_bool (fun hy => ?_) (fun hy => ?_)) <;> (try simp only [Bool.not_eq_true',Bool.not_eq_false',Bool.and_eq_true,Bool.or_eq_false_iff,decide_eq_true_eq,decide_eq_false_iff_not] at hy)))
  refine Wp_loop (fun m T D H' => ∃ n,m = lc.length - n ∧ n ≤ lc.length ∧ D = [] ∧ H' = P ++ K1 ∧ get T 0 = u1 ∧ get T 1 = slV b nmE more ∧ get T 5 = .int .i64 i ∧ get T 6 = .bool ((lc.take n).any fun y => nmS x y) ∧ get T 7 = .int .i64 n) ?_ lc.length _ _ _ ?_
  case refine_2 => exact ⟨0,by simp (disch := first | rfl | omega | exact lt_new _ | assumption | decide | (simp [dkS] <;> omega) | fail) only [go_sem,↓reduceIte,Nat.reduceLT,Nat.reduceEqDiff,Nat.reduceAdd,Nat.reduceMul,Nat.reduceSub,Int.reduceAdd,Int.reduceSub,Nat.reduceLeDiff,Int.reduceLT,Int.reduceLE,Int.reduceEq,Int.reduceNeg,Int.reduceToNat,t0,t1,t5]; simp⟩
  clear t0 t1 t5
  rintro m T D H' ⟨n,rfl,hn,rfl,rfl,t0,t1,t5,t6,t7⟩
  by_cases hln : n < lc.length
  ·have hln' : (n : Int) < lc.length := by omega
   obtain ⟨x1,x2⟩ := hs2 n hln
   have hoy := hol _ (nmE.at_mem hln)
   have hta : ((lc.take (n + 1)).any fun y => nmS x y) = (((lc.take n).any fun y => nmS x y) || nmS x (nmE.at lc n)) := by
    rw [nmE.take_at hln,List.any_append]; simp
   obtain ⟨y,hy0⟩ : ∃ y,nmE.at lc n = y := ⟨_,rfl⟩
   rw [hy0] at x2 hoy hta
   have hsy : nmS y x = nmS x y := by unfold nmS; rw [dcom y.text,dcom y.addr]
   have h111 := fun H => fn111 y x hoy H
   rw [hsy] at h111
   cases hb : (lc.take n).any fun y => nmS x y with
   | true =>
    rw [hb] at t6 hta
    have hy := True.intro
    repeat' (first | simp (disch := first | rfl | omega | exact lt_new _ | assumption | decide | (simp [dkS] <;> omega) | fail) only [r60_0,r60_1,r60_2,r60_3,r60_4,r60_5,r60_6,r60_7,r60_9,r60_10,r60_11,r60_13,c60,rs60,gc60,l60_8,loadV_ptr,storeV_ptr,tkS,t0,t1,t5,t6,t7,hlt',hln',hs3,lM,x1,x2,h111,c1,c2,c3,c4,c5,c6,c7,go_sem,↓reduceIte,Nat.reduceLT,Nat.reduceEqDiff,Nat.reduceAdd,Nat.reduceMul,Nat.reduceSub,Int.reduceAdd,Int.reduceSub,Nat.reduceLeDiff,Int.reduceLT,Int.reduceLE,Int.reduceEq,Int.reduceNeg,Int.reduceToNat,hy] | ((first | refine guardB_dec (fun hy => ?_) (fun hy => ?_) | refine guardB_bool (fun hy => ?_) (fun hy => ?_) | refine guardQ_ite (fun hy => ?_) (fun hy => ?_) | refine brQ_dec (fun hy => ?_) (fun hy => ?_) | refine brQ_bool (fun hy => ?_) (fun hy => ?_)) <;> (try simp only [Bool.not_eq_true',Bool.not_eq_false',Bool.and_eq_true,Bool.or_eq_false_iff,decide_eq_true_eq,decide_eq_false_iff_not] at hy)))
    exact ⟨_,by omega,n + 1,rfl,hln,by rw [hta]; rfl,rfl⟩
   | false =>
    rw [hb] at t6 hta
    have hy := True.intro
    repeat' (first | simp (disch := first | rfl | omega | exact lt_new _ | assumption | decide | (simp [dkS] <;> omega) | fail) only [r60_0,r60_1,r60_2,r60_3,r60_4,r60_5,r60_6,r60_7,r60_9,r60_10,r60_11,r60_13,c60,rs60,gc60,l60_8,loadV_ptr,storeV_ptr,tkS,t0,t1,t5,t6,t7,hlt',hln',hs3,lM,x1,x2,h111,c1,c2,c3,c4,c5,c6,c7,go_sem,↓reduceIte,Nat.reduceLT,Nat.reduceEqDiff,Nat.reduceAdd,Nat.reduceMul,Nat.reduceSub,Int.reduceAdd,Int.reduceSub,Nat.reduceLeDiff,Int.reduceLT,Int.reduceLE,Int.reduceEq,Int.reduceNeg,Int.reduceToNat,hy] | ((first | refine guardB_dec (fun hy => ?_) (fun hy => ?_) | refine guardB_bool (fun hy => ?_) (fun hy => ?_) | refine guardQ_ite (fun hy => ?_) (fun hy => ?_) | refine brQ_dec (fun hy => ?_) (fun hy => ?_) | refine brQ_bool (fun hy => ?_) (fun hy => ?_)) <;> (try simp only [Bool.not_eq_true',Bool.not_eq_false',Bool.and_eq_true,Bool.or_eq_false_iff,decide_eq_true_eq,decide_eq_false_iff_not] at hy)))
    exact ⟨_,by omega,n + 1,rfl,hln,by rw [hta]; rfl,rfl⟩
  ·obtain rfl : n = lc.length := by omega
   rw [List.take_length] at t6
   have hpa := putF_any nmS lc x
   rw [hpa] at hsn
   cases hb : lc.any fun y => nmS x y with
   | true =>
    rw [hb] at t6 hsn
    rw [if_pos rfl] at hsn
    have hy := True.intro
    repeat' (first | simp (disch := first | rfl | omega | exact lt_new _ | assumption | decide | (simp [dkS] <;> omega) | fail) only [r60_0,r60_1,r60_2,r60_3,r60_4,r60_5,r60_6,r60_7,r60_9,r60_10,r60_11,r60_13,c60,rs60,gc60,l60_8,loadV_ptr,storeV_ptr,tkS,t0,t1,t5,t6,t7,hlt',hs3,Int.lt_irrefl,lM,c1,c2,c3,c4,c5,c6,c7,go_sem,↓reduceIte,Nat.reduceLT,Nat.reduceEqDiff,Nat.reduceAdd,Nat.reduceMul,Nat.reduceSub,Int.reduceAdd,Int.reduceSub,Nat.reduceLeDiff,Int.reduceLT,Int.reduceLE,Int.reduceEq,Int.reduceNeg,Int.reduceToNat,hy] | ((first | refine guardB_dec (fun hy => ?_) (fun hy => ?_) | refine guardB_bool (fun hy => ?_) (fun hy => ?_) | refine guardQ_ite (fun hy => ?_) (fun hy => ?_) | refine brQ_dec (fun hy => ?_) (fun hy => ?_) | refine brQ_bool (fun hy => ?_) (fun hy => ?_)) <;> (try simp only [Bool.not_eq_true',Bool.not_eq_false',Bool.and_eq_true,Bool.or_eq_false_iff,decide_eq_true_eq,decide_eq_false_iff_not] at hy)))
    exact ⟨_,by omega,i + 1,K1,u1,rfl,hlt,rfl,rfl,rfl,by rw [hsn]; exact h,hkq⟩
   | false =>
    rw [hb] at t6 hsn
    rw [if_neg (by decide)] at hsn
    obtain ⟨u',K',ea,qa,hkq'⟩ := push_rowQ (E := nmE) (w := 2) (by_ := 40) (q := 3) (A := P) rfl rfl h x (by omega) (by omega) cl_nm
    obtain ⟨j1,j2,j3,j4,j5,j6,j7⟩ := qa.m.cell
    have hy := True.intro
    repeat' (first | simp (disch := first | rfl | omega | exact lt_new _ | assumption | decide | (simp [dkS] <;> omega) | fail) only [r60_0,r60_1,r60_2,r60_3,r60_4,r60_5,r60_6,r60_7,r60_9,r60_10,r60_11,r60_13,c60,rs60,gc60,l60_8,loadV_ptr,storeV_ptr,tkS,t0,t1,t5,t6,t7,hlt',hs3,Int.lt_irrefl,lM,ea,c1,c2,c3,c4,c5,c6,c7,j1,j2,j3,j4,j5,j6,j7,go_sem,↓reduceIte,Nat.reduceLT,Nat.reduceEqDiff,Nat.reduceAdd,Nat.reduceMul,Nat.reduceSub,Int.reduceAdd,Int.reduceSub,Nat.reduceLeDiff,Int.reduceLT,Int.reduceLE,Int.reduceEq,Int.reduceNeg,Int.reduceToNat,hy] | ((first | refine guardB_dec (fun hy => ?_) (fun hy => ?_) | refine guardB_bool (fun hy => ?_) (fun hy => ?_) | refine guardQ_ite (fun hy => ?_) (fun hy => ?_) | refine brQ_dec (fun hy => ?_) (fun hy => ?_) | refine brQ_bool (fun hy => ?_) (fun hy => ?_)) <;> (try simp only [Bool.not_eq_true',Bool.not_eq_false',Bool.and_eq_true,Bool.or_eq_false_iff,decide_eq_true_eq,decide_eq_false_iff_not] at hy)))
    exact ⟨_,by omega,i + 1,K',u',rfl,hlt,rfl,rfl,rfl,by rw [hsn]; exact qa,hkq.trans hkq'⟩
 ·obtain rfl : i = more.length := by omega
  rw [List.take_length] at h
  have hy := True.intro
  repeat' (first | simp (disch := first | rfl | omega | exact lt_new _ | assumption | decide | (simp [dkS] <;> omega) | fail) only [r60_0,r60_1,r60_2,r60_3,r60_4,r60_5,r60_6,r60_7,r60_9,r60_10,r60_11,r60_13,c60,rs60,gc60,l60_12,loadV_ptr,storeV_ptr,tkS,t0,t1,t5,Int.lt_irrefl,c1,c2,c3,c4,c5,c6,c7,go_sem,↓reduceIte,Nat.reduceLT,Nat.reduceEqDiff,Nat.reduceAdd,Nat.reduceMul,Nat.reduceSub,Int.reduceAdd,Int.reduceSub,Nat.reduceLeDiff,Int.reduceLT,Int.reduceLE,Int.reduceEq,Int.reduceNeg,Int.reduceToNat,hy] | ((first | refine guardB_dec (fun hy => ?_) (fun hy => ?_) | refine guardB_bool (fun hy => ?_) (fun hy => ?_) | refine guardQ_ite (fun hy => ?_) (fun hy => ?_) | refine brQ_dec (fun hy => ?_) (fun hy => ?_) | refine brQ_bool (fun hy => ?_) (fun hy => ?_)) <;> (try simp only [Bool.not_eq_true',Bool.not_eq_false',Bool.and_eq_true,Bool.or_eq_false_iff,decide_eq_true_eq,decide_eq_false_iff_not] at hy)))
  exact ⟨u1,K1,rfl,h,hkq⟩
theorem fn112 (x y : Sc) (hx : ScOk x) (H : Hp) : callL Try.prog pr 112 [.agg (scE.f x),.agg (scE.f y)] H = some (.bool (scS x y),H) := by
 refine run112 (Nat.le_of_ble_eq_true rfl) ?_
 unfold scS
 have hy := True.intro
 repeat' (first | simp (disch := first | rfl | omega | exact lt_new _ | assumption | decide | (simp [dkS] <;> omega) | fail) only [r112_0,r112_1,c112,rs112,gc112,loadV_ptr,storeV_ptr,tkS,go_sem,↓reduceIte,Nat.reduceLT,Nat.reduceEqDiff,Nat.reduceAdd,Nat.reduceMul,Nat.reduceSub,Int.reduceAdd,Int.reduceSub,Nat.reduceLeDiff,Int.reduceLT,Int.reduceLE,Int.reduceEq,Int.reduceNeg,Int.reduceToNat,hy] | ((first | refine guardB_dec (fun hy => ?_) (fun hy => ?_) | refine guardB_bool (fun hy => ?_) (fun hy => ?_) | refine guardQ_ite (fun hy => ?_) (fun hy => ?_) | refine brQ_dec (fun hy => ?_) (fun hy => ?_) | refine brQ_bool (fun hy => ?_) (fun hy => ?_)) <;> (try simp only [Bool.not_eq_true',Bool.not_eq_false',Bool.and_eq_true,Bool.or_eq_false_iff,decide_eq_true_eq,decide_eq_false_iff_not] at hy)))
 all_goals (try ((first | refine finQ_same ?_ | refine finQ_app ?_ | (rw [List.append_assoc]; refine finQ_app ?_)) <;> simp (disch := first | rfl | omega | exact lt_new _ | assumption | decide | (simp [dkS] <;> omega) | fail) only [go_sem,↓reduceIte,Nat.reduceLT,Nat.reduceEqDiff,Nat.reduceAdd,Nat.reduceMul,Nat.reduceSub,Int.reduceAdd,Int.reduceSub,Nat.reduceLeDiff,Int.reduceLT,Int.reduceLE,Int.reduceEq,Int.reduceNeg,Int.reduceToNat,List.append_assoc,List.cons_append,List.nil_append, *]))
 all_goals (try first | rfl | (simp [*]; done) | grind)
set_option maxHeartbeats 4000000 in
theorem fn61 {P K : Hp} {u : V} {l more : List Sc} {b : Bool} (h : RowN scE P.length K u l) (hm : more.length ≤ 60) (ho : ∀ x ∈ more,ScOk x) (ho2 : ∀ x ∈ l,ScOk x) (hl : l.length ≤ 2 ^ 28) : ∃ u' K',callL Try.prog pr 61 [u,slV b scE more] (P ++ K) = some (u',P ++ K') ∧ RowN scE P.length K' u' (putsL scS l more) ∧ KeepQ 4 K K' := by
 suffices h : ∃ r,callL Try.prog pr 61 [u,slV b scE more] (P ++ K) = some r ∧ ∃ u' K',r = (u',P ++ K') ∧ RowN scE P.length K' u' (putsL scS l more) ∧ KeepQ 4 K K' by
  obtain ⟨_,h1,u',K',rfl,h2⟩ := h; exact ⟨u',K',h1,h2⟩
 refine ex61 (Nat.le_of_ble_eq_true rfl) ?_
 have hy := True.intro
 repeat' (first | simp (disch := first | rfl | omega | exact lt_new _ | assumption | decide | (simp [dkS] <;> omega) | fail) only [r61_0,r61_1,r61_2,r61_3,r61_4,r61_5,r61_6,r61_7,r61_9,r61_10,r61_11,r61_13,c61,rs61,gc61,loadV_ptr,storeV_ptr,tkS,go_sem,↓reduceIte,Nat.reduceLT,Nat.reduceEqDiff,Nat.reduceAdd,Nat.reduceMul,Nat.reduceSub,Int.reduceAdd,Int.reduceSub,Nat.reduceLeDiff,Int.reduceLT,Int.reduceLE,Int.reduceEq,Int.reduceNeg,Int.reduceToNat,hy] | ((first | refine guardB_dec (fun hy => ?_) (fun hy => ?_) | refine guardB_bool (fun hy => ?_) (fun hy => ?_) | refine guardQ_ite (fun hy => ?_) (fun hy => ?_) | refine brQ_dec (fun hy => ?_) (fun hy => ?_) | refine brQ_bool (fun hy => ?_) (fun hy => ?_)) <;> (try simp only [Bool.not_eq_true',Bool.not_eq_false',Bool.and_eq_true,Bool.or_eq_false_iff,decide_eq_true_eq,decide_eq_false_iff_not] at hy)))
 refine Wp_loop (fun m T D H' => ∃ i K1 u1,m = more.length - i ∧ i ≤ more.length ∧ D = [] ∧ H' = P ++ K1 ∧ get T 0 = u1 ∧ get T 1 = slV b scE more ∧ get T 5 = .int .i64 i ∧ RowN scE P.length K1 u1 (putsL scS l (more.take i)) ∧ KeepQ 4 K K1) ?_ more.length _ _ _ ?_
 case refine_2 => exact ⟨0,K,u,by simp (disch := first | rfl | omega | exact lt_new _ | assumption | decide | (simp [dkS] <;> omega) | fail) only [go_sem,↓reduceIte,Nat.reduceLT,Nat.reduceEqDiff,Nat.reduceAdd,Nat.reduceMul,Nat.reduceSub,Int.reduceAdd,Int.reduceSub,Nat.reduceLeDiff,Int.reduceLT,Int.reduceLE,Int.reduceEq,Int.reduceNeg,Int.reduceToNat]; exact ⟨Nat.zero_le _,h,KeepQ.same _ _⟩⟩
 clear h
 rintro m T D H' ⟨i,K1,u1,rfl,hi,rfl,rfl,t0,t1,t5,h,hkq⟩
 obtain ⟨c1,c2,c3,c4,c5,c6,c7⟩ := h.m.cell
 by_cases hlt : i < more.length
 ·have hlt' : (i : Int) < more.length := by omega
  have hox := ho _ (scE.at_mem hlt)
  have hsn := putsL_snoc scE scS l hlt
  have lM := fun H => ld_scE (H := H) hlt
  have hol : ∀ y ∈ putsL scS l (more.take i),ScOk y := fun y hy => by
   rcases putsL_mem hy with h1 | h1
   ·exact ho2 y h1
   ·exact ho y (List.mem_of_mem_take h1)
  have hll := putsL_len scS (more.take i) l
  rw [List.length_take_of_le hi] at hll
  obtain ⟨x,hx⟩ : ∃ x,scE.at more i = x := ⟨_,rfl⟩
  obtain ⟨lc,hlc⟩ : ∃ lc,putsL scS l (more.take i) = lc := ⟨_,rfl⟩
  rw [hx] at lM hsn hox
  rw [hlc] at h hsn hol hll
  obtain ⟨A,hs⟩ := sq_scE (G := []) h
  rw [List.append_nil] at hs
  obtain ⟨_,hs1,hs2⟩ := hs
  have hs3 := fun H' => h.m.len (P := Try.prog) (t := 28) (z := 2) (by kernel_rfl) H'
  have hy := True.intro
  repeat' (first | simp (disch := first | rfl | omega | exact lt_new _ | assumption | decide | (simp [dkS] <;> omega) | fail) only [r61_0,r61_1,r61_2,r61_3,r61_4,r61_5,r61_6,r61_7,r61_9,r61_10,r61_11,r61_13,c61,rs61,gc61,l61_12,loadV_ptr,storeV_ptr,tkS,t0,t1,t5,hlt',lM,go_sem,↓reduceIte,Nat.reduceLT,Nat.reduceEqDiff,Nat.reduceAdd,Nat.reduceMul,Nat.reduceSub,Int.reduceAdd,Int.reduceSub,Nat.reduceLeDiff,Int.reduceLT,Int.reduceLE,Int.reduceEq,Int.reduceNeg,Int.reduceToNat,hy] | ((first | refine guardB_dec (fun hy => ?_) (fun hy => ?_) | refine guardB_bool (fun hy => ?_) (fun hy => ?_) | refine guardQ_ite (fun hy => ?_) (fun hy => ?_) | refine brQ_dec (fun hy => ?_) (fun hy => ?_) | refine brQ_bool (fun hy => ?_) (fun hy => ?_)) <;> (try simp only [Bool.not_eq_true',Bool.not_eq_false',Bool.and_eq_true,Bool.or_eq_false_iff,decide_eq_true_eq,decide_eq_false_iff_not] at hy)))
  refine Wp_loop (fun m T D H' => ∃ n,m = lc.length - n ∧ n ≤ lc.length ∧ D = [] ∧ H' = P ++ K1 ∧ get T 0 = u1 ∧ get T 1 = slV b scE more ∧ get T 5 = .int .i64 i ∧ get T 6 = .bool ((lc.take n).any fun y => scS x y) ∧ get T 7 = .int .i64 n) ?_ lc.length _ _ _ ?_
  case refine_2 => exact ⟨0,by simp (disch := first | rfl | omega | exact lt_new _ | assumption | decide | (simp [dkS] <;> omega) | fail) only [go_sem,↓reduceIte,Nat.reduceLT,Nat.reduceEqDiff,Nat.reduceAdd,Nat.reduceMul,Nat.reduceSub,Int.reduceAdd,Int.reduceSub,Nat.reduceLeDiff,Int.reduceLT,Int.reduceLE,Int.reduceEq,Int.reduceNeg,Int.reduceToNat,t0,t1,t5]; simp⟩
  clear t0 t1 t5
  rintro m T D H' ⟨n,rfl,hn,rfl,rfl,t0,t1,t5,t6,t7⟩
  by_cases hln : n < lc.length
  ·have hln' : (n : Int) < lc.length := by omega
   obtain ⟨x1,x2⟩ := hs2 n hln
   have hoy := hol _ (scE.at_mem hln)
   have hta : ((lc.take (n + 1)).any fun y => scS x y) = (((lc.take n).any fun y => scS x y) || scS x (scE.at lc n)) := by
    rw [scE.take_at hln,List.any_append]; simp
   obtain ⟨y,hy0⟩ : ∃ y,scE.at lc n = y := ⟨_,rfl⟩
   rw [hy0] at x2 hoy hta
   have hsy : scS y x = scS x y := by unfold scS; rw [dcom y.label,dcom y.key]
   have h111 := fun H => fn112 y x hoy H
   rw [hsy] at h111
   cases hb : (lc.take n).any fun y => scS x y with
   | true =>
    rw [hb] at t6 hta
    have hy := True.intro
    repeat' (first | simp (disch := first | rfl | omega | exact lt_new _ | assumption | decide | (simp [dkS] <;> omega) | fail) only [r61_0,r61_1,r61_2,r61_3,r61_4,r61_5,r61_6,r61_7,r61_9,r61_10,r61_11,r61_13,c61,rs61,gc61,l61_8,loadV_ptr,storeV_ptr,tkS,t0,t1,t5,t6,t7,hlt',hln',hs3,lM,x1,x2,h111,c1,c2,c3,c4,c5,c6,c7,go_sem,↓reduceIte,Nat.reduceLT,Nat.reduceEqDiff,Nat.reduceAdd,Nat.reduceMul,Nat.reduceSub,Int.reduceAdd,Int.reduceSub,Nat.reduceLeDiff,Int.reduceLT,Int.reduceLE,Int.reduceEq,Int.reduceNeg,Int.reduceToNat,hy] | ((first | refine guardB_dec (fun hy => ?_) (fun hy => ?_) | refine guardB_bool (fun hy => ?_) (fun hy => ?_) | refine guardQ_ite (fun hy => ?_) (fun hy => ?_) | refine brQ_dec (fun hy => ?_) (fun hy => ?_) | refine brQ_bool (fun hy => ?_) (fun hy => ?_)) <;> (try simp only [Bool.not_eq_true',Bool.not_eq_false',Bool.and_eq_true,Bool.or_eq_false_iff,decide_eq_true_eq,decide_eq_false_iff_not] at hy)))
    exact ⟨_,by omega,n + 1,rfl,hln,by rw [hta]; rfl,rfl⟩
   | false =>
    rw [hb] at t6 hta
    have hy := True.intro
    repeat' (first | simp (disch := first | rfl | omega | exact lt_new _ | assumption | decide | (simp [dkS] <;> omega) | fail) only [r61_0,r61_1,r61_2,r61_3,r61_4,r61_5,r61_6,r61_7,r61_9,r61_10,r61_11,r61_13,c61,rs61,gc61,l61_8,loadV_ptr,storeV_ptr,tkS,t0,t1,t5,t6,t7,hlt',hln',hs3,lM,x1,x2,h111,c1,c2,c3,c4,c5,c6,c7,go_sem,↓reduceIte,Nat.reduceLT,Nat.reduceEqDiff,Nat.reduceAdd,Nat.reduceMul,Nat.reduceSub,Int.reduceAdd,Int.reduceSub,Nat.reduceLeDiff,Int.reduceLT,Int.reduceLE,Int.reduceEq,Int.reduceNeg,Int.reduceToNat,hy] | ((first | refine guardB_dec (fun hy => ?_) (fun hy => ?_) | refine guardB_bool (fun hy => ?_) (fun hy => ?_) | refine guardQ_ite (fun hy => ?_) (fun hy => ?_) | refine brQ_dec (fun hy => ?_) (fun hy => ?_) | refine brQ_bool (fun hy => ?_) (fun hy => ?_)) <;> (try simp only [Bool.not_eq_true',Bool.not_eq_false',Bool.and_eq_true,Bool.or_eq_false_iff,decide_eq_true_eq,decide_eq_false_iff_not] at hy)))
    exact ⟨_,by omega,n + 1,rfl,hln,by rw [hta]; rfl,rfl⟩
  ·obtain rfl : n = lc.length := by omega
   rw [List.take_length] at t6
   have hpa := putF_any scS lc x
   rw [hpa] at hsn
   cases hb : lc.any fun y => scS x y with
   | true =>
    rw [hb] at t6 hsn
    rw [if_pos rfl] at hsn
    have hy := True.intro
    repeat' (first | simp (disch := first | rfl | omega | exact lt_new _ | assumption | decide | (simp [dkS] <;> omega) | fail) only [r61_0,r61_1,r61_2,r61_3,r61_4,r61_5,r61_6,r61_7,r61_9,r61_10,r61_11,r61_13,c61,rs61,gc61,l61_8,loadV_ptr,storeV_ptr,tkS,t0,t1,t5,t6,t7,hlt',hs3,Int.lt_irrefl,lM,c1,c2,c3,c4,c5,c6,c7,go_sem,↓reduceIte,Nat.reduceLT,Nat.reduceEqDiff,Nat.reduceAdd,Nat.reduceMul,Nat.reduceSub,Int.reduceAdd,Int.reduceSub,Nat.reduceLeDiff,Int.reduceLT,Int.reduceLE,Int.reduceEq,Int.reduceNeg,Int.reduceToNat,hy] | ((first | refine guardB_dec (fun hy => ?_) (fun hy => ?_) | refine guardB_bool (fun hy => ?_) (fun hy => ?_) | refine guardQ_ite (fun hy => ?_) (fun hy => ?_) | refine brQ_dec (fun hy => ?_) (fun hy => ?_) | refine brQ_bool (fun hy => ?_) (fun hy => ?_)) <;> (try simp only [Bool.not_eq_true',Bool.not_eq_false',Bool.and_eq_true,Bool.or_eq_false_iff,decide_eq_true_eq,decide_eq_false_iff_not] at hy)))
    exact ⟨_,by omega,i + 1,K1,u1,rfl,hlt,rfl,rfl,rfl,by rw [hsn]; exact h,hkq⟩
   | false =>
    rw [hb] at t6 hsn
    rw [if_neg (by decide)] at hsn
    obtain ⟨u',K',ea,qa,hkq'⟩ := push_rowQ (E := scE) (w := 2) (by_ := 40) (q := 4) (A := P) rfl rfl h x (by omega) (by omega) cl_sc
    obtain ⟨j1,j2,j3,j4,j5,j6,j7⟩ := qa.m.cell
    have hy := True.intro
    repeat' (first | simp (disch := first | rfl | omega | exact lt_new _ | assumption | decide | (simp [dkS] <;> omega) | fail) only [r61_0,r61_1,r61_2,r61_3,r61_4,r61_5,r61_6,r61_7,r61_9,r61_10,r61_11,r61_13,c61,rs61,gc61,l61_8,loadV_ptr,storeV_ptr,tkS,t0,t1,t5,t6,t7,hlt',hs3,Int.lt_irrefl,lM,ea,c1,c2,c3,c4,c5,c6,c7,j1,j2,j3,j4,j5,j6,j7,go_sem,↓reduceIte,Nat.reduceLT,Nat.reduceEqDiff,Nat.reduceAdd,Nat.reduceMul,Nat.reduceSub,Int.reduceAdd,Int.reduceSub,Nat.reduceLeDiff,Int.reduceLT,Int.reduceLE,Int.reduceEq,Int.reduceNeg,Int.reduceToNat,hy] | ((first | refine guardB_dec (fun hy => ?_) (fun hy => ?_) | refine guardB_bool (fun hy => ?_) (fun hy => ?_) | refine guardQ_ite (fun hy => ?_) (fun hy => ?_) | refine brQ_dec (fun hy => ?_) (fun hy => ?_) | refine brQ_bool (fun hy => ?_) (fun hy => ?_)) <;> (try simp only [Bool.not_eq_true',Bool.not_eq_false',Bool.and_eq_true,Bool.or_eq_false_iff,decide_eq_true_eq,decide_eq_false_iff_not] at hy)))
    exact ⟨_,by omega,i + 1,K',u',rfl,hlt,rfl,rfl,rfl,by rw [hsn]; exact qa,hkq.trans hkq'⟩
 ·obtain rfl : i = more.length := by omega
  rw [List.take_length] at h
  have hy := True.intro
  repeat' (first | simp (disch := first | rfl | omega | exact lt_new _ | assumption | decide | (simp [dkS] <;> omega) | fail) only [r61_0,r61_1,r61_2,r61_3,r61_4,r61_5,r61_6,r61_7,r61_9,r61_10,r61_11,r61_13,c61,rs61,gc61,l61_12,loadV_ptr,storeV_ptr,tkS,t0,t1,t5,Int.lt_irrefl,c1,c2,c3,c4,c5,c6,c7,go_sem,↓reduceIte,Nat.reduceLT,Nat.reduceEqDiff,Nat.reduceAdd,Nat.reduceMul,Nat.reduceSub,Int.reduceAdd,Int.reduceSub,Nat.reduceLeDiff,Int.reduceLT,Int.reduceLE,Int.reduceEq,Int.reduceNeg,Int.reduceToNat,hy] | ((first | refine guardB_dec (fun hy => ?_) (fun hy => ?_) | refine guardB_bool (fun hy => ?_) (fun hy => ?_) | refine guardQ_ite (fun hy => ?_) (fun hy => ?_) | refine brQ_dec (fun hy => ?_) (fun hy => ?_) | refine brQ_bool (fun hy => ?_) (fun hy => ?_)) <;> (try simp only [Bool.not_eq_true',Bool.not_eq_false',Bool.and_eq_true,Bool.or_eq_false_iff,decide_eq_true_eq,decide_eq_false_iff_not] at hy)))
  exact ⟨u1,K1,rfl,h,hkq⟩
def rwE : Enc (Bool × List Pk) := ⟨fun r => [slV r.1 pkE r.2],1,(true,[]),fun _ => rfl,by decide,fun p => by simp only [immL,slV_imm]; rfl⟩
theorem rwE_f (r : Bool × List Pk) : rwE.f r = [slV r.1 pkE r.2] := rfl
@[go_sem] theorem rwE_w : rwE.w = 1 := rfl
theorem cl_rw {l : List (Bool × List Pk)} (h : l ≠ []) : cl (flatE rwE l) = 5 := by
 cases l with
 | nil => exact absurd rfl h
 | cons p l =>
  cases l with
  | nil => rw [flatE_cons,rwE_f]; simp [cl,kd_int,kd_str,kd_sl,flatE]
  | cons q l => rw [flatE_cons,flatE_cons,rwE_f,rwE_f]; simp [cl,kd_int,kd_str,kd_sl]
def mp (tb : List Int) (p : Pk) : Pk := {p with face := inE.at tb p.face.toNat}
set_option maxHeartbeats 4000000 in
theorem rl1 {H K0 : Hp} {z : AB} {vF w2 w3 w4 : V} {note : List UInt8} {F0 : List Fc} {ls : List Cp} {b : Bool} {a1 a4 a5 a8 : V} {t0 k : Nat} {c : Cp} {T : Fr} {Q : Ex → Fr → Dfr → Hp → Prop}
  (h0 : get T 0 = slV b cpE ls) (h1 : get T 1 = a1) (h4 : get T 4 = a4) (h5 : get T 5 = a5) (h7 : get T 7 = .ptr (H.length + 1) 0 0) (h8 : get T 8 = a8) (h9 : get T 9 = .int .i64 k) (h10 : get T 10 = osV (H.length + (t0 + 1 + 1)) inE []) (h11 : get T 11 = .int .i64 0)
  (hk : k < ls.length) (hc : cpE.at ls k = c) (hF : RowN fcE (H.length + 2) K0 vF F0) (ht : K0[t0]? = some (.tok 0)) (hx : c.faces.length ≤ 4) (hF0 : F0.length ≤ 2 ^ 25)
  (hQ : ∀ T' K' vF',get T' 0 = slV b cpE ls → get T' 1 = a1 → get T' 4 = a4 → get T' 5 = a5 → get T' 7 = .ptr (H.length + 1) 0 0 → get T' 8 = a8 → get T' 9 = .int .i64 k → get T' 10 = osV (H.length + (t0 + 1 + 1)) inE (putsB F0 c.faces).2 → RowN fcE (H.length + 2) K' vF' (putsB F0 c.faces).1 → KeepR 2 K0 K' → Q (.exit 2) T' [] (H ++ z :: AB.row 0 [.str note,vF',w2,w3,w4] true :: K')) :
  Wp Try.prog (callL Try.prog pr) 209 l17_21.loop T [] (H ++ z :: AB.row 0 [.str note,vF,w2,w3,w4] true :: K0) Q := by
 have hkl : (k : Int) < ls.length := by omega
 have lF : ∀ H,loadV Try.prog 26 H (.ipt (flatE cpE ls) (k * 5 + 1)) = some (slV c.facesN fcE c.faces) := fun H => by rw [← hc]; exact ld_cpE_1 (H := H) hk
 refine Wp_loop (fun m T D H' => ∃ i K vF,m = c.faces.length - i ∧ i ≤ c.faces.length ∧ D = [] ∧ H' = H ++ z :: AB.row 0 [.str note,vF,w2,w3,w4] true :: K ∧ get T 0 = slV b cpE ls ∧ get T 1 = a1 ∧ get T 4 = a4 ∧ get T 5 = a5 ∧ get T 7 = .ptr (H.length + 1) 0 0 ∧ get T 8 = a8 ∧ get T 9 = .int .i64 k ∧ get T 10 = osV (H.length + (t0 + 1 + 1)) inE (putsB F0 (c.faces.take i)).2 ∧ get T 11 = .int .i64 i ∧ RowN fcE (H.length + 2) K vF (putsB F0 (c.faces.take i)).1 ∧ K[t0]? = some (.tok i) ∧ KeepR 2 K0 K) ?_ c.faces.length _ _ _ ?_
 case refine_2 => exact ⟨0,K0,vF,rfl,Nat.zero_le _,rfl,rfl,h0,h1,h4,h5,h7,h8,h9,h10,h11,hF,ht,KeepR.same _ _⟩
 clear h0 h1 h4 h5 h7 h8 h9 h10 h11 hF ht
 rintro m T D H' ⟨i,K,vF,rfl,hi,rfl,rfl,h0,h1,h4,h5,h7,h8,h9,h10,h11,hF,ht,hkr⟩
 obtain ⟨c1,c2,c3,c4,c5,c6,c7⟩ := hF.m.cell
 by_cases hlt : i < c.faces.length
 ·have hlt' : (i : Int) < c.faces.length := by omega
  have hsn := putsB_snoc F0 hlt
  have hlen := putsB_len (c.faces.take i) F0 []
  have hlF : (putsB F0 (c.faces.take i)).1.length ≤ F0.length + i := by have := hlen.1; rw [List.length_take_of_le hi] at this; exact this
  have hlT : (putsB F0 (c.faces.take i)).2.length = i := by have := hlen.2; rw [List.length_take_of_le hi] at this; simpa [putsB] using this
  have lX := fun H => ld_fcE (H := H) hlt
  obtain ⟨x,hx'⟩ : ∃ x,fcE.at c.faces i = x := ⟨_,rfl⟩
  rw [hx'] at hsn lX
  have pn : (H ++ [z,AB.row 0 [.str note,vF,w2,w3,w4] true]).length = H.length + 2 := by simp
  obtain ⟨u',K',e,qa,hkq⟩ := fn59 (P := H ++ [z,AB.row 0 [.str note,vF,w2,w3,w4] true]) (K := K) x (by rw [pn]; exact hF) (by omega)
  rw [pn] at qa
  simp only [List.append_assoc,List.cons_append,List.nil_append] at e
  obtain ⟨j1,j2,j3,j4,j5,j6,j7⟩ := qa.m.cell
  have ht' : K'[t0]? = some (.tok i) := hkq.tk ht
  obtain ⟨st,hst⟩ : ∃ st,putF fcS (putsB F0 (c.faces.take i)).1 x = st := ⟨_,rfl⟩
  obtain ⟨tb,htb⟩ : ∃ tb,(putsB F0 (c.faces.take i)).2 = tb := ⟨_,rfl⟩
  rw [hst] at e qa hsn
  rw [htb] at hsn hlT h10
  have eo := os_in (H := H ++ z :: AB.row 0 [.str note,u',w2,w3,w4] true :: K') (id := H.length + (t0 + 1 + 1)) (l := tb) st.2 (by rw [tk_app,tk_S,tk_S,tok_at ht',hlT]) (by omega)
  simp only [st_app,List.set_cons_succ] at eo
  have hy := True.intro
  repeat' (first | simp (disch := first | rfl | omega | exact lt_new _ | assumption | decide | (simp [dkS] <;> omega) | fail) only [r17_0,r17_1,r17_2,r17_3,r17_4,r17_5,r17_6,r17_7,r17_8,r17_9,r17_10,r17_11,r17_12,r17_13,r17_14,r17_15,r17_16,r17_17,r17_18,r17_19,r17_20,r17_22,r17_23,r17_24,r17_25,r17_26,r17_27,r17_28,r17_29,r17_30,r17_31,r17_32,r17_33,r17_35,r17_36,r17_38,r17_39,r17_40,r17_41,r17_42,r17_43,r17_45,r17_46,r17_47,r17_49,r17_50,r17_51,r17_52,c17,rs17,gc17,l17_21,loadV_ptr,storeV_ptr,tkS,h0,h1,h4,h5,h7,h8,h9,h10,h11,hkl,lF,lX,hlt',e,eo,c1,c2,c3,c4,c5,c6,c7,j1,j2,j3,j4,j5,j6,j7,go_sem,↓reduceIte,Nat.reduceLT,Nat.reduceEqDiff,Nat.reduceAdd,Nat.reduceMul,Nat.reduceSub,Int.reduceAdd,Int.reduceSub,Nat.reduceLeDiff,Int.reduceLT,Int.reduceLE,Int.reduceEq,Int.reduceNeg,Int.reduceToNat,hy] | ((first | refine guardB_dec (fun hy => ?_) (fun hy => ?_) | refine guardB_bool (fun hy => ?_) (fun hy => ?_) | refine guardQ_ite (fun hy => ?_) (fun hy => ?_) | refine brQ_dec (fun hy => ?_) (fun hy => ?_) | refine brQ_bool (fun hy => ?_) (fun hy => ?_)) <;> (try simp only [Bool.not_eq_true',Bool.not_eq_false',Bool.and_eq_true,Bool.or_eq_false_iff,decide_eq_true_eq,decide_eq_false_iff_not] at hy)))
  exact ⟨_,by omega,i + 1,K'.set t0 (AB.tok (tb.length + 1)),u',rfl,hlt,rfl,by rw [hsn],rfl,by rw [hsn]; exact qa.setTok ht',by rw [List.getElem?_set_self (List.getElem?_eq_some_iff.1 ht').1,hlT],hkr.trans (hkq.R.trans (KeepR.tok 2 _ ht'))⟩
 ·obtain rfl : i = c.faces.length := by omega
  rw [List.take_length] at hF h10
  have hy := True.intro
  repeat' (first | simp (disch := first | rfl | omega | exact lt_new _ | assumption | decide | (simp [dkS] <;> omega) | fail) only [r17_0,r17_1,r17_2,r17_3,r17_4,r17_5,r17_6,r17_7,r17_8,r17_9,r17_10,r17_11,r17_12,r17_13,r17_14,r17_15,r17_16,r17_17,r17_18,r17_19,r17_20,r17_22,r17_23,r17_24,r17_25,r17_26,r17_27,r17_28,r17_29,r17_30,r17_31,r17_32,r17_33,r17_35,r17_36,r17_38,r17_39,r17_40,r17_41,r17_42,r17_43,r17_45,r17_46,r17_47,r17_49,r17_50,r17_51,r17_52,c17,rs17,gc17,l17_21,loadV_ptr,storeV_ptr,tkS,h0,h1,h4,h5,h7,h8,h9,h10,h11,hkl,lF,Int.lt_irrefl,go_sem,↓reduceIte,Nat.reduceLT,Nat.reduceEqDiff,Nat.reduceAdd,Nat.reduceMul,Nat.reduceSub,Int.reduceAdd,Int.reduceSub,Nat.reduceLeDiff,Int.reduceLT,Int.reduceLE,Int.reduceEq,Int.reduceNeg,Int.reduceToNat,hy] | ((first | refine guardB_dec (fun hy => ?_) (fun hy => ?_) | refine guardB_bool (fun hy => ?_) (fun hy => ?_) | refine guardQ_ite (fun hy => ?_) (fun hy => ?_) | refine brQ_dec (fun hy => ?_) (fun hy => ?_) | refine brQ_bool (fun hy => ?_) (fun hy => ?_)) <;> (try simp only [Bool.not_eq_true',Bool.not_eq_false',Bool.and_eq_true,Bool.or_eq_false_iff,decide_eq_true_eq,decide_eq_false_iff_not] at hy)))
  exact hQ _ K vF (by simpa [go_sem] using h0) (by simpa [go_sem] using h1) (by simpa [go_sem] using h4) (by simpa [go_sem] using h5) (by simpa [go_sem] using h7) (by simpa [go_sem] using h8) (by simpa [go_sem] using h9) (by simpa [go_sem] using h10) hF hkr
set_option maxHeartbeats 4000000 in
theorem rl2 {H K0 : Hp} {w0 : List UInt8} {vF w2 w3 w4 : V} {ls : List Cp} {drs tb : List Int} {b b' : Bool} {a8 : V} {idt t0 k : Nat} {y : Int} {c : Cp} {T : Fr} {Q : Ex → Fr → Dfr → Hp → Prop}
  (h0 : get T 0 = slV b cpE ls) (h1 : get T 1 = slV b' inE drs) (h4 : get T 4 = .ptr H.length 0 0) (h7 : get T 7 = .ptr (H.length + 1) 0 0) (h8 : get T 8 = a8) (h9 : get T 9 = .int .i64 k) (h10 : get T 10 = osV idt inE tb) (h13 : get T 13 = osV (H.length + (t0 + 1 + 1)) pkE []) (h14 : get T 14 = .int .i64 0)
  (hk : k < ls.length) (hkd : k < drs.length) (hc : cpE.at ls k = c) (hy : inE.at drs k = y) (hv : valE c = 0) (htb : tb.length = c.faces.length) (ht : K0[t0]? = some (.tok 0))
  (hE : ∀ T' K',get T' 4 = .ptr H.length 0 0 → get T' 5 = .int .i64 1 → c.packets.all (okTo fun t => addF t y) = false → Q .ret T' [] (H ++ AB.row 0 [.str [],.nilslice,.nilslice,.nilslice,.nilslice] true :: AB.row 0 [.str w0,vF,w2,w3,w4] true :: K'))
  (hQ : ∀ T' K',get T' 0 = slV b cpE ls → get T' 1 = slV b' inE drs → get T' 4 = .ptr H.length 0 0 → get T' 7 = .ptr (H.length + 1) 0 0 → get T' 8 = a8 → get T' 9 = .int .i64 k → get T' 13 = osV (H.length + (t0 + 1 + 1)) pkE ((c.packets.map (setT fun t => addF t y)).map (mp tb)) → c.packets.all (okTo fun t => addF t y) = true → KeepR 9 K0 K' → Q (.exit 4) T' [] (H ++ AB.row 0 [.str [],.nilslice,.nilslice,.nilslice,.nilslice] true :: AB.row 0 [.str w0,vF,w2,w3,w4] true :: K')) :
  Wp Try.prog (callL Try.prog pr) 209 l17_34.loop T [] (H ++ AB.row 0 [.str [],.nilslice,.nilslice,.nilslice,.nilslice] true :: AB.row 0 [.str w0,vF,w2,w3,w4] true :: K0) Q := by
 have hkl : (k : Int) < ls.length := by omega
 have hkl2 : (k : Int) < drs.length := by omega
 have lF : ∀ H,loadV Try.prog 29 H (.ipt (flatE cpE ls) (k * 5 + 4)) = some (slV c.packetsN pkE c.packets) := fun H => by rw [← hc]; exact ld_cpE_4 (H := H) hk
 have lY : ∀ H,loadV Try.prog 3 H (.ipt (flatE inE drs) (k * 1)) = some (.int .i64 y) := fun H => by rw [@ld_cell0 _ Try.prog H _ inE drs 3 1 k g3 rfl hkd,hy]; rfl
 have hpl := (val_pk hv).2.1.1
 refine Wp_loop (fun m T D H' => ∃ i K,m = c.packets.length - i ∧ i ≤ c.packets.length ∧ D = [] ∧ H' = H ++ AB.row 0 [.str [],.nilslice,.nilslice,.nilslice,.nilslice] true :: AB.row 0 [.str w0,vF,w2,w3,w4] true :: K ∧ get T 0 = slV b cpE ls ∧ get T 1 = slV b' inE drs ∧ get T 4 = .ptr H.length 0 0 ∧ get T 7 = .ptr (H.length + 1) 0 0 ∧ get T 8 = a8 ∧ get T 9 = .int .i64 k ∧ get T 10 = osV idt inE tb ∧ get T 13 = osV (H.length + (t0 + 1 + 1)) pkE (((c.packets.take i).map (setT fun t => addF t y)).map (mp tb)) ∧ get T 14 = .int .i64 i ∧ (c.packets.take i).all (okTo fun t => addF t y) = true ∧ K[t0]? = some (.tok (i * 5)) ∧ KeepR 9 K0 K) ?_ c.packets.length _ _ _ ?_
 case refine_2 => exact ⟨0,K0,rfl,Nat.zero_le _,rfl,rfl,h0,h1,h4,h7,h8,h9,h10,h13,h14,rfl,ht,KeepR.same _ _⟩
 clear h0 h1 h4 h7 h8 h9 h10 h13 h14 ht
 rintro m T D H' ⟨i,K,rfl,hi,rfl,rfl,h0,h1,h4,h7,h8,h9,h10,h13,h14,hall,ht,hkr⟩
 by_cases hlt : i < c.packets.length
 ·have hlt' : (i : Int) < c.packets.length := by omega
  have hkn := mapT (to := fun t => addF t y) hlt
  have hpf := pf_pk ((val_pk hv).1 _ (pkE.at_mem hlt))
  have hal := take_all (p := okTo fun t => addF t y) hlt
  have had := all_drop (p := okTo fun t => addF t y) hlt
  have lX := fun H => ld_pkE (H := H) hlt
  obtain ⟨p,hp⟩ : ∃ p,pkE.at c.packets i = p := ⟨_,rfl⟩
  rw [hp] at hkn hpf hal had lX
  have h62 := fun H => fn62 (b := y) hpf.1.1 hpf.1.2 H
  by_cases hq : (addF p.time y).2 = true
  ·have e : lateF p.time y = addF p.time y := by unfold lateF; rw [if_pos hq]
   simp only [e] at h62
   have hfc : 0 ≤ p.face ∧ p.face < (tb.length : Int) := ⟨hpf.2.1,by rw [htb]; exact hpf.2.2.1⟩
   have lT : ∀ H,loadV Try.prog 3 H (.ipt (flatE inE tb) (p.face.toNat * 1)) = some (.int .i64 (inE.at tb p.face.toNat)) := fun H => by rw [@ld_cell0 _ Try.prog H _ inE tb 3 1 p.face.toNat g3 rfl (by omega)]; rfl
   have hs1 : setAt (pkE.f p) 0 [.int .i64 (addF p.time y).1] = pkE.f (setT (fun t => addF t y) p) := rfl
   have hs2 : setAt (pkE.f (setT (fun t => addF t y) p)) 1 [.int .i64 (inE.at tb p.face.toNat)] = pkE.f (mp tb (setT (fun t => addF t y) p)) := rfl
   obtain ⟨l,hl⟩ : ∃ l,((c.packets.take i).map (setT fun t => addF t y)).map (mp tb) = l := ⟨_,rfl⟩
   have hll : l.length = i := by rw [← hl]; simp; omega
   obtain ⟨x,hx⟩ : ∃ x,mp tb (setT (fun t => addF t y) p) = x := ⟨_,rfl⟩
   rw [hl] at h13
   rw [hx] at hs2
   have eo := os_ag (H := H ++ AB.row 0 [.str [],.nilslice,.nilslice,.nilslice,.nilslice] true :: AB.row 0 [.str w0,vF,w2,w3,w4] true :: (K ++ [AB.row 0 (pkE.f x) true])) (E := pkE) (id := H.length + (t0 + 1 + 1)) (w := 5) (by_ := 64) (l := l) x rfl (by rw [tk_app,tk_S,tk_S,tok_at (by rw [List.getElem?_append_left (List.getElem?_eq_some_iff.1 ht).1,ht]),hll]) (by omega) (by omega)
   simp only [st_app,List.set_cons_succ,st_l (List.getElem?_eq_some_iff.1 ht).1] at eo
   have hy := True.intro
   repeat' (first | simp (disch := first | rfl | omega | exact lt_new _ | assumption | decide | (simp [dkS] <;> omega) | fail) only [r17_0,r17_1,r17_2,r17_3,r17_4,r17_5,r17_6,r17_7,r17_8,r17_9,r17_10,r17_11,r17_12,r17_13,r17_14,r17_15,r17_16,r17_17,r17_18,r17_19,r17_20,r17_22,r17_23,r17_24,r17_25,r17_26,r17_27,r17_28,r17_29,r17_30,r17_31,r17_32,r17_33,r17_35,r17_36,r17_38,r17_39,r17_40,r17_41,r17_42,r17_43,r17_45,r17_46,r17_47,r17_49,r17_50,r17_51,r17_52,c17,rs17,gc17,l17_34,loadV_ptr,storeV_ptr,tkS,h0,h1,h4,h7,h8,h9,h10,h13,h14,hkl,hkl2,lF,lX,lY,hlt',h62,hq,hfc,lT,hs1,hs2,eo,go_sem,↓reduceIte,Nat.reduceLT,Nat.reduceEqDiff,Nat.reduceAdd,Nat.reduceMul,Nat.reduceSub,Int.reduceAdd,Int.reduceSub,Nat.reduceLeDiff,Int.reduceLT,Int.reduceLE,Int.reduceEq,Int.reduceNeg,Int.reduceToNat,hy] | ((first | refine guardB_dec (fun hy => ?_) (fun hy => ?_) | refine guardB_bool (fun hy => ?_) (fun hy => ?_) | refine guardQ_ite (fun hy => ?_) (fun hy => ?_) | refine brQ_dec (fun hy => ?_) (fun hy => ?_) | refine brQ_bool (fun hy => ?_) (fun hy => ?_)) <;> (try simp only [Bool.not_eq_true',Bool.not_eq_false',Bool.and_eq_true,Bool.or_eq_false_iff,decide_eq_true_eq,decide_eq_false_iff_not] at hy)))
   have tl := (List.getElem?_eq_some_iff.1 ht).1
   exact ⟨_,by omega,i + 1,K.set t0 (AB.tok ((l.length + 1) * 5)) ++ [AB.row 0 (pkE.f x) true],rfl,hlt,rfl,by rw [hkn,List.map_append,hl]; simp only [List.map_cons,List.map_nil,hx],rfl,by rw [hal,hall]; simpa [okTo] using hq,by rw [List.getElem?_append_left (by simpa using tl),List.getElem?_set_self tl,hll],hkr.trans ((KeepR.tok 9 _ ht).trans (KeepQ.more 9 _ _).R)⟩
  ·rw [Bool.not_eq_true] at hq
   have e : lateF p.time y = (0,false) := by unfold lateF; rw [if_neg (by simp [hq])]
   simp only [e] at h62
   have hy := True.intro
   repeat' (first | simp (disch := first | rfl | omega | exact lt_new _ | assumption | decide | (simp [dkS] <;> omega) | fail) only [r17_0,r17_1,r17_2,r17_3,r17_4,r17_5,r17_6,r17_7,r17_8,r17_9,r17_10,r17_11,r17_12,r17_13,r17_14,r17_15,r17_16,r17_17,r17_18,r17_19,r17_20,r17_22,r17_23,r17_24,r17_25,r17_26,r17_27,r17_28,r17_29,r17_30,r17_31,r17_32,r17_33,r17_35,r17_36,r17_38,r17_39,r17_40,r17_41,r17_42,r17_43,r17_45,r17_46,r17_47,r17_49,r17_50,r17_51,r17_52,c17,rs17,gc17,l17_34,loadV_ptr,storeV_ptr,tkS,h0,h1,h4,h7,h8,h9,h10,h13,h14,hkl,hkl2,lF,lX,lY,hlt',h62,hq,go_sem,↓reduceIte,Nat.reduceLT,Nat.reduceEqDiff,Nat.reduceAdd,Nat.reduceMul,Nat.reduceSub,Int.reduceAdd,Int.reduceSub,Nat.reduceLeDiff,Int.reduceLT,Int.reduceLE,Int.reduceEq,Int.reduceNeg,Int.reduceToNat,hy] | ((first | refine guardB_dec (fun hy => ?_) (fun hy => ?_) | refine guardB_bool (fun hy => ?_) (fun hy => ?_) | refine guardQ_ite (fun hy => ?_) (fun hy => ?_) | refine brQ_dec (fun hy => ?_) (fun hy => ?_) | refine brQ_bool (fun hy => ?_) (fun hy => ?_)) <;> (try simp only [Bool.not_eq_true',Bool.not_eq_false',Bool.and_eq_true,Bool.or_eq_false_iff,decide_eq_true_eq,decide_eq_false_iff_not] at hy)))
   exact hE _ _ (by simp [go_sem,h4]) (by simp [go_sem]) (had hq)
 ·obtain rfl : i = c.packets.length := by omega
  rw [List.take_length] at hall h13
  have hy := True.intro
  repeat' (first | simp (disch := first | rfl | omega | exact lt_new _ | assumption | decide | (simp [dkS] <;> omega) | fail) only [r17_0,r17_1,r17_2,r17_3,r17_4,r17_5,r17_6,r17_7,r17_8,r17_9,r17_10,r17_11,r17_12,r17_13,r17_14,r17_15,r17_16,r17_17,r17_18,r17_19,r17_20,r17_22,r17_23,r17_24,r17_25,r17_26,r17_27,r17_28,r17_29,r17_30,r17_31,r17_32,r17_33,r17_35,r17_36,r17_38,r17_39,r17_40,r17_41,r17_42,r17_43,r17_45,r17_46,r17_47,r17_49,r17_50,r17_51,r17_52,c17,rs17,gc17,l17_34,loadV_ptr,storeV_ptr,tkS,h0,h1,h4,h7,h8,h9,h10,h13,h14,hkl,hkl2,lF,lY,Int.lt_irrefl,go_sem,↓reduceIte,Nat.reduceLT,Nat.reduceEqDiff,Nat.reduceAdd,Nat.reduceMul,Nat.reduceSub,Int.reduceAdd,Int.reduceSub,Nat.reduceLeDiff,Int.reduceLT,Int.reduceLE,Int.reduceEq,Int.reduceNeg,Int.reduceToNat,hy] | ((first | refine guardB_dec (fun hy => ?_) (fun hy => ?_) | refine guardB_bool (fun hy => ?_) (fun hy => ?_) | refine guardQ_ite (fun hy => ?_) (fun hy => ?_) | refine brQ_dec (fun hy => ?_) (fun hy => ?_) | refine brQ_bool (fun hy => ?_) (fun hy => ?_)) <;> (try simp only [Bool.not_eq_true',Bool.not_eq_false',Bool.and_eq_true,Bool.or_eq_false_iff,decide_eq_true_eq,decide_eq_false_iff_not] at hy)))
  exact hQ _ K (by simpa [go_sem] using h0) (by simpa [go_sem] using h1) (by simpa [go_sem] using h4) (by simpa [go_sem] using h7) (by simpa [go_sem] using h8) (by simpa [go_sem] using h9) (by simpa [go_sem] using h13) hall hkr
theorem tm_eq {c : Cp} {to : Int → Int × Bool} (hv : valE c = 0) (h : c.packets.all (okTo to) = true) : tmF c to = ({c with packets := c.packets.map (setT to)},0) := by
 unfold tmF
 rw [if_pos hv,if_pos h]
theorem tm_no {c : Cp} {to : Int → Int × Bool} (hv : valE c = 0) (h : c.packets.all (okTo to) = false) : tmF c to = (noCp,1) := by
 unfold tmF
 rw [if_pos hv,if_neg (by rw [h]; decide)]
theorem hdL_app (l : List Cp) (c : Cp) : hdL (l ++ [c]) = hd1 (hdL l) c := by
 unfold hdL
 rw [List.foldl_append]
 rfl
theorem hdS {ls : List Cp} {drs : List Int} (hv : ∀ c ∈ ls,valE c = 0) : ∀ k ≤ ls.length,okS ls drs k = true → hdL (shD ls drs k) = hdL (ls.take k)
 | 0,_,_ => rfl
 | k + 1,hk,ho => by
  rw [okS_snoc,Bool.and_eq_true] at ho
  have hkl : k < ls.length := by omega
  have ih := hdS hv k (by omega) ho.1
  have hvk := hv _ (cpE.at_mem hkl)
  rw [shD_snoc,hdL_app,hdL_snoc hkl,ih]
  cases ha : (cpE.at ls k).packets.all (okTo fun t => addF t (inE.at drs k)) with
  | true => rw [tm_eq hvk ha]; rfl
  | false => rw [tm_no hvk ha] at ho; simp at ho
theorem at_appL {α : Type} (E : Enc α) {l : List α} {x : α} {k : Nat} (h : k < l.length) : E.at (l ++ [x]) k = E.at l k := by
 unfold Enc.at
 rw [List.getD_eq_getElem?_getD,List.getD_eq_getElem?_getD,List.getElem?_append_left h]
theorem at_appR {α : Type} (E : Enc α) (l : List α) (x : α) : E.at (l ++ [x]) l.length = x := by
 unfold Enc.at
 rw [List.getD_eq_getElem?_getD,List.getElem?_append_right (Nat.le_refl _),Nat.sub_self]
 rfl
theorem rowsA_app {D : List Cp} {T : List (List Int)} (d : Cp) (t : List Int) (h : T.length = D.length) : rowsA (D ++ [d]) (T ++ [t]) [] = rowsA D T [] ++ [d.packets.map (mp t)] := by
 unfold rowsA
 rw [List.length_append,List.length_singleton,List.range_succ,List.map_append]
 congr 1
 ·refine List.map_congr_left fun k hk => ?_
  have hk := List.mem_range.1 hk
  rw [at_appL cpE hk]
  refine List.map_congr_left fun p _ => ?_
  unfold mapR
  rw [at_appL tbE (by omega)]
 ·simp only [List.map_cons,List.map_nil]
  rw [at_appR,← h]
  congr 1
  refine List.map_congr_left fun p _ => ?_
  unfold mapR mp
  rw [at_appR]
theorem getD_snd {rows : List (Bool × List Pk)} {k : Nat} (h : k < rows.length) : (rows.map (·.2)).getD k [] = (rwE.at rows k).2 := by
 have e := rwE.at_some h
 rw [List.getD_eq_getElem?_getD,List.getElem?_map,e]
 rfl
theorem rw_ne {rows : List (Bool × List Pk)} {k : Nat} (h : k < rows.length) : rwT (rows.map (·.2)) k ≠ [] ↔ (0 : Int) < (rwE.at rows k).2.length := by
 unfold rwT
 rw [getD_snd h,Ne,List.map_eq_nil_iff,← List.length_eq_zero_iff]
 omega
theorem rw_hd {rows : List (Bool × List Pk)} {k : Nat} (h : k < rows.length) (h0 : (0 : Int) < (rwE.at rows k).2.length) : (rwT (rows.map (·.2)) k).headD 0 = (pkE.at (rwE.at rows k).2 0).time := by
 unfold rwT
 rw [getD_snd h]
 cases hr : (rwE.at rows k).2 with
 | nil => rw [hr] at h0; simp at h0
 | cons p l => rfl
set_option maxHeartbeats 4000000 in
theorem rl3 {H K : Hp} {z o : AB} {vr : V} {rows : List (Bool × List Pk)} {a4 a7 : V} {T : Fr} {Q : Ex → Fr → Dfr → Hp → Prop}
  (h4 : get T 4 = a4) (h7 : get T 7 = a7) (h8 : get T 8 = vr) (h18 : get T 18 = .int .i64 (-1)) (h19 : get T 19 = .int .i64 0) (hr : RowN rwE (H.length + 2) K vr rows) (hn : rows.length ≤ 2 ^ 30)
  (hQ : ∀ T',get T' 4 = a4 → get T' 7 = a7 → get T' 8 = vr → get T' 18 = .int .i64 (bestN (rwT (rows.map (·.2))) rows.length) → Q (.exit 8) T' [] (H ++ z :: o :: K)) :
  Wp Try.prog (callL Try.prog pr) 209 l17_44.loop T [] (H ++ z :: o :: K) Q := by
 obtain ⟨c1,c2,c3,c4,c5,c6,c7⟩ := hr.m.cell
 have hln := fun H' => hr.m.len (P := Try.prog) (t := 68) (z := 1) (by kernel_rfl) H'
 refine Wp_loop (fun m T D H' => ∃ k,m = rows.length - k ∧ k ≤ rows.length ∧ D = [] ∧ H' = H ++ z :: o :: K ∧ get T 4 = a4 ∧ get T 7 = a7 ∧ get T 8 = vr ∧ get T 18 = .int .i64 (bestN (rwT (rows.map (·.2))) k) ∧ get T 19 = .int .i64 k) ?_ rows.length _ _ _ ?_
 case refine_2 => exact ⟨0,rfl,Nat.zero_le _,rfl,rfl,h4,h7,h8,h18,h19⟩
 clear h4 h7 h8 h18 h19
 rintro m T D H' ⟨k,rfl,hk,rfl,rfl,h4,h7,h8,h18,h19⟩
 by_cases hlt : k < rows.length
 ·have hlt' : (k : Int) < rows.length := by omega
  rcases RowM.two hr.m with ⟨_,h0⟩ | ⟨jr,gr,hv,hjr,hrr⟩
  ·rw [h0] at hlt; cases hlt
  have hv' : vr = .slice (H.length + (jr + 1 + 1)) gr 0 rows.length 1 .full := hv
  subst hv'
  have hne := rw_ne hlt
  have hhd := rw_hd hlt
  have hb : bestN (rwT (rows.map (·.2))) (k + 1) = bstep (rwT (rows.map (·.2))) (bestN (rwT (rows.map (·.2))) k) k := rfl
  have lk : partV Try.prog 29 (flatE rwE rows) (k * 1) = some (slV (rwE.at rows k).1 pkE (rwE.at rows k).2) := by
   rw [lq_cell0 (E := rwE) (l := rows) (t := 29) (w := 1) (i := k) g29 rfl hlt]; rfl
  obtain ⟨r,hr0⟩ : ∃ r,rwE.at rows k = r := ⟨_,rfl⟩
  rw [hr0] at hne hhd lk
  by_cases ha : (0 : Int) < r.2.length
  case neg =>
   have hb2 : bestN (rwT (rows.map (·.2))) (k + 1) = bestN (rwT (rows.map (·.2))) k := by rw [hb]; unfold bstep; rw [if_neg (fun h => ha (hne.1 h.1))]
   have hy := True.intro
   repeat' (first | simp (disch := first | rfl | omega | exact lt_new _ | assumption | decide | (simp [dkS] <;> omega) | fail) only [r17_0,r17_1,r17_2,r17_3,r17_4,r17_5,r17_6,r17_7,r17_8,r17_9,r17_10,r17_11,r17_12,r17_13,r17_14,r17_15,r17_16,r17_17,r17_18,r17_19,r17_20,r17_22,r17_23,r17_24,r17_25,r17_26,r17_27,r17_28,r17_29,r17_30,r17_31,r17_32,r17_33,r17_35,r17_36,r17_38,r17_39,r17_40,r17_41,r17_42,r17_43,r17_45,r17_46,r17_47,r17_49,r17_50,r17_51,r17_52,c17,rs17,gc17,l17_44,loadV_ptr,storeV_ptr,tkS,h4,h7,h8,h18,h19,hlt',gr_l hjr,hrr,lk,ha,go_sem,↓reduceIte,Nat.reduceLT,Nat.reduceEqDiff,Nat.reduceAdd,Nat.reduceMul,Nat.reduceSub,Int.reduceAdd,Int.reduceSub,Nat.reduceLeDiff,Int.reduceLT,Int.reduceLE,Int.reduceEq,Int.reduceNeg,Int.reduceToNat,hy] | ((first | refine guardB_dec (fun hy => ?_) (fun hy => ?_) | refine guardB_bool (fun hy => ?_) (fun hy => ?_) | refine guardQ_ite (fun hy => ?_) (fun hy => ?_) | refine brQ_dec (fun hy => ?_) (fun hy => ?_) | refine brQ_bool (fun hy => ?_) (fun hy => ?_)) <;> (try simp only [Bool.not_eq_true',Bool.not_eq_false',Bool.and_eq_true,Bool.or_eq_false_iff,decide_eq_true_eq,decide_eq_false_iff_not] at hy)))
   exact ⟨_,by omega,k + 1,rfl,hlt,by rw [hb2],rfl⟩
  have lp : ∀ H,loadV Try.prog 3 H (.ipt (flatE pkE r.2) 0) = some (.int .i64 (pkE.at r.2 0).time) := fun H => by
   have := ld_pkE_0 (l := r.2) (i := 0) (H := H) (by omega)
   rw [Nat.zero_mul] at this
   exact this
  rcases bestN_in (rwT (rows.map (·.2))) k with h1 | ⟨j,hj1,hj2,hj3⟩
  ·have hb2 : bestN (rwT (rows.map (·.2))) (k + 1) = k := by rw [hb,h1]; unfold bstep; rw [if_pos ⟨hne.2 ha,Or.inl (by decide)⟩]
   rw [h1] at h18
   have hy := True.intro
   repeat' (first | simp (disch := first | rfl | omega | exact lt_new _ | assumption | decide | (simp [dkS] <;> omega) | fail) only [r17_0,r17_1,r17_2,r17_3,r17_4,r17_5,r17_6,r17_7,r17_8,r17_9,r17_10,r17_11,r17_12,r17_13,r17_14,r17_15,r17_16,r17_17,r17_18,r17_19,r17_20,r17_22,r17_23,r17_24,r17_25,r17_26,r17_27,r17_28,r17_29,r17_30,r17_31,r17_32,r17_33,r17_35,r17_36,r17_38,r17_39,r17_40,r17_41,r17_42,r17_43,r17_45,r17_46,r17_47,r17_49,r17_50,r17_51,r17_52,c17,rs17,gc17,l17_44,loadV_ptr,storeV_ptr,tkS,h4,h7,h8,h18,h19,hlt',gr_l hjr,hrr,lk,ha,lp,go_sem,↓reduceIte,Nat.reduceLT,Nat.reduceEqDiff,Nat.reduceAdd,Nat.reduceMul,Nat.reduceSub,Int.reduceAdd,Int.reduceSub,Nat.reduceLeDiff,Int.reduceLT,Int.reduceLE,Int.reduceEq,Int.reduceNeg,Int.reduceToNat,hy] | ((first | refine guardB_dec (fun hy => ?_) (fun hy => ?_) | refine guardB_bool (fun hy => ?_) (fun hy => ?_) | refine guardQ_ite (fun hy => ?_) (fun hy => ?_) | refine brQ_dec (fun hy => ?_) (fun hy => ?_) | refine brQ_bool (fun hy => ?_) (fun hy => ?_)) <;> (try simp only [Bool.not_eq_true',Bool.not_eq_false',Bool.and_eq_true,Bool.or_eq_false_iff,decide_eq_true_eq,decide_eq_false_iff_not] at hy)))
   exact ⟨_,by omega,k + 1,rfl,hlt,by rw [hb2],rfl⟩
  ·have jlt : j < rows.length := by omega
   have jlt' : (j : Int) < rows.length := by omega
   have jne := rw_ne jlt
   have jhd := rw_hd jlt
   have lj : partV Try.prog 29 (flatE rwE rows) (j * 1) = some (slV (rwE.at rows j).1 pkE (rwE.at rows j).2) := by
    rw [lq_cell0 (E := rwE) (l := rows) (t := 29) (w := 1) (i := j) g29 rfl jlt]; rfl
   obtain ⟨q,hq0⟩ : ∃ q,rwE.at rows j = q := ⟨_,rfl⟩
   rw [hq0] at jne jhd lj
   have jl : (0 : Int) < q.2.length := jne.1 hj3
   have ljp : ∀ H,loadV Try.prog 3 H (.ipt (flatE pkE q.2) 0) = some (.int .i64 (pkE.at q.2 0).time) := fun H => by
    have := ld_pkE_0 (l := q.2) (i := 0) (H := H) (by omega)
    rw [Nat.zero_mul] at this
    exact this
   have jn : ¬ (j : Int) < 0 := by omega
   rw [hj1] at h18
   obtain ⟨x,hx⟩ : ∃ x,(pkE.at r.2 0).time = x := ⟨_,rfl⟩
   obtain ⟨y,hy⟩ : ∃ y,(pkE.at q.2 0).time = y := ⟨_,rfl⟩
   rw [hx] at lp hhd
   rw [hy] at ljp jhd
   by_cases hpq : x < y
   ·have hb2 : bestN (rwT (rows.map (·.2))) (k + 1) = k := by rw [hb,hj1]; unfold bstep; rw [if_pos ⟨hne.2 ha,Or.inr (by rw [Int.toNat_natCast,hhd ha,jhd jl]; exact hpq)⟩]
    have hy := True.intro
    repeat' (first | simp (disch := first | rfl | omega | exact lt_new _ | assumption | decide | (simp [dkS] <;> omega) | fail) only [r17_0,r17_1,r17_2,r17_3,r17_4,r17_5,r17_6,r17_7,r17_8,r17_9,r17_10,r17_11,r17_12,r17_13,r17_14,r17_15,r17_16,r17_17,r17_18,r17_19,r17_20,r17_22,r17_23,r17_24,r17_25,r17_26,r17_27,r17_28,r17_29,r17_30,r17_31,r17_32,r17_33,r17_35,r17_36,r17_38,r17_39,r17_40,r17_41,r17_42,r17_43,r17_45,r17_46,r17_47,r17_49,r17_50,r17_51,r17_52,c17,rs17,gc17,l17_44,loadV_ptr,storeV_ptr,tkS,h4,h7,h8,h18,h19,hlt',gr_l hjr,hrr,lk,ha,lp,jlt',lj,jl,ljp,jn,hpq,go_sem,↓reduceIte,Nat.reduceLT,Nat.reduceEqDiff,Nat.reduceAdd,Nat.reduceMul,Nat.reduceSub,Int.reduceAdd,Int.reduceSub,Nat.reduceLeDiff,Int.reduceLT,Int.reduceLE,Int.reduceEq,Int.reduceNeg,Int.reduceToNat,hy] | ((first | refine guardB_dec (fun hy => ?_) (fun hy => ?_) | refine guardB_bool (fun hy => ?_) (fun hy => ?_) | refine guardQ_ite (fun hy => ?_) (fun hy => ?_) | refine brQ_dec (fun hy => ?_) (fun hy => ?_) | refine brQ_bool (fun hy => ?_) (fun hy => ?_)) <;> (try simp only [Bool.not_eq_true',Bool.not_eq_false',Bool.and_eq_true,Bool.or_eq_false_iff,decide_eq_true_eq,decide_eq_false_iff_not] at hy)))
    exact ⟨_,by omega,k + 1,rfl,hlt,by rw [hb2],rfl⟩
   ·have hb2 : bestN (rwT (rows.map (·.2))) (k + 1) = j := by
     rw [hb,hj1]
     unfold bstep
     rw [if_neg]
     rintro ⟨_,h | h⟩
     ·exact jn h
     ·rw [Int.toNat_natCast,hhd ha,jhd jl] at h
      exact hpq h
    have hy := True.intro
    repeat' (first | simp (disch := first | rfl | omega | exact lt_new _ | assumption | decide | (simp [dkS] <;> omega) | fail) only [r17_0,r17_1,r17_2,r17_3,r17_4,r17_5,r17_6,r17_7,r17_8,r17_9,r17_10,r17_11,r17_12,r17_13,r17_14,r17_15,r17_16,r17_17,r17_18,r17_19,r17_20,r17_22,r17_23,r17_24,r17_25,r17_26,r17_27,r17_28,r17_29,r17_30,r17_31,r17_32,r17_33,r17_35,r17_36,r17_38,r17_39,r17_40,r17_41,r17_42,r17_43,r17_45,r17_46,r17_47,r17_49,r17_50,r17_51,r17_52,c17,rs17,gc17,l17_44,loadV_ptr,storeV_ptr,tkS,h4,h7,h8,h18,h19,hlt',gr_l hjr,hrr,lk,ha,lp,jlt',lj,jl,ljp,jn,hpq,go_sem,↓reduceIte,Nat.reduceLT,Nat.reduceEqDiff,Nat.reduceAdd,Nat.reduceMul,Nat.reduceSub,Int.reduceAdd,Int.reduceSub,Nat.reduceLeDiff,Int.reduceLT,Int.reduceLE,Int.reduceEq,Int.reduceNeg,Int.reduceToNat,hy] | ((first | refine guardB_dec (fun hy => ?_) (fun hy => ?_) | refine guardB_bool (fun hy => ?_) (fun hy => ?_) | refine guardQ_ite (fun hy => ?_) (fun hy => ?_) | refine brQ_dec (fun hy => ?_) (fun hy => ?_) | refine brQ_bool (fun hy => ?_) (fun hy => ?_)) <;> (try simp only [Bool.not_eq_true',Bool.not_eq_false',Bool.and_eq_true,Bool.or_eq_false_iff,decide_eq_true_eq,decide_eq_false_iff_not] at hy)))
    exact ⟨_,by omega,k + 1,rfl,hlt,by rw [hb2],rfl⟩
 ·obtain rfl : k = rows.length := by omega
  have hy := True.intro
  repeat' (first | simp (disch := first | rfl | omega | exact lt_new _ | assumption | decide | (simp [dkS] <;> omega) | fail) only [r17_0,r17_1,r17_2,r17_3,r17_4,r17_5,r17_6,r17_7,r17_8,r17_9,r17_10,r17_11,r17_12,r17_13,r17_14,r17_15,r17_16,r17_17,r17_18,r17_19,r17_20,r17_22,r17_23,r17_24,r17_25,r17_26,r17_27,r17_28,r17_29,r17_30,r17_31,r17_32,r17_33,r17_35,r17_36,r17_38,r17_39,r17_40,r17_41,r17_42,r17_43,r17_45,r17_46,r17_47,r17_49,r17_50,r17_51,r17_52,c17,rs17,gc17,l17_44,loadV_ptr,storeV_ptr,tkS,h4,h7,h8,h18,h19,Int.lt_irrefl,hln,c1,c2,c3,c4,c5,c6,c7,go_sem,↓reduceIte,Nat.reduceLT,Nat.reduceEqDiff,Nat.reduceAdd,Nat.reduceMul,Nat.reduceSub,Int.reduceAdd,Int.reduceSub,Nat.reduceLeDiff,Int.reduceLT,Int.reduceLE,Int.reduceEq,Int.reduceNeg,Int.reduceToNat,hy] | ((first | refine guardB_dec (fun hy => ?_) (fun hy => ?_) | refine guardB_bool (fun hy => ?_) (fun hy => ?_) | refine guardQ_ite (fun hy => ?_) (fun hy => ?_) | refine brQ_dec (fun hy => ?_) (fun hy => ?_) | refine brQ_bool (fun hy => ?_) (fun hy => ?_)) <;> (try simp only [Bool.not_eq_true',Bool.not_eq_false',Bool.and_eq_true,Bool.or_eq_false_iff,decide_eq_true_eq,decide_eq_false_iff_not] at hy)))
  exact hQ _ (by simpa [go_sem] using h4) (by simpa [go_sem] using h7) (by simpa [go_sem] using h8) (by simpa [go_sem] using h18)
theorem hd_ok {c : Cp} (hv : valE c = 0) (hc : CpOk c) : HdOk c := by
 obtain ⟨hpf,⟨l4,l3,l2,l1⟩,hf1⟩ := val_pk hv
 obtain ⟨o0,o1,o1l,o2,o2l,o3,o3l,o4,o4l⟩ := hc
 exact ⟨l1,l2,l3,o2,o3⟩
set_option maxHeartbeats 8000000 in
theorem fn17 {b b' : Bool} {ls : List Cp} {drs : List Int} (hok : ∀ c ∈ ls,CpOk c) (hl : ls.length ≤ 2 ^ 62) (hdl : drs.length ≤ 2 ^ 62) (hlen : askE ls = 0 → ls.length ≤ 400000) (H : Hp) : ∃ d,callL Try.prog pr 17 [slV b cpE ls,slV b' inE drs] H = some (.tup [.agg (cpE.f d),.int .i64 (mgF ls drs).2],H) ∧ CpEq d (mgF ls drs).1 := by
 suffices h : ∃ r,callL Try.prog pr 17 [slV b cpE ls,slV b' inE drs] H = some r ∧ ∃ d,r = (.tup [.agg (cpE.f d),.int .i64 (mgF ls drs).2],H) ∧ CpEq d (mgF ls drs).1 by
  obtain ⟨_,h1,d,rfl,h2⟩ := h; exact ⟨d,h1,h2⟩
 have h58 := fun H => fn58 (b := b) hok hl H
 refine ex17 (Nat.le_of_ble_eq_true rfl) ?_
 unfold mgF
 by_cases ha : askE ls = 0
 case neg =>
  rw [if_neg ha]
  have hy := True.intro
  repeat' (first | simp (disch := first | rfl | omega | exact lt_new _ | assumption | decide | (simp [dkS] <;> omega) | fail) only [r17_0,r17_1,r17_2,r17_3,r17_4,r17_5,r17_6,r17_7,r17_8,r17_9,r17_10,r17_11,r17_12,r17_13,r17_14,r17_15,r17_16,r17_17,r17_18,r17_19,r17_20,r17_22,r17_23,r17_24,r17_25,r17_26,r17_27,r17_28,r17_29,r17_30,r17_31,r17_32,r17_33,r17_35,r17_36,r17_38,r17_39,r17_40,r17_41,r17_42,r17_43,r17_45,r17_46,r17_47,r17_49,r17_50,r17_51,r17_52,c17,rs17,gc17,loadV_ptr,storeV_ptr,tkS,h58,ha,go_sem,↓reduceIte,Nat.reduceLT,Nat.reduceEqDiff,Nat.reduceAdd,Nat.reduceMul,Nat.reduceSub,Int.reduceAdd,Int.reduceSub,Nat.reduceLeDiff,Int.reduceLT,Int.reduceLE,Int.reduceEq,Int.reduceNeg,Int.reduceToNat,hy] | ((first | refine guardB_dec (fun hy => ?_) (fun hy => ?_) | refine guardB_bool (fun hy => ?_) (fun hy => ?_) | refine guardQ_ite (fun hy => ?_) (fun hy => ?_) | refine brQ_dec (fun hy => ?_) (fun hy => ?_) | refine brQ_bool (fun hy => ?_) (fun hy => ?_)) <;> (try simp only [Bool.not_eq_true',Bool.not_eq_false',Bool.and_eq_true,Bool.or_eq_false_iff,decide_eq_true_eq,decide_eq_false_iff_not] at hy)))
  exact ⟨noCp,finQ_app (by rw [noCp_f]; simp (disch := first | rfl | omega | exact lt_new _ | assumption | decide | (simp [dkS] <;> omega) | fail) only [go_sem,↓reduceIte,Nat.reduceLT,Nat.reduceEqDiff,Nat.reduceAdd,Nat.reduceMul,Nat.reduceSub,Int.reduceAdd,Int.reduceSub,Nat.reduceLeDiff,Int.reduceLT,Int.reduceLE,Int.reduceEq,Int.reduceNeg,Int.reduceToNat]),CpEq.rfl' _⟩
 rw [if_pos ha]
 have hn := hlen ha
 have hv := askE_all ha
 by_cases he : ls.length = drs.length
 case neg =>
  have he' : ¬ (ls.length : Int) = drs.length := by omega
  rw [if_neg he]
  have hy := True.intro
  repeat' (first | simp (disch := first | rfl | omega | exact lt_new _ | assumption | decide | (simp [dkS] <;> omega) | fail) only [r17_0,r17_1,r17_2,r17_3,r17_4,r17_5,r17_6,r17_7,r17_8,r17_9,r17_10,r17_11,r17_12,r17_13,r17_14,r17_15,r17_16,r17_17,r17_18,r17_19,r17_20,r17_22,r17_23,r17_24,r17_25,r17_26,r17_27,r17_28,r17_29,r17_30,r17_31,r17_32,r17_33,r17_35,r17_36,r17_38,r17_39,r17_40,r17_41,r17_42,r17_43,r17_45,r17_46,r17_47,r17_49,r17_50,r17_51,r17_52,c17,rs17,gc17,loadV_ptr,storeV_ptr,tkS,h58,ha,he',go_sem,↓reduceIte,Nat.reduceLT,Nat.reduceEqDiff,Nat.reduceAdd,Nat.reduceMul,Nat.reduceSub,Int.reduceAdd,Int.reduceSub,Nat.reduceLeDiff,Int.reduceLT,Int.reduceLE,Int.reduceEq,Int.reduceNeg,Int.reduceToNat,hy] | ((first | refine guardB_dec (fun hy => ?_) (fun hy => ?_) | refine guardB_bool (fun hy => ?_) (fun hy => ?_) | refine guardQ_ite (fun hy => ?_) (fun hy => ?_) | refine brQ_dec (fun hy => ?_) (fun hy => ?_) | refine brQ_bool (fun hy => ?_) (fun hy => ?_)) <;> (try simp only [Bool.not_eq_true',Bool.not_eq_false',Bool.and_eq_true,Bool.or_eq_false_iff,decide_eq_true_eq,decide_eq_false_iff_not] at hy)))
  exact ⟨noCp,finQ_app (by rw [noCp_f]; simp (disch := first | rfl | omega | exact lt_new _ | assumption | decide | (simp [dkS] <;> omega) | fail) only [go_sem,↓reduceIte,Nat.reduceLT,Nat.reduceEqDiff,Nat.reduceAdd,Nat.reduceMul,Nat.reduceSub,Int.reduceAdd,Int.reduceSub,Nat.reduceLeDiff,Int.reduceLT,Int.reduceLE,Int.reduceEq,Int.reduceNeg,Int.reduceToNat]),CpEq.rfl' _⟩
 rw [if_pos he]
 have he' : (ls.length : Int) = drs.length := by omega
 by_cases h0 : ls.length = 0
 ·rw [if_pos h0]
  have h00 : (drs.length : Int) = 0 := by omega
  have hy := True.intro
  repeat' (first | simp (disch := first | rfl | omega | exact lt_new _ | assumption | decide | (simp [dkS] <;> omega) | fail) only [r17_0,r17_1,r17_2,r17_3,r17_4,r17_5,r17_6,r17_7,r17_8,r17_9,r17_10,r17_11,r17_12,r17_13,r17_14,r17_15,r17_16,r17_17,r17_18,r17_19,r17_20,r17_22,r17_23,r17_24,r17_25,r17_26,r17_27,r17_28,r17_29,r17_30,r17_31,r17_32,r17_33,r17_35,r17_36,r17_38,r17_39,r17_40,r17_41,r17_42,r17_43,r17_45,r17_46,r17_47,r17_49,r17_50,r17_51,r17_52,c17,rs17,gc17,loadV_ptr,storeV_ptr,tkS,h58,ha,he',h00,go_sem,↓reduceIte,Nat.reduceLT,Nat.reduceEqDiff,Nat.reduceAdd,Nat.reduceMul,Nat.reduceSub,Int.reduceAdd,Int.reduceSub,Nat.reduceLeDiff,Int.reduceLT,Int.reduceLE,Int.reduceEq,Int.reduceNeg,Int.reduceToNat,hy] | ((first | refine guardB_dec (fun hy => ?_) (fun hy => ?_) | refine guardB_bool (fun hy => ?_) (fun hy => ?_) | refine guardQ_ite (fun hy => ?_) (fun hy => ?_) | refine brQ_dec (fun hy => ?_) (fun hy => ?_) | refine brQ_bool (fun hy => ?_) (fun hy => ?_)) <;> (try simp only [Bool.not_eq_true',Bool.not_eq_false',Bool.and_eq_true,Bool.or_eq_false_iff,decide_eq_true_eq,decide_eq_false_iff_not] at hy)))
  exact ⟨noCp,finQ_app (by rw [noCp_f]; simp (disch := first | rfl | omega | exact lt_new _ | assumption | decide | (simp [dkS] <;> omega) | fail) only [go_sem,↓reduceIte,Nat.reduceLT,Nat.reduceEqDiff,Nat.reduceAdd,Nat.reduceMul,Nat.reduceSub,Int.reduceAdd,Int.reduceSub,Nat.reduceLeDiff,Int.reduceLT,Int.reduceLE,Int.reduceEq,Int.reduceNeg,Int.reduceToNat]),CpEq.rfl' _⟩
 rw [if_neg h0]
 obtain ⟨n,hnn⟩ : ∃ n,ls.length = n := ⟨_,rfl⟩
 have h0' : ¬ (n : Int) = 0 := by omega
 have hdn : drs.length = n := by omega
 rw [hnn] at hn ⊢
 rw [hnn,hdn] at he'
 have hhd : ∀ c ∈ ls,HdOk c := fun c hc => hd_ok (hv c hc) (hok c hc)
 have hy := True.intro
 repeat' (first | simp (disch := first | rfl | omega | exact lt_new _ | assumption | decide | (simp [dkS] <;> omega) | fail) only [r17_0,r17_1,r17_2,r17_3,r17_4,r17_5,r17_6,r17_7,r17_8,r17_9,r17_10,r17_11,r17_12,r17_13,r17_14,r17_15,r17_16,r17_17,r17_18,r17_19,r17_20,r17_22,r17_23,r17_24,r17_25,r17_26,r17_27,r17_28,r17_29,r17_30,r17_31,r17_32,r17_33,r17_35,r17_36,r17_38,r17_39,r17_40,r17_41,r17_42,r17_43,r17_45,r17_46,r17_47,r17_49,r17_50,r17_51,r17_52,c17,rs17,gc17,loadV_ptr,storeV_ptr,tkS,h58,ha,he',h0',hnn,hdn,go_sem,↓reduceIte,Nat.reduceLT,Nat.reduceEqDiff,Nat.reduceAdd,Nat.reduceMul,Nat.reduceSub,Int.reduceAdd,Int.reduceSub,Nat.reduceLeDiff,Int.reduceLT,Int.reduceLE,Int.reduceEq,Int.reduceNeg,Int.reduceToNat,hy] | ((first | refine guardB_dec (fun hy => ?_) (fun hy => ?_) | refine guardB_bool (fun hy => ?_) (fun hy => ?_) | refine guardQ_ite (fun hy => ?_) (fun hy => ?_) | refine brQ_dec (fun hy => ?_) (fun hy => ?_) | refine brQ_bool (fun hy => ?_) (fun hy => ?_)) <;> (try simp only [Bool.not_eq_true',Bool.not_eq_false',Bool.and_eq_true,Bool.or_eq_false_iff,decide_eq_true_eq,decide_eq_false_iff_not] at hy)))
 refine Wp_loop (fun m T D H' => ∃ k K s vF vN vS vr rows,m = n - k ∧ k ≤ n ∧ D = [] ∧ H' = H ++ AB.row 0 [.str [],.nilslice,.nilslice,.nilslice,.nilslice] true :: AB.row 0 [.str s.note,vF,vN,vS,.nilslice] true :: K ∧ get T 0 = slV b cpE ls ∧ get T 1 = slV b' inE drs ∧ get T 4 = .ptr H.length 0 0 ∧ get T 7 = .ptr (H.length + 1) 0 0 ∧ get T 8 = vr ∧ get T 9 = .int .i64 k ∧ hdL (ls.take k) = s ∧ RowN fcE (H.length + 2) K vF s.F ∧ RowN nmE (H.length + 2) K vN s.N ∧ RowN scE (H.length + 2) K vS s.S ∧ RowN rwE (H.length + 2) K vr rows ∧ rows.map (·.2) = rowsA (shD ls drs k) s.T [] ∧ okS ls drs k = true) ?_ n _ _ _ ?_
 case refine_2 => exact ⟨0,[],⟨[],[],[],[],[]⟩,.nilslice,.nilslice,.nilslice,.nilslice,[],rfl,Nat.zero_le _,rfl,rfl,by simp [go_sem],by simp [go_sem],by simp [go_sem],by simp [go_sem],by simp [go_sem],by simp [go_sem],rfl,Or.inl ⟨rfl,rfl⟩,Or.inl ⟨rfl,rfl⟩,Or.inl ⟨rfl,rfl⟩,Or.inl ⟨rfl,rfl⟩,rfl,rfl⟩
 rintro m T D H' ⟨k,K,s,vF,vN,vS,vr,rows,rfl,hk,rfl,rfl,t0,t1,t4,t7,t8,t9,hs,hF,hN,hS,hR,hrows,hokS⟩
 obtain ⟨c11,c12,c13,c14,c15,c16,c17⟩ := hF.m.cell
 obtain ⟨c21,c22,c23,c24,c25,c26,c27⟩ := hN.m.cell
 obtain ⟨c31,c32,c33,c34,c35,c36,c37⟩ := hS.m.cell
 obtain ⟨c41,c42,c43,c44,c45,c46,c47⟩ := hR.m.cell
 have hrl : rows.length = k := by
  have := congrArg List.length hrows
  rw [List.length_map,rowsA_len,shD_len] at this
  exact this
 have hbd := hdL_len (ls.take k) 0 ⟨[],[],[],[],[]⟩ (fun x hx => hhd x (List.mem_of_mem_take hx)) ⟨by simp,by simp,by simp,rfl⟩
 have hmok := hdL_ok (ls.take k) 0 ⟨[],[],[],[],[]⟩ (fun c hc => ⟨hhd c (List.mem_of_mem_take hc),hok c (List.mem_of_mem_take hc)⟩) (by simp) (by rw [List.length_take]; omega) ⟨by simp,(fun x hx => by cases hx),(fun x hx => by cases hx),(fun x hx => by cases hx),(fun x hx => by cases hx)⟩
 rw [show (ls.take k).foldl hd1 ⟨[],[],[],[],[]⟩ = hdL (ls.take k) from rfl,hs] at hbd hmok
 rw [List.length_take_of_le (by omega)] at hbd
 by_cases hlt : k < n
 ·have hlt' : (k : Int) < n := by omega
  have hkl : k < ls.length := by omega
  have hlt2 : (k : Int) < ls.length := by omega
  have hsn := hdL_snoc hkl
  have hcv := hv _ (cpE.at_mem hkl)
  have hco := hok _ (cpE.at_mem hkl)
  have lc0 := fun H => ld_cpE_0 (H := H) hkl
  have lc2 := fun H => ld_cpE_2 (H := H) hkl
  have lc3 := fun H => ld_cpE_3 (H := H) hkl
  have hsh := shD_snoc ls drs k
  have hos := okS_snoc ls drs k
  have hno := okS_no (ls := ls) (drs := drs) (n := n) hlt
  obtain ⟨c,hc⟩ : ∃ c,cpE.at ls k = c := ⟨_,rfl⟩
  obtain ⟨y,hyy⟩ : ∃ y,inE.at drs k = y := ⟨_,rfl⟩
  rw [hs,hc] at hsn
  rw [hc] at lc0 lc2 lc3 hcv hco
  rw [hc,hyy] at hsh hos hno
  obtain ⟨b1,b2,b3,b4,b5⟩ := hd_ok hcv hco
  obtain ⟨nt,hnt⟩ : ∃ nt,s.note = nt := ⟨_,rfl⟩
  rw [hnt]
  by_cases hnote : nt = []
  ·subst hnote
   have hy := True.intro
   repeat' (first | simp (disch := first | rfl | omega | exact lt_new _ | assumption | decide | (simp [dkS] <;> omega) | fail) only [r17_0,r17_1,r17_2,r17_3,r17_4,r17_5,r17_6,r17_7,r17_8,r17_9,r17_10,r17_11,r17_12,r17_13,r17_14,r17_15,r17_16,r17_17,r17_18,r17_19,r17_20,r17_22,r17_23,r17_24,r17_25,r17_26,r17_27,r17_28,r17_29,r17_30,r17_31,r17_32,r17_33,r17_35,r17_36,r17_38,r17_39,r17_40,r17_41,r17_42,r17_43,r17_45,r17_46,r17_47,r17_49,r17_50,r17_51,r17_52,c17,rs17,gc17,l17_37,loadV_ptr,storeV_ptr,tkS,t0,t1,t4,t7,t8,t9,hnn,hlt',hlt2,lc0,c11,c12,c13,c14,c15,c16,c17,c21,c22,c23,c24,c25,c26,c27,c31,c32,c33,c34,c35,c36,c37,c41,c42,c43,c44,c45,c46,c47,go_sem,↓reduceIte,Nat.reduceLT,Nat.reduceEqDiff,Nat.reduceAdd,Nat.reduceMul,Nat.reduceSub,Int.reduceAdd,Int.reduceSub,Nat.reduceLeDiff,Int.reduceLT,Int.reduceLE,Int.reduceEq,Int.reduceNeg,Int.reduceToNat,hy] | ((first | refine guardB_dec (fun hy => ?_) (fun hy => ?_) | refine guardB_bool (fun hy => ?_) (fun hy => ?_) | refine guardQ_ite (fun hy => ?_) (fun hy => ?_) | refine brQ_dec (fun hy => ?_) (fun hy => ?_) | refine brQ_bool (fun hy => ?_) (fun hy => ?_)) <;> (try simp only [Bool.not_eq_true',Bool.not_eq_false',Bool.and_eq_true,Bool.or_eq_false_iff,decide_eq_true_eq,decide_eq_false_iff_not] at hy)))
   refine rl1 (b := b) (a1 := slV b' inE drs) (a4 := .ptr H.length 0 0) (a5 := _) (a8 := vr) (t0 := K.length) (k := k) (c := c) (F0 := s.F) (by simp [go_sem,t0]) (by simp [go_sem,t1]) (by simp [go_sem,t4]) rfl (by simp [go_sem,t7]) (by simp [go_sem,t8]) (by simp [go_sem,t9]) (by simp [go_sem,osV_nil]) (by simp [go_sem]) hkl hc (hF.app _) (by simp) b1 (by omega) ?_
   intro T1 K1 vF1 y0 y1 y4 y5 y7 y8 y9 y10 r1 kr1
   have gN1 := (hN.app _).keepR kr1 3 cl_nm (by decide)
   have gS1 := (hS.app _).keepR kr1 4 cl_sc (by decide)
   have gR1 := (hR.app _).keepR kr1 5 cl_rw (by decide)
   have pn : ∀ a x : AB,(H ++ [a,x]).length = H.length + 2 := by simp
   obtain ⟨vN1,K2,e60,r2,kq2⟩ := fn60 (b := c.namesN) (more := c.names) (P := H ++ [AB.row 0 [.str [],.nilslice,.nilslice,.nilslice,.nilslice] true,AB.row 0 [.str c.note,vF1,vN,vS,.nilslice] true]) (K := K1) (by rw [pn]; exact gN1) b2 b4 hmok.2.2.1 (by omega)
   rw [pn] at r2
   simp only [List.append_assoc,List.cons_append,List.nil_append] at e60
   have gF2 := r1.keepQ kq2 2 cl_fc (by decide)
   have gS2 := gS1.keepQ kq2 4 cl_sc (by decide)
   have gR2 := gR1.keepQ kq2 5 cl_rw (by decide)
   obtain ⟨vS1,K3,e61,r3,kq3⟩ := fn61 (b := c.secretsN) (more := c.secrets) (P := H ++ [AB.row 0 [.str [],.nilslice,.nilslice,.nilslice,.nilslice] true,AB.row 0 [.str c.note,vF1,vN1,vS,.nilslice] true]) (K := K2) (by rw [pn]; exact gS2) b3 b5 hmok.2.2.2.1 (by omega)
   rw [pn] at r3
   simp only [List.append_assoc,List.cons_append,List.nil_append] at e61
   have gF3 := gF2.keepQ kq3 2 cl_fc (by decide)
   have gN3 := r2.keepQ kq3 3 cl_nm (by decide)
   have gR3 := gR2.keepQ kq3 5 cl_rw (by decide)
   obtain ⟨df1,df2,df3,df4,df5,df6,df7⟩ := r1.m.cell
   obtain ⟨dn1,dn2,dn3,dn4,dn5,dn6,dn7⟩ := r2.m.cell
   obtain ⟨ds1,ds2,ds3,ds4,ds5,ds6,ds7⟩ := r3.m.cell
   have hy := True.intro
   repeat' (first | simp (disch := first | rfl | omega | exact lt_new _ | assumption | decide | (simp [dkS] <;> omega) | fail) only [r17_0,r17_1,r17_2,r17_3,r17_4,r17_5,r17_6,r17_7,r17_8,r17_9,r17_10,r17_11,r17_12,r17_13,r17_14,r17_15,r17_16,r17_17,r17_18,r17_19,r17_20,r17_22,r17_23,r17_24,r17_25,r17_26,r17_27,r17_28,r17_29,r17_30,r17_31,r17_32,r17_33,r17_35,r17_36,r17_38,r17_39,r17_40,r17_41,r17_42,r17_43,r17_45,r17_46,r17_47,r17_49,r17_50,r17_51,r17_52,c17,rs17,gc17,loadV_ptr,storeV_ptr,tkS,y0,y1,y4,y7,y8,y9,y10,hlt2,lc2,lc3,e60,e61,df1,df2,df3,df4,df5,df6,df7,dn1,dn2,dn3,dn4,dn5,dn6,dn7,ds1,ds2,ds3,ds4,ds5,ds6,ds7,c11,c12,c13,c14,c15,c16,c17,c21,c22,c23,c24,c25,c26,c27,c31,c32,c33,c34,c35,c36,c37,c41,c42,c43,c44,c45,c46,c47,go_sem,↓reduceIte,Nat.reduceLT,Nat.reduceEqDiff,Nat.reduceAdd,Nat.reduceMul,Nat.reduceSub,Int.reduceAdd,Int.reduceSub,Nat.reduceLeDiff,Int.reduceLT,Int.reduceLE,Int.reduceEq,Int.reduceNeg,Int.reduceToNat,hy] | ((first | refine guardB_dec (fun hy => ?_) (fun hy => ?_) | refine guardB_bool (fun hy => ?_) (fun hy => ?_) | refine guardQ_ite (fun hy => ?_) (fun hy => ?_) | refine brQ_dec (fun hy => ?_) (fun hy => ?_) | refine brQ_bool (fun hy => ?_) (fun hy => ?_)) <;> (try simp only [Bool.not_eq_true',Bool.not_eq_false',Bool.and_eq_true,Bool.or_eq_false_iff,decide_eq_true_eq,decide_eq_false_iff_not] at hy)))
   refine rl2 (b := b) (b' := b') (ls := ls) (drs := drs) (tb := (putsB s.F c.faces).2) (a8 := vr) (idt := H.length + (K.length + 1 + 1)) (t0 := K3.length) (k := k) (y := y) (c := c) (by simp [go_sem,y0]) (by simp [go_sem,y1]) (by simp [go_sem,y4]) (by simp [go_sem,y7]) (by simp [go_sem,y8]) (by simp [go_sem,y9]) (by simp [go_sem,y10]) (by simp [go_sem,osV_nil]) (by simp [go_sem]) hkl (by omega) hc hyy hcv (by have := (putsB_len c.faces s.F []).2; simpa [putsB] using this) (by simp) ?_ ?_
   ·intro T2 K4 z4 z5 hall
    rw [if_neg (by rw [hno (by rw [tm_no hcv hall]; decide)]; decide)]
    have hy := True.intro
    repeat' (first | simp (disch := first | rfl | omega | exact lt_new _ | assumption | decide | (simp [dkS] <;> omega) | fail) only [r17_0,r17_1,r17_2,r17_3,r17_4,r17_5,r17_6,r17_7,r17_8,r17_9,r17_10,r17_11,r17_12,r17_13,r17_14,r17_15,r17_16,r17_17,r17_18,r17_19,r17_20,r17_22,r17_23,r17_24,r17_25,r17_26,r17_27,r17_28,r17_29,r17_30,r17_31,r17_32,r17_33,r17_35,r17_36,r17_38,r17_39,r17_40,r17_41,r17_42,r17_43,r17_45,r17_46,r17_47,r17_49,r17_50,r17_51,r17_52,c17,rs17,gc17,loadV_ptr,storeV_ptr,tkS,z4,z5,go_sem,↓reduceIte,Nat.reduceLT,Nat.reduceEqDiff,Nat.reduceAdd,Nat.reduceMul,Nat.reduceSub,Int.reduceAdd,Int.reduceSub,Nat.reduceLeDiff,Int.reduceLT,Int.reduceLE,Int.reduceEq,Int.reduceNeg,Int.reduceToNat,hy] | ((first | refine guardB_dec (fun hy => ?_) (fun hy => ?_) | refine guardB_bool (fun hy => ?_) (fun hy => ?_) | refine guardQ_ite (fun hy => ?_) (fun hy => ?_) | refine brQ_dec (fun hy => ?_) (fun hy => ?_) | refine brQ_bool (fun hy => ?_) (fun hy => ?_)) <;> (try simp only [Bool.not_eq_true',Bool.not_eq_false',Bool.and_eq_true,Bool.or_eq_false_iff,decide_eq_true_eq,decide_eq_false_iff_not] at hy)))
    exact ⟨noCp,finQ_app (by rw [noCp_f]; simp (disch := first | rfl | omega | exact lt_new _ | assumption | decide | (simp [dkS] <;> omega) | fail) only [go_sem,↓reduceIte,Nat.reduceLT,Nat.reduceEqDiff,Nat.reduceAdd,Nat.reduceMul,Nat.reduceSub,Int.reduceAdd,Int.reduceSub,Nat.reduceLeDiff,Int.reduceLT,Int.reduceLE,Int.reduceEq,Int.reduceNeg,Int.reduceToNat]),CpEq.rfl' _⟩
   ·intro T2 K4 z0 z1 z4 z7 z8 z9 z13 hall kr4
    have gF4 := (gF3.app _).keepR kr4 2 cl_fc (by decide)
    have gN4 := (gN3.app _).keepR kr4 3 cl_nm (by decide)
    have gS4 := (r3.app _).keepR kr4 4 cl_sc (by decide)
    have gR4 := (gR3.app _).keepR kr4 5 cl_rw (by decide)
    obtain ⟨vr1,K5,eR,qR,kq5⟩ := push_rowQ (E := rwE) (w := 1) (by_ := 24) (q := 5) (A := H ++ [AB.row 0 [.str [],.nilslice,.nilslice,.nilslice,.nilslice] true,AB.row 0 [.str c.note,vF1,vN1,vS1,.nilslice] true]) (by simp) rfl gR4 (true,(c.packets.map (setT fun t => addF t y)).map (mp (putsB s.F c.faces).2)) (by omega) (by omega) cl_rw
    simp only [List.append_assoc,List.cons_append,List.nil_append,rwE_f] at eR
    obtain ⟨dr1,dr2,dr3,dr4,dr5,dr6,dr7⟩ := qR.m.cell
    have hy := True.intro
    repeat' (first | simp (disch := first | rfl | omega | exact lt_new _ | assumption | decide | (simp [dkS] <;> omega) | fail) only [r17_0,r17_1,r17_2,r17_3,r17_4,r17_5,r17_6,r17_7,r17_8,r17_9,r17_10,r17_11,r17_12,r17_13,r17_14,r17_15,r17_16,r17_17,r17_18,r17_19,r17_20,r17_22,r17_23,r17_24,r17_25,r17_26,r17_27,r17_28,r17_29,r17_30,r17_31,r17_32,r17_33,r17_35,r17_36,r17_38,r17_39,r17_40,r17_41,r17_42,r17_43,r17_45,r17_46,r17_47,r17_49,r17_50,r17_51,r17_52,c17,rs17,gc17,loadV_ptr,storeV_ptr,tkS,z0,z1,z4,z7,z8,z9,z13,eR,dr1,dr2,dr3,dr4,dr5,dr6,dr7,c11,c12,c13,c14,c15,c16,c17,c21,c22,c23,c24,c25,c26,c27,c31,c32,c33,c34,c35,c36,c37,c41,c42,c43,c44,c45,c46,c47,go_sem,↓reduceIte,Nat.reduceLT,Nat.reduceEqDiff,Nat.reduceAdd,Nat.reduceMul,Nat.reduceSub,Int.reduceAdd,Int.reduceSub,Nat.reduceLeDiff,Int.reduceLT,Int.reduceLE,Int.reduceEq,Int.reduceNeg,Int.reduceToNat,hy] | ((first | refine guardB_dec (fun hy => ?_) (fun hy => ?_) | refine guardB_bool (fun hy => ?_) (fun hy => ?_) | refine guardQ_ite (fun hy => ?_) (fun hy => ?_) | refine brQ_dec (fun hy => ?_) (fun hy => ?_) | refine brQ_bool (fun hy => ?_) (fun hy => ?_)) <;> (try simp only [Bool.not_eq_true',Bool.not_eq_false',Bool.and_eq_true,Bool.or_eq_false_iff,decide_eq_true_eq,decide_eq_false_iff_not] at hy)))
    refine ⟨_,by omega,k + 1,K5,hd1 s c,vF1,vN1,vS1,vr1,rows ++ [(true,_)],rfl,hlt,by simp [hd1,hnt],rfl,rfl,hsn,gF4.keepQ kq5 2 cl_fc (by decide),gN4.keepQ kq5 3 cl_nm (by decide),gS4.keepQ kq5 4 cl_sc (by decide),qR,?_,?_⟩
    ·rw [List.map_append,hrows,hsh,tm_eq hcv hall]
     exact (rowsA_app (D := shD ls drs k) (T := s.T) {c with packets := c.packets.map (setT fun t => addF t y)} (putsB s.F c.faces).2 (by rw [shD_len]; omega)).symm
    ·rw [hos,hokS,tm_eq hcv hall]; rfl
  ·skip
   have hy := True.intro
   repeat' (first | simp (disch := first | rfl | omega | exact lt_new _ | assumption | decide | (simp [dkS] <;> omega) | fail) only [r17_0,r17_1,r17_2,r17_3,r17_4,r17_5,r17_6,r17_7,r17_8,r17_9,r17_10,r17_11,r17_12,r17_13,r17_14,r17_15,r17_16,r17_17,r17_18,r17_19,r17_20,r17_22,r17_23,r17_24,r17_25,r17_26,r17_27,r17_28,r17_29,r17_30,r17_31,r17_32,r17_33,r17_35,r17_36,r17_38,r17_39,r17_40,r17_41,r17_42,r17_43,r17_45,r17_46,r17_47,r17_49,r17_50,r17_51,r17_52,c17,rs17,gc17,l17_37,loadV_ptr,storeV_ptr,tkS,t0,t1,t4,t7,t8,t9,hnn,hlt',hlt2,lc0,hnote,c11,c12,c13,c14,c15,c16,c17,c21,c22,c23,c24,c25,c26,c27,c31,c32,c33,c34,c35,c36,c37,c41,c42,c43,c44,c45,c46,c47,go_sem,↓reduceIte,Nat.reduceLT,Nat.reduceEqDiff,Nat.reduceAdd,Nat.reduceMul,Nat.reduceSub,Int.reduceAdd,Int.reduceSub,Nat.reduceLeDiff,Int.reduceLT,Int.reduceLE,Int.reduceEq,Int.reduceNeg,Int.reduceToNat,hy] | ((first | refine guardB_dec (fun hy => ?_) (fun hy => ?_) | refine guardB_bool (fun hy => ?_) (fun hy => ?_) | refine guardQ_ite (fun hy => ?_) (fun hy => ?_) | refine brQ_dec (fun hy => ?_) (fun hy => ?_) | refine brQ_bool (fun hy => ?_) (fun hy => ?_)) <;> (try simp only [Bool.not_eq_true',Bool.not_eq_false',Bool.and_eq_true,Bool.or_eq_false_iff,decide_eq_true_eq,decide_eq_false_iff_not] at hy)))
   refine rl1 (b := b) (a1 := slV b' inE drs) (a4 := .ptr H.length 0 0) (a5 := _) (a8 := vr) (t0 := K.length) (k := k) (c := c) (F0 := s.F) (by simp [go_sem,t0]) (by simp [go_sem,t1]) (by simp [go_sem,t4]) rfl (by simp [go_sem,t7]) (by simp [go_sem,t8]) (by simp [go_sem,t9]) (by simp [go_sem,osV_nil]) (by simp [go_sem]) hkl hc (hF.app _) (by simp) b1 (by omega) ?_
   intro T1 K1 vF1 y0 y1 y4 y5 y7 y8 y9 y10 r1 kr1
   have gN1 := (hN.app _).keepR kr1 3 cl_nm (by decide)
   have gS1 := (hS.app _).keepR kr1 4 cl_sc (by decide)
   have gR1 := (hR.app _).keepR kr1 5 cl_rw (by decide)
   have pn : ∀ a x : AB,(H ++ [a,x]).length = H.length + 2 := by simp
   obtain ⟨vN1,K2,e60,r2,kq2⟩ := fn60 (b := c.namesN) (more := c.names) (P := H ++ [AB.row 0 [.str [],.nilslice,.nilslice,.nilslice,.nilslice] true,AB.row 0 [.str nt,vF1,vN,vS,.nilslice] true]) (K := K1) (by rw [pn]; exact gN1) b2 b4 hmok.2.2.1 (by omega)
   rw [pn] at r2
   simp only [List.append_assoc,List.cons_append,List.nil_append] at e60
   have gF2 := r1.keepQ kq2 2 cl_fc (by decide)
   have gS2 := gS1.keepQ kq2 4 cl_sc (by decide)
   have gR2 := gR1.keepQ kq2 5 cl_rw (by decide)
   obtain ⟨vS1,K3,e61,r3,kq3⟩ := fn61 (b := c.secretsN) (more := c.secrets) (P := H ++ [AB.row 0 [.str [],.nilslice,.nilslice,.nilslice,.nilslice] true,AB.row 0 [.str nt,vF1,vN1,vS,.nilslice] true]) (K := K2) (by rw [pn]; exact gS2) b3 b5 hmok.2.2.2.1 (by omega)
   rw [pn] at r3
   simp only [List.append_assoc,List.cons_append,List.nil_append] at e61
   have gF3 := gF2.keepQ kq3 2 cl_fc (by decide)
   have gN3 := r2.keepQ kq3 3 cl_nm (by decide)
   have gR3 := gR2.keepQ kq3 5 cl_rw (by decide)
   obtain ⟨df1,df2,df3,df4,df5,df6,df7⟩ := r1.m.cell
   obtain ⟨dn1,dn2,dn3,dn4,dn5,dn6,dn7⟩ := r2.m.cell
   obtain ⟨ds1,ds2,ds3,ds4,ds5,ds6,ds7⟩ := r3.m.cell
   have hy := True.intro
   repeat' (first | simp (disch := first | rfl | omega | exact lt_new _ | assumption | decide | (simp [dkS] <;> omega) | fail) only [r17_0,r17_1,r17_2,r17_3,r17_4,r17_5,r17_6,r17_7,r17_8,r17_9,r17_10,r17_11,r17_12,r17_13,r17_14,r17_15,r17_16,r17_17,r17_18,r17_19,r17_20,r17_22,r17_23,r17_24,r17_25,r17_26,r17_27,r17_28,r17_29,r17_30,r17_31,r17_32,r17_33,r17_35,r17_36,r17_38,r17_39,r17_40,r17_41,r17_42,r17_43,r17_45,r17_46,r17_47,r17_49,r17_50,r17_51,r17_52,c17,rs17,gc17,loadV_ptr,storeV_ptr,tkS,y0,y1,y4,y7,y8,y9,y10,hlt2,lc2,lc3,e60,e61,df1,df2,df3,df4,df5,df6,df7,dn1,dn2,dn3,dn4,dn5,dn6,dn7,ds1,ds2,ds3,ds4,ds5,ds6,ds7,c11,c12,c13,c14,c15,c16,c17,c21,c22,c23,c24,c25,c26,c27,c31,c32,c33,c34,c35,c36,c37,c41,c42,c43,c44,c45,c46,c47,go_sem,↓reduceIte,Nat.reduceLT,Nat.reduceEqDiff,Nat.reduceAdd,Nat.reduceMul,Nat.reduceSub,Int.reduceAdd,Int.reduceSub,Nat.reduceLeDiff,Int.reduceLT,Int.reduceLE,Int.reduceEq,Int.reduceNeg,Int.reduceToNat,hy] | ((first | refine guardB_dec (fun hy => ?_) (fun hy => ?_) | refine guardB_bool (fun hy => ?_) (fun hy => ?_) | refine guardQ_ite (fun hy => ?_) (fun hy => ?_) | refine brQ_dec (fun hy => ?_) (fun hy => ?_) | refine brQ_bool (fun hy => ?_) (fun hy => ?_)) <;> (try simp only [Bool.not_eq_true',Bool.not_eq_false',Bool.and_eq_true,Bool.or_eq_false_iff,decide_eq_true_eq,decide_eq_false_iff_not] at hy)))
   refine rl2 (b := b) (b' := b') (ls := ls) (drs := drs) (tb := (putsB s.F c.faces).2) (a8 := vr) (idt := H.length + (K.length + 1 + 1)) (t0 := K3.length) (k := k) (y := y) (c := c) (by simp [go_sem,y0]) (by simp [go_sem,y1]) (by simp [go_sem,y4]) (by simp [go_sem,y7]) (by simp [go_sem,y8]) (by simp [go_sem,y9]) (by simp [go_sem,y10]) (by simp [go_sem,osV_nil]) (by simp [go_sem]) hkl (by omega) hc hyy hcv (by have := (putsB_len c.faces s.F []).2; simpa [putsB] using this) (by simp) ?_ ?_
   ·intro T2 K4 z4 z5 hall
    rw [if_neg (by rw [hno (by rw [tm_no hcv hall]; decide)]; decide)]
    have hy := True.intro
    repeat' (first | simp (disch := first | rfl | omega | exact lt_new _ | assumption | decide | (simp [dkS] <;> omega) | fail) only [r17_0,r17_1,r17_2,r17_3,r17_4,r17_5,r17_6,r17_7,r17_8,r17_9,r17_10,r17_11,r17_12,r17_13,r17_14,r17_15,r17_16,r17_17,r17_18,r17_19,r17_20,r17_22,r17_23,r17_24,r17_25,r17_26,r17_27,r17_28,r17_29,r17_30,r17_31,r17_32,r17_33,r17_35,r17_36,r17_38,r17_39,r17_40,r17_41,r17_42,r17_43,r17_45,r17_46,r17_47,r17_49,r17_50,r17_51,r17_52,c17,rs17,gc17,loadV_ptr,storeV_ptr,tkS,z4,z5,go_sem,↓reduceIte,Nat.reduceLT,Nat.reduceEqDiff,Nat.reduceAdd,Nat.reduceMul,Nat.reduceSub,Int.reduceAdd,Int.reduceSub,Nat.reduceLeDiff,Int.reduceLT,Int.reduceLE,Int.reduceEq,Int.reduceNeg,Int.reduceToNat,hy] | ((first | refine guardB_dec (fun hy => ?_) (fun hy => ?_) | refine guardB_bool (fun hy => ?_) (fun hy => ?_) | refine guardQ_ite (fun hy => ?_) (fun hy => ?_) | refine brQ_dec (fun hy => ?_) (fun hy => ?_) | refine brQ_bool (fun hy => ?_) (fun hy => ?_)) <;> (try simp only [Bool.not_eq_true',Bool.not_eq_false',Bool.and_eq_true,Bool.or_eq_false_iff,decide_eq_true_eq,decide_eq_false_iff_not] at hy)))
    exact ⟨noCp,finQ_app (by rw [noCp_f]; simp (disch := first | rfl | omega | exact lt_new _ | assumption | decide | (simp [dkS] <;> omega) | fail) only [go_sem,↓reduceIte,Nat.reduceLT,Nat.reduceEqDiff,Nat.reduceAdd,Nat.reduceMul,Nat.reduceSub,Int.reduceAdd,Int.reduceSub,Nat.reduceLeDiff,Int.reduceLT,Int.reduceLE,Int.reduceEq,Int.reduceNeg,Int.reduceToNat]),CpEq.rfl' _⟩
   ·intro T2 K4 z0 z1 z4 z7 z8 z9 z13 hall kr4
    have gF4 := (gF3.app _).keepR kr4 2 cl_fc (by decide)
    have gN4 := (gN3.app _).keepR kr4 3 cl_nm (by decide)
    have gS4 := (r3.app _).keepR kr4 4 cl_sc (by decide)
    have gR4 := (gR3.app _).keepR kr4 5 cl_rw (by decide)
    obtain ⟨vr1,K5,eR,qR,kq5⟩ := push_rowQ (E := rwE) (w := 1) (by_ := 24) (q := 5) (A := H ++ [AB.row 0 [.str [],.nilslice,.nilslice,.nilslice,.nilslice] true,AB.row 0 [.str nt,vF1,vN1,vS1,.nilslice] true]) (by simp) rfl gR4 (true,(c.packets.map (setT fun t => addF t y)).map (mp (putsB s.F c.faces).2)) (by omega) (by omega) cl_rw
    simp only [List.append_assoc,List.cons_append,List.nil_append,rwE_f] at eR
    obtain ⟨dr1,dr2,dr3,dr4,dr5,dr6,dr7⟩ := qR.m.cell
    have hy := True.intro
    repeat' (first | simp (disch := first | rfl | omega | exact lt_new _ | assumption | decide | (simp [dkS] <;> omega) | fail) only [r17_0,r17_1,r17_2,r17_3,r17_4,r17_5,r17_6,r17_7,r17_8,r17_9,r17_10,r17_11,r17_12,r17_13,r17_14,r17_15,r17_16,r17_17,r17_18,r17_19,r17_20,r17_22,r17_23,r17_24,r17_25,r17_26,r17_27,r17_28,r17_29,r17_30,r17_31,r17_32,r17_33,r17_35,r17_36,r17_38,r17_39,r17_40,r17_41,r17_42,r17_43,r17_45,r17_46,r17_47,r17_49,r17_50,r17_51,r17_52,c17,rs17,gc17,loadV_ptr,storeV_ptr,tkS,z0,z1,z4,z7,z8,z9,z13,eR,dr1,dr2,dr3,dr4,dr5,dr6,dr7,c11,c12,c13,c14,c15,c16,c17,c21,c22,c23,c24,c25,c26,c27,c31,c32,c33,c34,c35,c36,c37,c41,c42,c43,c44,c45,c46,c47,go_sem,↓reduceIte,Nat.reduceLT,Nat.reduceEqDiff,Nat.reduceAdd,Nat.reduceMul,Nat.reduceSub,Int.reduceAdd,Int.reduceSub,Nat.reduceLeDiff,Int.reduceLT,Int.reduceLE,Int.reduceEq,Int.reduceNeg,Int.reduceToNat,hy] | ((first | refine guardB_dec (fun hy => ?_) (fun hy => ?_) | refine guardB_bool (fun hy => ?_) (fun hy => ?_) | refine guardQ_ite (fun hy => ?_) (fun hy => ?_) | refine brQ_dec (fun hy => ?_) (fun hy => ?_) | refine brQ_bool (fun hy => ?_) (fun hy => ?_)) <;> (try simp only [Bool.not_eq_true',Bool.not_eq_false',Bool.and_eq_true,Bool.or_eq_false_iff,decide_eq_true_eq,decide_eq_false_iff_not] at hy)))
    refine ⟨_,by omega,k + 1,K5,hd1 s c,vF1,vN1,vS1,vr1,rows ++ [(true,_)],rfl,hlt,by simp [hd1,hnt,hnote],rfl,rfl,hsn,gF4.keepQ kq5 2 cl_fc (by decide),gN4.keepQ kq5 3 cl_nm (by decide),gS4.keepQ kq5 4 cl_sc (by decide),qR,?_,?_⟩
    ·rw [List.map_append,hrows,hsh,tm_eq hcv hall]
     exact (rowsA_app (D := shD ls drs k) (T := s.T) {c with packets := c.packets.map (setT fun t => addF t y)} (putsB s.F c.faces).2 (by rw [shD_len]; omega)).symm
    ·rw [hos,hokS,tm_eq hcv hall]; rfl
 ·obtain rfl : k = n := by omega
  rw [if_pos hokS]
  have hfacts := fun x (hx : x ∈ shD ls drs k) => ds_ok (ls := ls) (drs := drs) (ds := shD ls drs k) (by rw [hnn]) hok hv (by rw [hnn]; exact hokS) (x := x) hx
  obtain ⟨hm,hF30,hN30,hS30,htot,hpk⟩ := mgC_ok (ds := shD ls drs k) (by rw [shD_len]; omega) hfacts
  have hsD : hdL (shD ls drs k) = s := by rw [hdS hv k (by omega) hokS,hs]
  have hmc0 : mgC (shD ls drs k) = ⟨s.note,true,s.F,true,s.N,true,s.S,true,mrg (tot (rowsA (shD ls drs k) s.T [])) (rowsA (shD ls drs k) s.T [])⟩ := by unfold mgC; rw [hsD]
  rw [hsD] at hm hF30 hN30 hS30 htot hpk
  rw [shD_len] at htot
  rw [hmc0]
  clear hmc0 hfacts
  rw [← hrows] at htot hpk ⊢
  obtain ⟨R,hRR⟩ : ∃ R,mrg (tot (rows.map (·.2))) (rows.map (·.2)) = R := ⟨_,rfl⟩
  obtain ⟨t0n,ht0⟩ : ∃ t,tot (rows.map (·.2)) = t := ⟨_,rfl⟩
  have hpkR : ∀ p ∈ R,PkOk p := fun p hp => hpk _ p (by rw [hRR]; exact hp)
  rw [hRR]
  rw [ht0] at htot
  have hy := True.intro
  repeat' (first | simp (disch := first | rfl | omega | exact lt_new _ | assumption | decide | (simp [dkS] <;> omega) | fail) only [r17_0,r17_1,r17_2,r17_3,r17_4,r17_5,r17_6,r17_7,r17_8,r17_9,r17_10,r17_11,r17_12,r17_13,r17_14,r17_15,r17_16,r17_17,r17_18,r17_19,r17_20,r17_22,r17_23,r17_24,r17_25,r17_26,r17_27,r17_28,r17_29,r17_30,r17_31,r17_32,r17_33,r17_35,r17_36,r17_38,r17_39,r17_40,r17_41,r17_42,r17_43,r17_45,r17_46,r17_47,r17_49,r17_50,r17_51,r17_52,c17,rs17,gc17,l17_37,loadV_ptr,storeV_ptr,tkS,t0,t1,t4,t7,t8,t9,hnn,Int.lt_irrefl,go_sem,↓reduceIte,Nat.reduceLT,Nat.reduceEqDiff,Nat.reduceAdd,Nat.reduceMul,Nat.reduceSub,Int.reduceAdd,Int.reduceSub,Nat.reduceLeDiff,Int.reduceLT,Int.reduceLE,Int.reduceEq,Int.reduceNeg,Int.reduceToNat,hy] | ((first | refine guardB_dec (fun hy => ?_) (fun hy => ?_) | refine guardB_bool (fun hy => ?_) (fun hy => ?_) | refine guardQ_ite (fun hy => ?_) (fun hy => ?_) | refine brQ_dec (fun hy => ?_) (fun hy => ?_) | refine brQ_bool (fun hy => ?_) (fun hy => ?_)) <;> (try simp only [Bool.not_eq_true',Bool.not_eq_false',Bool.and_eq_true,Bool.or_eq_false_iff,decide_eq_true_eq,decide_eq_false_iff_not] at hy)))
  refine Wp_loop (fun m T D H' => ∃ K vP pk rows,D = [] ∧ H' = H ++ AB.row 0 [.str [],.nilslice,.nilslice,.nilslice,.nilslice] true :: AB.row 0 [.str s.note,vF,vN,vS,vP] true :: K ∧ get T 4 = .ptr H.length 0 0 ∧ get T 7 = .ptr (H.length + 1) 0 0 ∧ get T 8 = vr ∧ RowN fcE (H.length + 2) K vF s.F ∧ RowN nmE (H.length + 2) K vN s.N ∧ RowN scE (H.length + 2) K vS s.S ∧ RowN rwE (H.length + 2) K vr rows ∧ RowN pkE (H.length + 2) K vP pk ∧ rows.length = k ∧ pk ++ mrg m (rows.map (·.2)) = R ∧ tot (rows.map (·.2)) = m ∧ pk.length + m = t0n) ?_ t0n _ _ _ ?_
  case refine_2 => exact ⟨K,.nilslice,[],rows,rfl,rfl,by simp [go_sem,t4],by simp [go_sem,t7],by simp [go_sem,t8],hF,hN,hS,hR,Or.inl ⟨rfl,rfl⟩,hrl,by rw [← ht0]; exact hRR,ht0,by simp⟩
  clear t0 t1 t4 t7 t8 t9 hF hN hS hR hRR hpk hrows hrl hbd
  rintro m T D H' ⟨K,vP,pk,rows,rfl,rfl,t4,t7,t8,hF,hN,hS,hR,hP,hrl,hmr,htm,hpl⟩
  obtain ⟨p1,p2,p3,p4,p5,p6,p7⟩ := hP.m.cell
  have hy := True.intro
  repeat' (first | simp (disch := first | rfl | omega | exact lt_new _ | assumption | decide | (simp [dkS] <;> omega) | fail) only [r17_0,r17_1,r17_2,r17_3,r17_4,r17_5,r17_6,r17_7,r17_8,r17_9,r17_10,r17_11,r17_12,r17_13,r17_14,r17_15,r17_16,r17_17,r17_18,r17_19,r17_20,r17_22,r17_23,r17_24,r17_25,r17_26,r17_27,r17_28,r17_29,r17_30,r17_31,r17_32,r17_33,r17_35,r17_36,r17_38,r17_39,r17_40,r17_41,r17_42,r17_43,r17_45,r17_46,r17_47,r17_49,r17_50,r17_51,r17_52,c17,rs17,gc17,l17_48,loadV_ptr,storeV_ptr,tkS,t4,t7,t8,go_sem,↓reduceIte,Nat.reduceLT,Nat.reduceEqDiff,Nat.reduceAdd,Nat.reduceMul,Nat.reduceSub,Int.reduceAdd,Int.reduceSub,Nat.reduceLeDiff,Int.reduceLT,Int.reduceLE,Int.reduceEq,Int.reduceNeg,Int.reduceToNat,hy] | ((first | refine guardB_dec (fun hy => ?_) (fun hy => ?_) | refine guardB_bool (fun hy => ?_) (fun hy => ?_) | refine guardQ_ite (fun hy => ?_) (fun hy => ?_) | refine brQ_dec (fun hy => ?_) (fun hy => ?_) | refine brQ_bool (fun hy => ?_) (fun hy => ?_)) <;> (try simp only [Bool.not_eq_true',Bool.not_eq_false',Bool.and_eq_true,Bool.or_eq_false_iff,decide_eq_true_eq,decide_eq_false_iff_not] at hy)))
  refine rl3 (a4 := .ptr H.length 0 0) (a7 := .ptr (H.length + 1) 0 0) (by simp [go_sem,t4]) (by simp [go_sem,t7]) (by simp [go_sem,t8]) (by simp [go_sem]) (by simp [go_sem]) hR (by omega) ?_
  clear t4 t7 t8
  intro T' t4 t7 t8 t18
  rw [show rows.length = (rows.map (·.2)).length by simp] at t18
  rcases bestN_in (rwT (rows.map (·.2))) (rows.map (·.2)).length with hb | ⟨j,hb,hj,hne⟩
  ·rw [hb] at t18
   have hpR : pk = R := by rw [← hmr,mrg_end hb,List.append_nil]
   have hok2 : CpOk ⟨s.note,true,s.F,true,s.N,true,s.S,true,pk⟩ := ⟨hm.1,hm.2.1,by show s.F.length ≤ _; omega,hm.2.2.1,by show s.N.length ≤ _; omega,hm.2.2.2.1,by show s.S.length ≤ _; omega,by rw [hpR]; exact hpkR,by show pk.length ≤ _; omega⟩
   have e63 := (val57 (A := H ++ [AB.row 0 [.str [],.nilslice,.nilslice,.nilslice,.nilslice] true,AB.row 0 [.str s.note,vF,vN,vS,vP] true]) (note := s.note) hF hN hS hP (by simp) hok2).2
   simp only [List.append_assoc,List.cons_append,List.nil_append] at e63
   rw [← hpR]
   obtain ⟨ov,hov⟩ : ∃ v,valE ⟨s.note,true,s.F,true,s.N,true,s.S,true,pk⟩ = v := ⟨_,rfl⟩
   rw [hov] at e63 ⊢
   have hge : (-1 : Int) < 0 := by decide
   by_cases hv0 : ov = 0
   ·subst hv0
    rw [if_pos rfl]
    have hy := True.intro
    repeat' (first | simp (disch := first | rfl | omega | exact lt_new _ | assumption | decide | (simp [dkS] <;> omega) | fail) only [r17_0,r17_1,r17_2,r17_3,r17_4,r17_5,r17_6,r17_7,r17_8,r17_9,r17_10,r17_11,r17_12,r17_13,r17_14,r17_15,r17_16,r17_17,r17_18,r17_19,r17_20,r17_22,r17_23,r17_24,r17_25,r17_26,r17_27,r17_28,r17_29,r17_30,r17_31,r17_32,r17_33,r17_35,r17_36,r17_38,r17_39,r17_40,r17_41,r17_42,r17_43,r17_45,r17_46,r17_47,r17_49,r17_50,r17_51,r17_52,c17,rs17,gc17,loadV_ptr,storeV_ptr,tkS,t4,t7,t8,t18,hge,e63,p1,p2,p3,p4,p5,p6,p7,c11,c12,c13,c14,c15,c16,c17,c21,c22,c23,c24,c25,c26,c27,c31,c32,c33,c34,c35,c36,c37,c41,c42,c43,c44,c45,c46,c47,go_sem,↓reduceIte,Nat.reduceLT,Nat.reduceEqDiff,Nat.reduceAdd,Nat.reduceMul,Nat.reduceSub,Int.reduceAdd,Int.reduceSub,Nat.reduceLeDiff,Int.reduceLT,Int.reduceLE,Int.reduceEq,Int.reduceNeg,Int.reduceToNat,hy] | ((first | refine guardB_dec (fun hy => ?_) (fun hy => ?_) | refine guardB_bool (fun hy => ?_) (fun hy => ?_) | refine guardQ_ite (fun hy => ?_) (fun hy => ?_) | refine brQ_dec (fun hy => ?_) (fun hy => ?_) | refine brQ_bool (fun hy => ?_) (fun hy => ?_)) <;> (try simp only [Bool.not_eq_true',Bool.not_eq_false',Bool.and_eq_true,Bool.or_eq_false_iff,decide_eq_true_eq,decide_eq_false_iff_not] at hy)))
    have hin : ∀ {α : Type} {E : Enc α} {v : V} {l : List α},RowN E (H.length + 2) K v l → ∃ b,inlC H.length (H ++ AB.row 0 [.str s.note,vF,vN,vS,vP] true :: AB.row 0 [.str s.note,vF,vN,vS,vP] true :: K) 8 v = some (slV b E l) := fun {_ _ _ _} h => by
     have := h.m.inl (f := 6) (A := H ++ [AB.row 0 [.str s.note,vF,vN,vS,vP] true,AB.row 0 [.str s.note,vF,vN,vS,vP] true]) (m := H.length) (by simp) (by omega)
     simpa only [List.append_assoc,List.cons_append,List.nil_append] using this
    obtain ⟨b1,i1⟩ := hin hF
    obtain ⟨b2,i2⟩ := hin hN
    obtain ⟨b3,i3⟩ := hin hS
    obtain ⟨b4,i4⟩ := hin hP
    refine ⟨⟨s.note,b1,s.F,b2,s.N,b3,s.S,b4,pk⟩,finQ_app ?_,rfl,rfl,rfl,rfl,rfl⟩
    simp (disch := first | rfl | omega | exact lt_new _ | assumption | decide | (simp [dkS] <;> omega) | fail) only [go_sem,↓reduceIte,Nat.reduceLT,Nat.reduceEqDiff,Nat.reduceAdd,Nat.reduceMul,Nat.reduceSub,Int.reduceAdd,Int.reduceSub,Nat.reduceLeDiff,Int.reduceLT,Int.reduceLE,Int.reduceEq,Int.reduceNeg,Int.reduceToNat,i1,i2,i3,i4,cpE_f]
   ·rw [if_neg hv0]
    have hy := True.intro
    repeat' (first | simp (disch := first | rfl | omega | exact lt_new _ | assumption | decide | (simp [dkS] <;> omega) | fail) only [r17_0,r17_1,r17_2,r17_3,r17_4,r17_5,r17_6,r17_7,r17_8,r17_9,r17_10,r17_11,r17_12,r17_13,r17_14,r17_15,r17_16,r17_17,r17_18,r17_19,r17_20,r17_22,r17_23,r17_24,r17_25,r17_26,r17_27,r17_28,r17_29,r17_30,r17_31,r17_32,r17_33,r17_35,r17_36,r17_38,r17_39,r17_40,r17_41,r17_42,r17_43,r17_45,r17_46,r17_47,r17_49,r17_50,r17_51,r17_52,c17,rs17,gc17,loadV_ptr,storeV_ptr,tkS,t4,t7,t8,t18,hge,e63,hv0,p1,p2,p3,p4,p5,p6,p7,c11,c12,c13,c14,c15,c16,c17,c21,c22,c23,c24,c25,c26,c27,c31,c32,c33,c34,c35,c36,c37,c41,c42,c43,c44,c45,c46,c47,go_sem,↓reduceIte,Nat.reduceLT,Nat.reduceEqDiff,Nat.reduceAdd,Nat.reduceMul,Nat.reduceSub,Int.reduceAdd,Int.reduceSub,Nat.reduceLeDiff,Int.reduceLT,Int.reduceLE,Int.reduceEq,Int.reduceNeg,Int.reduceToNat,hy] | ((first | refine guardB_dec (fun hy => ?_) (fun hy => ?_) | refine guardB_bool (fun hy => ?_) (fun hy => ?_) | refine guardQ_ite (fun hy => ?_) (fun hy => ?_) | refine brQ_dec (fun hy => ?_) (fun hy => ?_) | refine brQ_bool (fun hy => ?_) (fun hy => ?_)) <;> (try simp only [Bool.not_eq_true',Bool.not_eq_false',Bool.and_eq_true,Bool.or_eq_false_iff,decide_eq_true_eq,decide_eq_false_iff_not] at hy)))
    exact ⟨noCp,finQ_app (by rw [noCp_f]; simp (disch := first | rfl | omega | exact lt_new _ | assumption | decide | (simp [dkS] <;> omega) | fail) only [go_sem,↓reduceIte,Nat.reduceLT,Nat.reduceEqDiff,Nat.reduceAdd,Nat.reduceMul,Nat.reduceSub,Int.reduceAdd,Int.reduceSub,Nat.reduceLeDiff,Int.reduceLT,Int.reduceLE,Int.reduceEq,Int.reduceNeg,Int.reduceToNat]),CpEq.rfl' _⟩
  ·have hjl : j < rows.length := by simpa using hj
   have hjl' : (j : Int) < rows.length := by omega
   have hne0 := (rw_ne hjl).1 hne
   have lj : partV Try.prog 29 (flatE rwE rows) (j * 1) = some (slV (rwE.at rows j).1 pkE (rwE.at rows j).2) := by
    rw [lq_cell0 (E := rwE) (l := rows) (t := 29) (w := 1) (i := j) g29 rfl hjl]; rfl
   have hgd := getD_snd hjl
   obtain ⟨r,hr0⟩ : ∃ r,rwE.at rows j = r := ⟨_,rfl⟩
   rw [hr0] at lj hne0 hgd
   have lp : ∀ H,loadV Try.prog 56 H (.ipt (flatE pkE r.2) 0) = some (.agg (pkE.f (pkE.at r.2 0))) := fun H => by
    have := ld_pkE (l := r.2) (i := 0) (H := H) (by omega)
    rw [Nat.zero_mul] at this
    exact this
   have hms := fun f => mrg_step (f := f) (rows := rows.map (·.2)) (j := j) hb
   have htot1 := tot_set (rows.map (·.2)) j (by simpa using hjl) (by rw [hgd]; intro e; rw [e] at hne0; simp at hne0)
   rw [hgd] at hms htot1
   rw [htm] at htot1
   have hrs : ∀ x : Bool,(rows.set j (x,r.2.tail)).map (·.2) = (rows.map (·.2)).set j r.2.tail := fun x => by rw [List.map_set]
   obtain ⟨f,rfl⟩ : ∃ f,m = f + 1 := ⟨m - 1,by omega⟩
   have hms := hms f
   obtain ⟨p,hp⟩ : ∃ p,pkE.at r.2 0 = p := ⟨_,rfl⟩
   rw [hp] at lp hms
   obtain ⟨vP',K',ea,qa,hkq⟩ := push_rowQ (E := pkE) (w := 5) (by_ := 64) (q := 6) (A := H ++ [AB.row 0 [.str [],.nilslice,.nilslice,.nilslice,.nilslice] true,AB.row 0 [.str s.note,vF,vN,vS,vP] true]) (by simp) rfl hP p (by omega) (by omega) cl_pk
   simp only [List.append_assoc,List.cons_append,List.nil_append] at ea
   obtain ⟨q1,q2,q3,q4,q5,q6,q7⟩ := qa.m.cell
   have wF := hF.keepQ hkq 2 cl_fc (by decide)
   have wN := hN.keepQ hkq 3 cl_nm (by decide)
   have wS := hS.keepQ hkq 4 cl_sc (by decide)
   have hrows0 : rows ≠ [] := fun e => by rw [e] at hjl; exact Nat.not_lt_zero _ hjl
   obtain ⟨jr,gr,hvr,hjr,hrr,hrb⟩ := hR.row hrows0
   have hrb' : K'[jr]? = some (AB.row gr (flatE rwE rows) true) := hkq.2 jr _ hrb fun g cs o he => by injection he with _ he _; rw [← he,cl_rw hrows0]; decide
   have hrr' : getRow K' jr gr = some (flatE rwE rows,true) := getRow_of hrb'
   have hjr' := (List.getElem?_eq_some_iff.1 hrb').1
   have hvr' : vr = .slice (H.length + (jr + 1 + 1)) gr 0 rows.length 1 .full := by rw [hvr,show H.length + 2 + jr = H.length + (jr + 1 + 1) by omega]; rfl
   have hfl : (flatE rwE rows).length = rows.length := by rw [flatE_len]; exact Nat.mul_one _
   have hle : j * 1 + 1 ≤ rows.length := by omega
   have hct : ∀ H,sliceV Try.prog 29 H (slV r.1 pkE r.2) (some (.int .i64 1)) none = some (slV (r.1 && decide (r.2.length = 0)) pkE r.2.tail) := fun H => by
    rw [hi29,ct29 rfl ⟨by omega,by omega,by omega⟩]
    congr 2
    rw [show Int.toNat 1 = 1 from rfl,Int.toNat_natCast,List.drop_one,List.take_of_length_le (by simp)]
   have hset : setAt (flatE rwE rows) (j * 1) [slV (r.1 && decide (r.2.length = 0)) pkE r.2.tail] = flatE rwE (rows.set j (r.1 && decide (r.2.length = 0),r.2.tail)) := by
    have := flatE_set (E := rwE) (l := rows) (i := j) (j := 0) (v := slV (r.1 && decide (r.2.length = 0)) pkE r.2.tail) (a := (r.1 && decide (r.2.length = 0),r.2.tail)) hjl (by decide) rfl
    rw [show rwE.w = 1 from rfl,Nat.add_zero] at this
    exact this
   obtain ⟨hk5,qr⟩ := set_rowQ (n := H.length + 2) (l' := rows.set j (r.1 && decide (r.2.length = 0),r.2.tail)) hrb' hrows0 (by simp) (cl_rw hrows0)
   rw [← hvr] at qr
   rw [hb] at t18
   have hge : ¬ (j : Int) < 0 := by omega
   rw [hvr'] at t8
   have hy := True.intro
   repeat' (first | simp (disch := first | rfl | omega | exact lt_new _ | assumption | decide | (simp [dkS] <;> omega) | fail) only [r17_0,r17_1,r17_2,r17_3,r17_4,r17_5,r17_6,r17_7,r17_8,r17_9,r17_10,r17_11,r17_12,r17_13,r17_14,r17_15,r17_16,r17_17,r17_18,r17_19,r17_20,r17_22,r17_23,r17_24,r17_25,r17_26,r17_27,r17_28,r17_29,r17_30,r17_31,r17_32,r17_33,r17_35,r17_36,r17_38,r17_39,r17_40,r17_41,r17_42,r17_43,r17_45,r17_46,r17_47,r17_49,r17_50,r17_51,r17_52,c17,rs17,gc17,loadV_ptr,storeV_ptr,tkS,t4,t7,t8,t18,hge,hjl',gr_l hjr,gr_l hjr',st_l hjr',hrr,hrr',lj,hne0,lp,ea,hct,hset,hfl,hle,p1,p2,p3,p4,p5,p6,p7,q1,q2,q3,q4,q5,q6,q7,go_sem,↓reduceIte,Nat.reduceLT,Nat.reduceEqDiff,Nat.reduceAdd,Nat.reduceMul,Nat.reduceSub,Int.reduceAdd,Int.reduceSub,Nat.reduceLeDiff,Int.reduceLT,Int.reduceLE,Int.reduceEq,Int.reduceNeg,Int.reduceToNat,hy] | ((first | refine guardB_dec (fun hy => ?_) (fun hy => ?_) | refine guardB_bool (fun hy => ?_) (fun hy => ?_) | refine guardQ_ite (fun hy => ?_) (fun hy => ?_) | refine brQ_dec (fun hy => ?_) (fun hy => ?_) | refine brQ_bool (fun hy => ?_) (fun hy => ?_)) <;> (try simp only [Bool.not_eq_true',Bool.not_eq_false',Bool.and_eq_true,Bool.or_eq_false_iff,decide_eq_true_eq,decide_eq_false_iff_not] at hy)))
   exact ⟨f,by omega,_,vP',pk ++ [p],rows.set j (r.1 && decide (r.2.length = 0),r.2.tail),rfl,hvr'.symm,wF.keepQ hk5 2 cl_fc (by decide),wN.keepQ hk5 3 cl_nm (by decide),wS.keepQ hk5 4 cl_sc (by decide),qr,qa.keepQ hk5 6 cl_pk (by decide),by rw [List.length_set]; exact hrl,by rw [hrs,List.append_assoc,List.singleton_append,← hms]; exact hmr,by rw [hrs]; omega,by rw [List.length_append,List.length_singleton]; omega⟩
theorem fn14b {b : Bool} {l : List Cp} (hok : ∀ c ∈ l,CpOk c) (hl : l.length ≤ 2 ^ 41) (H : Hp) : ∃ n,callL Try.prog pr 14 [slV b cpE l] H = some (.int .i64 n,H) ∧ (askE l = 0 → (l.length : Int) ≤ n ∧ n ≤ l.length * 1000001) := by
 suffices h : ∃ r,callL Try.prog pr 14 [slV b cpE l] H = some r ∧ ∃ n,r = (.int .i64 n,H) ∧ (askE l = 0 → (l.length : Int) ≤ n ∧ n ≤ l.length * 1000001) by
  obtain ⟨_,h1,n,rfl,h2⟩ := h; exact ⟨n,h1,h2⟩
 refine ex14 (Nat.le_of_ble_eq_true rfl) ?_
 simp (disch := first | rfl | omega | exact lt_new _ | assumption | decide | (simp [dkS] <;> omega) | fail) only [r14_0,r14_1,r14_2,r14_3,r14_4,r14_5,r14_7,c14,rs14,gc14,go_sem,↓reduceIte,Nat.reduceLT,Nat.reduceEqDiff,Nat.reduceAdd,Nat.reduceMul,Nat.reduceSub,Int.reduceAdd,Int.reduceSub,Nat.reduceLeDiff,Int.reduceLT,Int.reduceLE,Int.reduceEq,Int.reduceNeg,Int.reduceToNat]
 refine Wp_loop (fun m T D H' => ∃ i n,m = l.length - i ∧ i ≤ l.length ∧ D = [] ∧ H' = H ∧ get T 0 = slV b cpE l ∧ get T 4 = .int .i64 i ∧ get T 3 = .int .i64 n ∧ (askE l = 0 → (i : Int) ≤ n ∧ n ≤ i * 1000001)) ?_ l.length _ _ _ ?_
 case refine_2 => exact ⟨0,0,by simp [go_sem]⟩
 rintro m T D H' ⟨i,n,rfl,hi,rfl,rfl,t0,t4,t3,hs⟩
 by_cases hlt : i < l.length
 ·have hlt' : (i : Int) < l.length := by omega
  have hci := hok _ (cpE.at_mem hlt)
  by_cases ha : askE l = 0
  ·obtain ⟨n1,n2⟩ := hs ha
   obtain ⟨w,h21,w1,w2⟩ := fn21v _ hci (askE_all ha _ (cpE.at_mem hlt)) H'
   simp (disch := first | rfl | omega | exact lt_new _ | assumption | decide | (simp [dkS] <;> omega) | fail) only [r14_0,r14_1,r14_2,r14_3,r14_4,r14_5,l14_6,r14_7,c14,rs14,gc14,t0,t3,t4,hlt',h21,go_sem,↓reduceIte,Nat.reduceLT,Nat.reduceEqDiff,Nat.reduceAdd,Nat.reduceMul,Nat.reduceSub,Int.reduceAdd,Int.reduceSub,Nat.reduceLeDiff,Int.reduceLT,Int.reduceLE,Int.reduceEq,Int.reduceNeg,Int.reduceToNat]
   exact ⟨_,by omega,i + 1,_,rfl,hlt,rfl,rfl,fun _ => by omega⟩
  ·obtain ⟨w,h21⟩ := fn21 _ hci H'
   simp (disch := first | rfl | omega | exact lt_new _ | assumption | decide | (simp [dkS] <;> omega) | fail) only [r14_0,r14_1,r14_2,r14_3,r14_4,r14_5,l14_6,r14_7,c14,rs14,gc14,t0,t3,t4,hlt',h21,go_sem,↓reduceIte,Nat.reduceLT,Nat.reduceEqDiff,Nat.reduceAdd,Nat.reduceMul,Nat.reduceSub,Int.reduceAdd,Int.reduceSub,Nat.reduceLeDiff,Int.reduceLT,Int.reduceLE,Int.reduceEq,Int.reduceNeg,Int.reduceToNat]
   exact ⟨_,by omega,i + 1,_,rfl,hlt,rfl,rfl,fun h => absurd h ha⟩
 ·obtain rfl : i = l.length := by omega
  simp (disch := first | rfl | omega | exact lt_new _ | assumption | decide | (simp [dkS] <;> omega) | fail) only [r14_0,r14_1,r14_2,r14_3,r14_4,r14_5,l14_6,r14_7,c14,rs14,gc14,t0,t3,t4,Int.lt_irrefl,go_sem,↓reduceIte,Nat.reduceLT,Nat.reduceEqDiff,Nat.reduceAdd,Nat.reduceMul,Nat.reduceSub,Int.reduceAdd,Int.reduceSub,Nat.reduceLeDiff,Int.reduceLT,Int.reduceLE,Int.reduceEq,Int.reduceNeg,Int.reduceToNat]
  exact ⟨n,finQ_same (by simp (disch := first | rfl | omega | exact lt_new _ | assumption | decide | (simp [dkS] <;> omega) | fail) only [go_sem,↓reduceIte,Nat.reduceLT,Nat.reduceEqDiff,Nat.reduceAdd,Nat.reduceMul,Nat.reduceSub,Int.reduceAdd,Int.reduceSub,Nat.reduceLeDiff,Int.reduceLT,Int.reduceLE,Int.reduceEq,Int.reduceNeg,Int.reduceToNat]),fun ha => hs ha⟩
theorem sameL_refl {α : Type} {S : α → α → Bool} (h : ∀ x,S x x = true) : ∀ l : List α,sameL S l l = true
 | [] => rfl
 | x :: xs => by unfold sameL; rw [h,sameL_refl h xs]; rfl
theorem sameB_of {a b : Cp} (h : CpEq a b) : sameB a b = true := by
 obtain ⟨h1,h2,h3,h4,h5⟩ := h
 unfold sameB
 rw [h1,h2,h3,h4,h5,sameL_refl (by simp [fcS]),sameL_refl (by simp [nmS]),sameL_refl (by simp [scS]),sameL_refl (by simp [pkS])]
 simp
theorem CpEq.trans' {a b d : Cp} (h : CpEq a d) (h' : CpEq b d) : CpEq a b := by
 obtain ⟨h1,h2,h3,h4,h5⟩ := h
 obtain ⟨k1,k2,k3,k4,k5⟩ := h'
 exact ⟨h1.trans k1.symm,h2.trans k2.symm,h3.trans k3.symm,h4.trans k4.symm,h5.trans k5.symm⟩
theorem CpEq.fits {a d : Cp} (h : CpEq a d) (hd : Fits d) : Fits a := by
 obtain ⟨h1,h2,h3,h4,h5⟩ := h
 unfold Fits
 rw [h2,h3,h4,h5]
 exact hd
theorem mgFits (ls : List Cp) (drs : List Int) : Fits (mgF ls drs).1 := by
 have h0 : Fits noCp := ⟨by decide,by decide,by decide,by decide⟩
 unfold mgF
 split
 ·split
  ·split
   ·exact h0
   ·split
    ·split
     ·rename_i h
      obtain ⟨_,⟨l4,l3,l2,l1⟩,_⟩ := val_pk h
      exact ⟨by show (mgC (shD ls drs ls.length)).faces.length ≤ _; omega,by show (mgC (shD ls drs ls.length)).names.length ≤ _; omega,by show (mgC (shD ls drs ls.length)).secrets.length ≤ _; omega,by show (mgC (shD ls drs ls.length)).packets.length ≤ _; omega⟩
     ·exact h0
    ·exact h0
  ·exact h0
 ·exact h0
set_option maxHeartbeats 1000000 in
theorem fn3 {b b' : Bool} {ls : List Cp} {drs : List Int} (hok : ∀ c ∈ ls,CpOk c) (hl : ls.length ≤ 2 ^ 41) (hd : drs.length ≤ 2 ^ 47) (H : Hp) : callL Try.prog pr 3 [slV b cpE ls,slV b' inE drs] H = some (.bool true,H) := by
 obtain ⟨n,hn⟩ : ∃ n : Hp → Int,∀ H,callL Try.prog pr 14 [slV b cpE ls] H = some (.int .i64 (n H),H) ∧ (askE ls = 0 → (ls.length : Int) ≤ n H ∧ n H ≤ ls.length * 1000001) := ⟨fun H => (fn14b (b := b) hok hl H).choose,fun H => (fn14b (b := b) hok hl H).choose_spec⟩
 have h14 := fun H => (hn H).1
 obtain ⟨w,hw⟩ : ∃ w : Int,IntKind.i64.wrap (n H + (drs.length : Int)) = w := ⟨_,rfl⟩
 by_cases hg : 400000 < w
 ·refine run3 (Nat.le_of_ble_eq_true rfl) ?_
  have hy := True.intro
  repeat' (first | simp (disch := first | rfl | omega | exact lt_new _ | assumption | decide | (simp [dkS] <;> omega) | fail) only [r3_0,r3_1,r3_2,r3_3,r3_4,r3_5,c3,rs3,gc3,loadV_ptr,storeV_ptr,tkS,known_call,h14,hw,hg,go_sem,↓reduceIte,Nat.reduceLT,Nat.reduceEqDiff,Nat.reduceAdd,Nat.reduceMul,Nat.reduceSub,Int.reduceAdd,Int.reduceSub,Nat.reduceLeDiff,Int.reduceLT,Int.reduceLE,Int.reduceEq,Int.reduceNeg,Int.reduceToNat,hy] | ((first | refine guardB_dec (fun hy => ?_) (fun hy => ?_) | refine guardB_bool (fun hy => ?_) (fun hy => ?_) | refine guardQ_ite (fun hy => ?_) (fun hy => ?_) | refine brQ_dec (fun hy => ?_) (fun hy => ?_) | refine brQ_bool (fun hy => ?_) (fun hy => ?_)) <;> (try simp only [Bool.not_eq_true',Bool.not_eq_false',Bool.and_eq_true,Bool.or_eq_false_iff,decide_eq_true_eq,decide_eq_false_iff_not] at hy)))
  all_goals (try ((first | refine finQ_same ?_ | refine finQ_app ?_ | (rw [List.append_assoc]; refine finQ_app ?_)) <;> simp (disch := first | rfl | omega | exact lt_new _ | assumption | decide | (simp [dkS] <;> omega) | fail) only [go_sem,↓reduceIte,Nat.reduceLT,Nat.reduceEqDiff,Nat.reduceAdd,Nat.reduceMul,Nat.reduceSub,Int.reduceAdd,Int.reduceSub,Nat.reduceLeDiff,Int.reduceLT,Int.reduceLE,Int.reduceEq,Int.reduceNeg,Int.reduceToNat,List.append_assoc,List.cons_append,List.nil_append, *]))
  all_goals (try first | rfl | (simp [*]; done) | grind)
 ·have hlen : askE ls = 0 → ls.length ≤ 400000 := fun h => by
   obtain ⟨a1,a2⟩ := (hn H).2 h
   rw [IntWalk.i64_in _ (by omega)] at hw
   omega
  obtain ⟨d1,h1⟩ : ∃ d : Hp → Cp,∀ H,callL Try.prog pr 16 [slV b cpE ls,slV b' inE drs] H = some (.tup [.agg (cpE.f (d H)),.int .i64 (mgF ls drs).2],H) ∧ CpEq (d H) (mgF ls drs).1 := ⟨fun H => (fn16 (b := b) (b' := b') hok (by omega) (by omega) hlen H).choose,fun H => (fn16 (b := b) (b' := b') hok (by omega) (by omega) hlen H).choose_spec⟩
  obtain ⟨d2,h2⟩ : ∃ d : Hp → Cp,∀ H,callL Try.prog pr 17 [slV b cpE ls,slV b' inE drs] H = some (.tup [.agg (cpE.f (d H)),.int .i64 (mgF ls drs).2],H) ∧ CpEq (d H) (mgF ls drs).1 := ⟨fun H => (fn17 (b := b) (b' := b') hok (by omega) (by omega) hlen H).choose,fun H => (fn17 (b := b) (b' := b') hok (by omega) (by omega) hlen H).choose_spec⟩
  have s12 : ∀ H1 H2 H,callL Try.prog pr 18 [.agg (cpE.f (d1 H1)),.agg (cpE.f (d2 H2))] H = some (.bool true,H) := fun H1 H2 H => by
   rw [fn18 _ _ ((h1 H1).2.fits (mgFits ls drs)),sameB_of ((h1 H1).2.trans' (h2 H2).2)]
  have e1 := fun H => (h1 H).1
  have e2 := fun H => (h2 H).1
  refine run3 (Nat.le_of_ble_eq_true rfl) ?_
  have hy := True.intro
  repeat' (first | simp (disch := first | rfl | omega | exact lt_new _ | assumption | decide | (simp [dkS] <;> omega) | fail) only [r3_0,r3_1,r3_2,r3_3,r3_4,r3_5,c3,rs3,gc3,loadV_ptr,storeV_ptr,tkS,known_call,h14,hw,hg,e1,e2,s12,go_sem,↓reduceIte,Nat.reduceLT,Nat.reduceEqDiff,Nat.reduceAdd,Nat.reduceMul,Nat.reduceSub,Int.reduceAdd,Int.reduceSub,Nat.reduceLeDiff,Int.reduceLT,Int.reduceLE,Int.reduceEq,Int.reduceNeg,Int.reduceToNat,hy] | ((first | refine guardB_dec (fun hy => ?_) (fun hy => ?_) | refine guardB_bool (fun hy => ?_) (fun hy => ?_) | refine guardQ_ite (fun hy => ?_) (fun hy => ?_) | refine brQ_dec (fun hy => ?_) (fun hy => ?_) | refine brQ_bool (fun hy => ?_) (fun hy => ?_)) <;> (try simp only [Bool.not_eq_true',Bool.not_eq_false',Bool.and_eq_true,Bool.or_eq_false_iff,decide_eq_true_eq,decide_eq_false_iff_not] at hy)))
  all_goals (try ((first | refine finQ_same ?_ | refine finQ_app ?_ | (rw [List.append_assoc]; refine finQ_app ?_)) <;> simp (disch := first | rfl | omega | exact lt_new _ | assumption | decide | (simp [dkS] <;> omega) | fail) only [go_sem,↓reduceIte,Nat.reduceLT,Nat.reduceEqDiff,Nat.reduceAdd,Nat.reduceMul,Nat.reduceSub,Int.reduceAdd,Int.reduceSub,Nat.reduceLeDiff,Int.reduceLT,Int.reduceLE,Int.reduceEq,Int.reduceNeg,Int.reduceToNat,List.append_assoc,List.cons_append,List.nil_append, *]))
  all_goals (try first | rfl | (simp [*]; done) | grind)
end Go.Proofs.Ytejkgnmjdaohdaa
