/-
  Texts of this seat, laid together. No statement of the seat stands here.
-/
import Derived.Test.YtejkgnmjdaohdaaP4
set_option linter.unusedSimpArgs false
set_option linter.unusedVariables false
namespace Go.Proofs.Ytejkgnmjdaohdaa
open Go Go.An
abbrev ExP (k n : Nat) (c : Cc) (rs : List ResultVar) : Prop := ∀ {args : List V} {H : Hp} {R : V × Hp → Prop}, args.length ≤ n → Wp Try.prog (callL Try.prog pr) n c args [] H (RetQ Try.prog rs fun v H' => R (pr.gc k H (v, H'))) → ∃ r, callL Try.prog pr k args H = some r ∧ R r
abbrev RunP (k n : Nat) (c : Cc) (rs : List ResultVar) : Prop := ∀ {args : List V} {H : Hp} {r : V × Hp}, args.length ≤ n → Wp Try.prog (callL Try.prog pr) n c args [] H (RetQ Try.prog rs fun v H' => pr.gc k H (v, H') = r) → callL Try.prog pr k args H = some r
theorem run_of {k n : Nat} {c : Cc} {rs : List ResultVar} (h : ExP k n c rs) : RunP k n c rs := @fun _ _ r ha hw => by
 obtain ⟨_, h1, rfl⟩ := h (R := fun x => x = r) ha hw
 exact h1
abbrev ExPD (k n : Nat) (c : Cc) (rs : List ResultVar) : Prop := ∀ {args : List V} {H : Hp} {R : V × Hp → Prop}, args.length ≤ n → Wp Try.prog (callL Try.prog pr) n c args [] H (RetD Try.prog pr rs fun v H' => R (pr.gc k H (v, H'))) → ∃ r, callL Try.prog pr k args H = some r ∧ R r
abbrev RunPD (k n : Nat) (c : Cc) (rs : List ResultVar) : Prop := ∀ {args : List V} {H : Hp} {r : V × Hp}, args.length ≤ n → Wp Try.prog (callL Try.prog pr) n c args [] H (RetD Try.prog pr rs fun v H' => pr.gc k H (v, H') = r) → callL Try.prog pr k args H = some r
theorem run_ofD {k n : Nat} {c : Cc} {rs : List ResultVar} (h : ExPD k n c rs) : RunPD k n c rs := @fun _ _ r ha hw => by
 obtain ⟨_, h1, rfl⟩ := h (R := fun x => x = r) ha hw
 exact h1
abbrev ExB (k n : Nat) (c : Cc) (rs : List ResultVar) : Prop := ∀ {args : List V} {H : Hp} {R : V × Hp → Prop}, args.length ≤ n → Wp Try.prog (callL Try.prog pr) n c args [] H (RetQ Try.prog rs fun v H' => R (pr.gc k H (v, H'))) → ∃ r, callB Try.prog pr k args H = some r ∧ R r
abbrev RunB (k n : Nat) (c : Cc) (rs : List ResultVar) : Prop := ∀ {args : List V} {H : Hp} {r : V × Hp}, args.length ≤ n → Wp Try.prog (callL Try.prog pr) n c args [] H (RetQ Try.prog rs fun v H' => pr.gc k H (v, H') = r) → callB Try.prog pr k args H = some r
theorem runB_of {k n : Nat} {c : Cc} {rs : List ResultVar} (h : ExB k n c rs) : RunB k n c rs := @fun _ _ r ha hw => by
 obtain ⟨_, h1, rfl⟩ := h (R := fun x => x = r) ha hw
 exact h1
def rngs : Code → List (Code × Code)
 | .rangeFunc _ _ a b => [(a, b)]
 | .seq a b | .cond _ a b => rngs a ++ rngs b
 | .block _ b | .loop b => rngs b
 | _ => []
theorem gcOne {k : Nat} (h : modeOf k = 1) (H : Hp) (r : V × Hp) : pr.gc k H r = gcF H r := (show pr.gc k H r = gcM modeOf k H r from rfl).trans (gcM_one h H r)
theorem gcZero {k : Nat} (h : modeOf k = 0) (H : Hp) (r : V × Hp) : pr.gc k H r = r := (show pr.gc k H r = gcM modeOf k H r from rfl).trans (gcM_zero h H r)
theorem gcTwo {k : Nat} (h : modeOf k = 2) (H : Hp) (r : V × Hp) : pr.gc k H r = gcC H r := (show pr.gc k H r = gcM modeOf k H r from rfl).trans (gcM_two h H r)
@[go_sem] theorem u3 : Try.prog.underlying 3 = some (.int .i64) := by kernel_rfl
@[go_sem] theorem z3 : szOf Try.prog 3 = some 1 := by kernel_rfl
@[go_sem] theorem y3 : bytesOf' Try.prog 3 = some 8 := by kernel_rfl
@[go_sem] theorem g3 : aggT Try.prog 3 = some false := by kernel_rfl
@[go_sem] theorem o3 : zeroV Try.prog 3 = some (.int .i64 0) := by kernel_rfl
@[go_sem] theorem u4 : Try.prog.underlying 4 = some (.bool) := by kernel_rfl
@[go_sem] theorem z4 : szOf Try.prog 4 = some 1 := by kernel_rfl
@[go_sem] theorem y4 : bytesOf' Try.prog 4 = some 1 := by kernel_rfl
@[go_sem] theorem g4 : aggT Try.prog 4 = some false := by kernel_rfl
@[go_sem] theorem o4 : zeroV Try.prog 4 = some (.bool false) := by kernel_rfl
@[go_sem] theorem u5 : Try.prog.underlying 5 = some (.int .u8) := by kernel_rfl
@[go_sem] theorem z5 : szOf Try.prog 5 = some 1 := by kernel_rfl
@[go_sem] theorem y5 : bytesOf' Try.prog 5 = some 1 := by kernel_rfl
@[go_sem] theorem g5 : aggT Try.prog 5 = some false := by kernel_rfl
@[go_sem] theorem o5 : zeroV Try.prog 5 = some (.int .u8 0) := by kernel_rfl
@[go_sem] theorem u9 : Try.prog.underlying 9 = some (.string) := by kernel_rfl
@[go_sem] theorem z9 : szOf Try.prog 9 = some 1 := by kernel_rfl
@[go_sem] theorem y9 : bytesOf' Try.prog 9 = some 16 := by kernel_rfl
@[go_sem] theorem g9 : aggT Try.prog 9 = some false := by kernel_rfl
@[go_sem] theorem o9 : zeroV Try.prog 9 = some (.str []) := by kernel_rfl
@[go_sem] theorem u22 : Try.prog.underlying 22 = some (.slice 31) := by kernel_rfl
@[go_sem] theorem z22 : szOf Try.prog 22 = some 1 := by kernel_rfl
@[go_sem] theorem y22 : bytesOf' Try.prog 22 = some 24 := by kernel_rfl
@[go_sem] theorem g22 : aggT Try.prog 22 = some false := by kernel_rfl
@[go_sem] theorem o22 : zeroV Try.prog 22 = some .nilslice := by kernel_rfl
theorem s22 : sliceT Try.prog 22 5 = true := by kernel_rfl
@[go_sem] theorem i22 {id g off n : Nat} {cp : Cap} {k : IntKind} {j : Int} (hj : 0 ≤ j ∧ j < n) : indexAddrV Try.prog 22 (.slice id g off n 5 cp) (.int k j) = some (.ptr id g (off + j.toNat * 5)) := ia_slice (by kernel_rfl) hj
@[go_sem] theorem n22 {H : Hp} (id g off n : Nat) (cp : Cap) : lenV Try.prog 22 H (.slice id g off n 5 cp) = some (.int .i64 n) := len_slice (sz := 5) (by kernel_rfl) id g off n 5 cp
@[go_sem] theorem is22 {α : Type} {E : Enc α} {l : List α} {b : Bool} {k : IntKind} {j : Int} (hw : E.w = 5) (hj : 0 ≤ j ∧ j < (l.length : Int)) : indexAddrV Try.prog 22 (slV b E l) (.int k j) = some (.ipt (flatE E l) (j.toNat * 5)) := idx_slV s22 hw hj
@[go_sem] theorem ns22 {α : Type} {H : Hp} (b : Bool) (E : Enc α) (l : List α) : lenV Try.prog 22 H (slV b E l) = some (.int .i64 l.length) := len_slV s22 b E l
@[go_sem] theorem nb22 {H : Hp} (n g w : Nat) (xs : List (List V)) : lenV Try.prog 22 H (blV n g w xs) = some (.int .i64 xs.length) := len_blV s22 n g w xs
@[go_sem] theorem lo22 {H : Hp} (x : V) (hi : Option V) : sliceV Try.prog 22 H x none hi = sliceV Try.prog 22 H x (some (.int .i64 0)) hi := lo_slV ⟨_, u22⟩
@[go_sem] theorem hi22 {α : Type} {E : Enc α} {l : List α} {b : Bool} {H : Hp} (lo : Option V) : sliceV Try.prog 22 H (slV b E l) lo none = sliceV Try.prog 22 H (slV b E l) lo (some (.int .i64 l.length)) := hi_slV s22
@[go_sem] theorem ct22 {α : Type} {E : Enc α} {l : List α} {b : Bool} {H : Hp} {k k' : IntKind} {lo hi : Int} (hw : E.w = 5) (h : 0 ≤ lo ∧ lo ≤ hi ∧ hi ≤ (l.length : Int)) : sliceV Try.prog 22 H (slV b E l) (some (.int k lo)) (some (.int k' hi)) = some (slV (b && decide (l.length = 0)) E ((l.drop lo.toNat).take (hi.toNat - lo.toNat))) := cut_slV s22 hw h
@[go_sem] theorem m22 {H : Hp} : lenV Try.prog 22 H .nilslice = some (.int .i64 0) := len_nilslice (sz := 5) (by kernel_rfl)
@[go_sem] theorem u23 : Try.prog.underlying 23 = some (.slice 3) := by kernel_rfl
@[go_sem] theorem z23 : szOf Try.prog 23 = some 1 := by kernel_rfl
@[go_sem] theorem y23 : bytesOf' Try.prog 23 = some 24 := by kernel_rfl
@[go_sem] theorem g23 : aggT Try.prog 23 = some false := by kernel_rfl
@[go_sem] theorem o23 : zeroV Try.prog 23 = some .nilslice := by kernel_rfl
theorem s23 : sliceT Try.prog 23 1 = true := by kernel_rfl
@[go_sem] theorem i23 {id g off n : Nat} {cp : Cap} {k : IntKind} {j : Int} (hj : 0 ≤ j ∧ j < n) : indexAddrV Try.prog 23 (.slice id g off n 1 cp) (.int k j) = some (.ptr id g (off + j.toNat * 1)) := ia_slice (by kernel_rfl) hj
@[go_sem] theorem n23 {H : Hp} (id g off n : Nat) (cp : Cap) : lenV Try.prog 23 H (.slice id g off n 1 cp) = some (.int .i64 n) := len_slice (sz := 1) (by kernel_rfl) id g off n 1 cp
@[go_sem] theorem is23 {α : Type} {E : Enc α} {l : List α} {b : Bool} {k : IntKind} {j : Int} (hw : E.w = 1) (hj : 0 ≤ j ∧ j < (l.length : Int)) : indexAddrV Try.prog 23 (slV b E l) (.int k j) = some (.ipt (flatE E l) (j.toNat * 1)) := idx_slV s23 hw hj
@[go_sem] theorem ns23 {α : Type} {H : Hp} (b : Bool) (E : Enc α) (l : List α) : lenV Try.prog 23 H (slV b E l) = some (.int .i64 l.length) := len_slV s23 b E l
@[go_sem] theorem nb23 {H : Hp} (n g w : Nat) (xs : List (List V)) : lenV Try.prog 23 H (blV n g w xs) = some (.int .i64 xs.length) := len_blV s23 n g w xs
@[go_sem] theorem lo23 {H : Hp} (x : V) (hi : Option V) : sliceV Try.prog 23 H x none hi = sliceV Try.prog 23 H x (some (.int .i64 0)) hi := lo_slV ⟨_, u23⟩
@[go_sem] theorem hi23 {α : Type} {E : Enc α} {l : List α} {b : Bool} {H : Hp} (lo : Option V) : sliceV Try.prog 23 H (slV b E l) lo none = sliceV Try.prog 23 H (slV b E l) lo (some (.int .i64 l.length)) := hi_slV s23
@[go_sem] theorem ct23 {α : Type} {E : Enc α} {l : List α} {b : Bool} {H : Hp} {k k' : IntKind} {lo hi : Int} (hw : E.w = 1) (h : 0 ≤ lo ∧ lo ≤ hi ∧ hi ≤ (l.length : Int)) : sliceV Try.prog 23 H (slV b E l) (some (.int k lo)) (some (.int k' hi)) = some (slV (b && decide (l.length = 0)) E ((l.drop lo.toNat).take (hi.toNat - lo.toNat))) := cut_slV s23 hw h
@[go_sem] theorem m23 {H : Hp} : lenV Try.prog 23 H .nilslice = some (.int .i64 0) := len_nilslice (sz := 1) (by kernel_rfl)
@[go_sem] theorem u26 : Try.prog.underlying 26 = some (.slice 82) := by kernel_rfl
@[go_sem] theorem z26 : szOf Try.prog 26 = some 1 := by kernel_rfl
@[go_sem] theorem y26 : bytesOf' Try.prog 26 = some 24 := by kernel_rfl
@[go_sem] theorem g26 : aggT Try.prog 26 = some false := by kernel_rfl
@[go_sem] theorem o26 : zeroV Try.prog 26 = some .nilslice := by kernel_rfl
theorem s26 : sliceT Try.prog 26 3 = true := by kernel_rfl
@[go_sem] theorem i26 {id g off n : Nat} {cp : Cap} {k : IntKind} {j : Int} (hj : 0 ≤ j ∧ j < n) : indexAddrV Try.prog 26 (.slice id g off n 3 cp) (.int k j) = some (.ptr id g (off + j.toNat * 3)) := ia_slice (by kernel_rfl) hj
@[go_sem] theorem n26 {H : Hp} (id g off n : Nat) (cp : Cap) : lenV Try.prog 26 H (.slice id g off n 3 cp) = some (.int .i64 n) := len_slice (sz := 3) (by kernel_rfl) id g off n 3 cp
@[go_sem] theorem is26 {α : Type} {E : Enc α} {l : List α} {b : Bool} {k : IntKind} {j : Int} (hw : E.w = 3) (hj : 0 ≤ j ∧ j < (l.length : Int)) : indexAddrV Try.prog 26 (slV b E l) (.int k j) = some (.ipt (flatE E l) (j.toNat * 3)) := idx_slV s26 hw hj
@[go_sem] theorem ns26 {α : Type} {H : Hp} (b : Bool) (E : Enc α) (l : List α) : lenV Try.prog 26 H (slV b E l) = some (.int .i64 l.length) := len_slV s26 b E l
@[go_sem] theorem nb26 {H : Hp} (n g w : Nat) (xs : List (List V)) : lenV Try.prog 26 H (blV n g w xs) = some (.int .i64 xs.length) := len_blV s26 n g w xs
@[go_sem] theorem lo26 {H : Hp} (x : V) (hi : Option V) : sliceV Try.prog 26 H x none hi = sliceV Try.prog 26 H x (some (.int .i64 0)) hi := lo_slV ⟨_, u26⟩
@[go_sem] theorem hi26 {α : Type} {E : Enc α} {l : List α} {b : Bool} {H : Hp} (lo : Option V) : sliceV Try.prog 26 H (slV b E l) lo none = sliceV Try.prog 26 H (slV b E l) lo (some (.int .i64 l.length)) := hi_slV s26
@[go_sem] theorem ct26 {α : Type} {E : Enc α} {l : List α} {b : Bool} {H : Hp} {k k' : IntKind} {lo hi : Int} (hw : E.w = 3) (h : 0 ≤ lo ∧ lo ≤ hi ∧ hi ≤ (l.length : Int)) : sliceV Try.prog 26 H (slV b E l) (some (.int k lo)) (some (.int k' hi)) = some (slV (b && decide (l.length = 0)) E ((l.drop lo.toNat).take (hi.toNat - lo.toNat))) := cut_slV s26 hw h
@[go_sem] theorem m26 {H : Hp} : lenV Try.prog 26 H .nilslice = some (.int .i64 0) := len_nilslice (sz := 3) (by kernel_rfl)
@[go_sem] theorem u27 : Try.prog.underlying 27 = some (.slice 97) := by kernel_rfl
@[go_sem] theorem z27 : szOf Try.prog 27 = some 1 := by kernel_rfl
@[go_sem] theorem y27 : bytesOf' Try.prog 27 = some 24 := by kernel_rfl
@[go_sem] theorem g27 : aggT Try.prog 27 = some false := by kernel_rfl
@[go_sem] theorem o27 : zeroV Try.prog 27 = some .nilslice := by kernel_rfl
theorem s27 : sliceT Try.prog 27 2 = true := by kernel_rfl
@[go_sem] theorem i27 {id g off n : Nat} {cp : Cap} {k : IntKind} {j : Int} (hj : 0 ≤ j ∧ j < n) : indexAddrV Try.prog 27 (.slice id g off n 2 cp) (.int k j) = some (.ptr id g (off + j.toNat * 2)) := ia_slice (by kernel_rfl) hj
@[go_sem] theorem n27 {H : Hp} (id g off n : Nat) (cp : Cap) : lenV Try.prog 27 H (.slice id g off n 2 cp) = some (.int .i64 n) := len_slice (sz := 2) (by kernel_rfl) id g off n 2 cp
@[go_sem] theorem is27 {α : Type} {E : Enc α} {l : List α} {b : Bool} {k : IntKind} {j : Int} (hw : E.w = 2) (hj : 0 ≤ j ∧ j < (l.length : Int)) : indexAddrV Try.prog 27 (slV b E l) (.int k j) = some (.ipt (flatE E l) (j.toNat * 2)) := idx_slV s27 hw hj
@[go_sem] theorem ns27 {α : Type} {H : Hp} (b : Bool) (E : Enc α) (l : List α) : lenV Try.prog 27 H (slV b E l) = some (.int .i64 l.length) := len_slV s27 b E l
@[go_sem] theorem nb27 {H : Hp} (n g w : Nat) (xs : List (List V)) : lenV Try.prog 27 H (blV n g w xs) = some (.int .i64 xs.length) := len_blV s27 n g w xs
@[go_sem] theorem lo27 {H : Hp} (x : V) (hi : Option V) : sliceV Try.prog 27 H x none hi = sliceV Try.prog 27 H x (some (.int .i64 0)) hi := lo_slV ⟨_, u27⟩
@[go_sem] theorem hi27 {α : Type} {E : Enc α} {l : List α} {b : Bool} {H : Hp} (lo : Option V) : sliceV Try.prog 27 H (slV b E l) lo none = sliceV Try.prog 27 H (slV b E l) lo (some (.int .i64 l.length)) := hi_slV s27
@[go_sem] theorem ct27 {α : Type} {E : Enc α} {l : List α} {b : Bool} {H : Hp} {k k' : IntKind} {lo hi : Int} (hw : E.w = 2) (h : 0 ≤ lo ∧ lo ≤ hi ∧ hi ≤ (l.length : Int)) : sliceV Try.prog 27 H (slV b E l) (some (.int k lo)) (some (.int k' hi)) = some (slV (b && decide (l.length = 0)) E ((l.drop lo.toNat).take (hi.toNat - lo.toNat))) := cut_slV s27 hw h
@[go_sem] theorem m27 {H : Hp} : lenV Try.prog 27 H .nilslice = some (.int .i64 0) := len_nilslice (sz := 2) (by kernel_rfl)
@[go_sem] theorem u28 : Try.prog.underlying 28 = some (.slice 100) := by kernel_rfl
@[go_sem] theorem z28 : szOf Try.prog 28 = some 1 := by kernel_rfl
@[go_sem] theorem y28 : bytesOf' Try.prog 28 = some 24 := by kernel_rfl
@[go_sem] theorem g28 : aggT Try.prog 28 = some false := by kernel_rfl
@[go_sem] theorem o28 : zeroV Try.prog 28 = some .nilslice := by kernel_rfl
theorem s28 : sliceT Try.prog 28 2 = true := by kernel_rfl
@[go_sem] theorem i28 {id g off n : Nat} {cp : Cap} {k : IntKind} {j : Int} (hj : 0 ≤ j ∧ j < n) : indexAddrV Try.prog 28 (.slice id g off n 2 cp) (.int k j) = some (.ptr id g (off + j.toNat * 2)) := ia_slice (by kernel_rfl) hj
@[go_sem] theorem n28 {H : Hp} (id g off n : Nat) (cp : Cap) : lenV Try.prog 28 H (.slice id g off n 2 cp) = some (.int .i64 n) := len_slice (sz := 2) (by kernel_rfl) id g off n 2 cp
@[go_sem] theorem is28 {α : Type} {E : Enc α} {l : List α} {b : Bool} {k : IntKind} {j : Int} (hw : E.w = 2) (hj : 0 ≤ j ∧ j < (l.length : Int)) : indexAddrV Try.prog 28 (slV b E l) (.int k j) = some (.ipt (flatE E l) (j.toNat * 2)) := idx_slV s28 hw hj
@[go_sem] theorem ns28 {α : Type} {H : Hp} (b : Bool) (E : Enc α) (l : List α) : lenV Try.prog 28 H (slV b E l) = some (.int .i64 l.length) := len_slV s28 b E l
@[go_sem] theorem nb28 {H : Hp} (n g w : Nat) (xs : List (List V)) : lenV Try.prog 28 H (blV n g w xs) = some (.int .i64 xs.length) := len_blV s28 n g w xs
@[go_sem] theorem lo28 {H : Hp} (x : V) (hi : Option V) : sliceV Try.prog 28 H x none hi = sliceV Try.prog 28 H x (some (.int .i64 0)) hi := lo_slV ⟨_, u28⟩
@[go_sem] theorem hi28 {α : Type} {E : Enc α} {l : List α} {b : Bool} {H : Hp} (lo : Option V) : sliceV Try.prog 28 H (slV b E l) lo none = sliceV Try.prog 28 H (slV b E l) lo (some (.int .i64 l.length)) := hi_slV s28
@[go_sem] theorem ct28 {α : Type} {E : Enc α} {l : List α} {b : Bool} {H : Hp} {k k' : IntKind} {lo hi : Int} (hw : E.w = 2) (h : 0 ≤ lo ∧ lo ≤ hi ∧ hi ≤ (l.length : Int)) : sliceV Try.prog 28 H (slV b E l) (some (.int k lo)) (some (.int k' hi)) = some (slV (b && decide (l.length = 0)) E ((l.drop lo.toNat).take (hi.toNat - lo.toNat))) := cut_slV s28 hw h
@[go_sem] theorem m28 {H : Hp} : lenV Try.prog 28 H .nilslice = some (.int .i64 0) := len_nilslice (sz := 2) (by kernel_rfl)
@[go_sem] theorem u29 : Try.prog.underlying 29 = some (.slice 56) := by kernel_rfl
@[go_sem] theorem z29 : szOf Try.prog 29 = some 1 := by kernel_rfl
@[go_sem] theorem y29 : bytesOf' Try.prog 29 = some 24 := by kernel_rfl
@[go_sem] theorem g29 : aggT Try.prog 29 = some false := by kernel_rfl
@[go_sem] theorem o29 : zeroV Try.prog 29 = some .nilslice := by kernel_rfl
theorem s29 : sliceT Try.prog 29 5 = true := by kernel_rfl
@[go_sem] theorem i29 {id g off n : Nat} {cp : Cap} {k : IntKind} {j : Int} (hj : 0 ≤ j ∧ j < n) : indexAddrV Try.prog 29 (.slice id g off n 5 cp) (.int k j) = some (.ptr id g (off + j.toNat * 5)) := ia_slice (by kernel_rfl) hj
@[go_sem] theorem n29 {H : Hp} (id g off n : Nat) (cp : Cap) : lenV Try.prog 29 H (.slice id g off n 5 cp) = some (.int .i64 n) := len_slice (sz := 5) (by kernel_rfl) id g off n 5 cp
@[go_sem] theorem is29 {α : Type} {E : Enc α} {l : List α} {b : Bool} {k : IntKind} {j : Int} (hw : E.w = 5) (hj : 0 ≤ j ∧ j < (l.length : Int)) : indexAddrV Try.prog 29 (slV b E l) (.int k j) = some (.ipt (flatE E l) (j.toNat * 5)) := idx_slV s29 hw hj
@[go_sem] theorem ns29 {α : Type} {H : Hp} (b : Bool) (E : Enc α) (l : List α) : lenV Try.prog 29 H (slV b E l) = some (.int .i64 l.length) := len_slV s29 b E l
@[go_sem] theorem nb29 {H : Hp} (n g w : Nat) (xs : List (List V)) : lenV Try.prog 29 H (blV n g w xs) = some (.int .i64 xs.length) := len_blV s29 n g w xs
@[go_sem] theorem lo29 {H : Hp} (x : V) (hi : Option V) : sliceV Try.prog 29 H x none hi = sliceV Try.prog 29 H x (some (.int .i64 0)) hi := lo_slV ⟨_, u29⟩
@[go_sem] theorem hi29 {α : Type} {E : Enc α} {l : List α} {b : Bool} {H : Hp} (lo : Option V) : sliceV Try.prog 29 H (slV b E l) lo none = sliceV Try.prog 29 H (slV b E l) lo (some (.int .i64 l.length)) := hi_slV s29
@[go_sem] theorem ct29 {α : Type} {E : Enc α} {l : List α} {b : Bool} {H : Hp} {k k' : IntKind} {lo hi : Int} (hw : E.w = 5) (h : 0 ≤ lo ∧ lo ≤ hi ∧ hi ≤ (l.length : Int)) : sliceV Try.prog 29 H (slV b E l) (some (.int k lo)) (some (.int k' hi)) = some (slV (b && decide (l.length = 0)) E ((l.drop lo.toNat).take (hi.toNat - lo.toNat))) := cut_slV s29 hw h
@[go_sem] theorem m29 {H : Hp} : lenV Try.prog 29 H .nilslice = some (.int .i64 0) := len_nilslice (sz := 5) (by kernel_rfl)
@[go_sem] theorem z31 : szOf Try.prog 31 = some 5 := by kernel_rfl
@[go_sem] theorem y31 : bytesOf' Try.prog 31 = some 112 := by kernel_rfl
@[go_sem] theorem g31 : aggT Try.prog 31 = some true := by kernel_rfl
@[go_sem] theorem o31 : zeroV Try.prog 31 = some (.agg [.str [], .nilslice, .nilslice, .nilslice, .nilslice]) := by kernel_rfl
@[go_sem] theorem ai31 (cs : List V) (off i : Nat) : fieldAddrV Try.prog 31 (.ipt cs off) i = fieldAtI [0, 1, 2, 3, 4] cs off i := fieldAtI_eq (by kernel_rfl) cs off i
@[go_sem] theorem a31 (id g off i : Nat) : fieldAddrV Try.prog 31 (.ptr id g off) i = fieldAt [0, 1, 2, 3, 4] id g off i := fieldAt_eq (by kernel_rfl) id g off i
@[go_sem] theorem p31 (cs : List V) (i : Nat) : fieldV Try.prog 31 (.agg cs) i = fieldOf Try.prog [(9, 0), (26, 1), (27, 2), (28, 3), (29, 4)] cs i := fieldOf_eq (by kernel_rfl) cs i
@[go_sem] theorem h31 (ps : List (Nat × V)) : buildV Try.prog 31 ps = buildOf [.str [], .nilslice, .nilslice, .nilslice, .nilslice] [(0, 1), (1, 1), (2, 1), (3, 1), (4, 1)] ps := buildOf_eq (by kernel_rfl) (by kernel_rfl) ps
@[go_sem] theorem u32 : Try.prog.underlying 32 = some (.int .i64) := by kernel_rfl
@[go_sem] theorem z32 : szOf Try.prog 32 = some 1 := by kernel_rfl
@[go_sem] theorem y32 : bytesOf' Try.prog 32 = some 8 := by kernel_rfl
@[go_sem] theorem g32 : aggT Try.prog 32 = some false := by kernel_rfl
@[go_sem] theorem o32 : zeroV Try.prog 32 = some (.int .i64 0) := by kernel_rfl
@[go_sem] theorem u37 : Try.prog.underlying 37 = some (.slice 5) := by kernel_rfl
@[go_sem] theorem z37 : szOf Try.prog 37 = some 1 := by kernel_rfl
@[go_sem] theorem y37 : bytesOf' Try.prog 37 = some 24 := by kernel_rfl
@[go_sem] theorem g37 : aggT Try.prog 37 = some false := by kernel_rfl
@[go_sem] theorem o37 : zeroV Try.prog 37 = some .nilslice := by kernel_rfl
theorem s37 : sliceT Try.prog 37 1 = true := by kernel_rfl
@[go_sem] theorem i37 {id g off n : Nat} {cp : Cap} {k : IntKind} {j : Int} (hj : 0 ≤ j ∧ j < n) : indexAddrV Try.prog 37 (.slice id g off n 1 cp) (.int k j) = some (.ptr id g (off + j.toNat * 1)) := ia_slice (by kernel_rfl) hj
@[go_sem] theorem n37 {H : Hp} (id g off n : Nat) (cp : Cap) : lenV Try.prog 37 H (.slice id g off n 1 cp) = some (.int .i64 n) := len_slice (sz := 1) (by kernel_rfl) id g off n 1 cp
@[go_sem] theorem is37 {α : Type} {E : Enc α} {l : List α} {b : Bool} {k : IntKind} {j : Int} (hw : E.w = 1) (hj : 0 ≤ j ∧ j < (l.length : Int)) : indexAddrV Try.prog 37 (slV b E l) (.int k j) = some (.ipt (flatE E l) (j.toNat * 1)) := idx_slV s37 hw hj
@[go_sem] theorem ns37 {α : Type} {H : Hp} (b : Bool) (E : Enc α) (l : List α) : lenV Try.prog 37 H (slV b E l) = some (.int .i64 l.length) := len_slV s37 b E l
@[go_sem] theorem nb37 {H : Hp} (n g w : Nat) (xs : List (List V)) : lenV Try.prog 37 H (blV n g w xs) = some (.int .i64 xs.length) := len_blV s37 n g w xs
@[go_sem] theorem lo37 {H : Hp} (x : V) (hi : Option V) : sliceV Try.prog 37 H x none hi = sliceV Try.prog 37 H x (some (.int .i64 0)) hi := lo_slV ⟨_, u37⟩
@[go_sem] theorem hi37 {α : Type} {E : Enc α} {l : List α} {b : Bool} {H : Hp} (lo : Option V) : sliceV Try.prog 37 H (slV b E l) lo none = sliceV Try.prog 37 H (slV b E l) lo (some (.int .i64 l.length)) := hi_slV s37
@[go_sem] theorem ct37 {α : Type} {E : Enc α} {l : List α} {b : Bool} {H : Hp} {k k' : IntKind} {lo hi : Int} (hw : E.w = 1) (h : 0 ≤ lo ∧ lo ≤ hi ∧ hi ≤ (l.length : Int)) : sliceV Try.prog 37 H (slV b E l) (some (.int k lo)) (some (.int k' hi)) = some (slV (b && decide (l.length = 0)) E ((l.drop lo.toNat).take (hi.toNat - lo.toNat))) := cut_slV s37 hw h
@[go_sem] theorem m37 {H : Hp} : lenV Try.prog 37 H .nilslice = some (.int .i64 0) := len_nilslice (sz := 1) (by kernel_rfl)
@[go_sem] theorem z56 : szOf Try.prog 56 = some 5 := by kernel_rfl
@[go_sem] theorem y56 : bytesOf' Try.prog 56 = some 64 := by kernel_rfl
@[go_sem] theorem g56 : aggT Try.prog 56 = some true := by kernel_rfl
@[go_sem] theorem o56 : zeroV Try.prog 56 = some (.agg [.int .i64 0, .int .i64 0, .int .i64 0, .nilslice, .str []]) := by kernel_rfl
@[go_sem] theorem ai56 (cs : List V) (off i : Nat) : fieldAddrV Try.prog 56 (.ipt cs off) i = fieldAtI [0, 1, 2, 3, 4] cs off i := fieldAtI_eq (by kernel_rfl) cs off i
@[go_sem] theorem a56 (id g off i : Nat) : fieldAddrV Try.prog 56 (.ptr id g off) i = fieldAt [0, 1, 2, 3, 4] id g off i := fieldAt_eq (by kernel_rfl) id g off i
@[go_sem] theorem p56 (cs : List V) (i : Nat) : fieldV Try.prog 56 (.agg cs) i = fieldOf Try.prog [(3, 0), (3, 1), (3, 2), (37, 3), (9, 4)] cs i := fieldOf_eq (by kernel_rfl) cs i
@[go_sem] theorem h56 (ps : List (Nat × V)) : buildV Try.prog 56 ps = buildOf [.int .i64 0, .int .i64 0, .int .i64 0, .nilslice, .str []] [(0, 1), (1, 1), (2, 1), (3, 1), (4, 1)] ps := buildOf_eq (by kernel_rfl) (by kernel_rfl) ps
@[go_sem] theorem u68 : Try.prog.underlying 68 = some (.slice 29) := by kernel_rfl
@[go_sem] theorem z68 : szOf Try.prog 68 = some 1 := by kernel_rfl
@[go_sem] theorem y68 : bytesOf' Try.prog 68 = some 24 := by kernel_rfl
@[go_sem] theorem g68 : aggT Try.prog 68 = some false := by kernel_rfl
@[go_sem] theorem o68 : zeroV Try.prog 68 = some .nilslice := by kernel_rfl
theorem s68 : sliceT Try.prog 68 1 = true := by kernel_rfl
@[go_sem] theorem i68 {id g off n : Nat} {cp : Cap} {k : IntKind} {j : Int} (hj : 0 ≤ j ∧ j < n) : indexAddrV Try.prog 68 (.slice id g off n 1 cp) (.int k j) = some (.ptr id g (off + j.toNat * 1)) := ia_slice (by kernel_rfl) hj
@[go_sem] theorem n68 {H : Hp} (id g off n : Nat) (cp : Cap) : lenV Try.prog 68 H (.slice id g off n 1 cp) = some (.int .i64 n) := len_slice (sz := 1) (by kernel_rfl) id g off n 1 cp
@[go_sem] theorem is68 {α : Type} {E : Enc α} {l : List α} {b : Bool} {k : IntKind} {j : Int} (hw : E.w = 1) (hj : 0 ≤ j ∧ j < (l.length : Int)) : indexAddrV Try.prog 68 (slV b E l) (.int k j) = some (.ipt (flatE E l) (j.toNat * 1)) := idx_slV s68 hw hj
@[go_sem] theorem ns68 {α : Type} {H : Hp} (b : Bool) (E : Enc α) (l : List α) : lenV Try.prog 68 H (slV b E l) = some (.int .i64 l.length) := len_slV s68 b E l
@[go_sem] theorem nb68 {H : Hp} (n g w : Nat) (xs : List (List V)) : lenV Try.prog 68 H (blV n g w xs) = some (.int .i64 xs.length) := len_blV s68 n g w xs
@[go_sem] theorem lo68 {H : Hp} (x : V) (hi : Option V) : sliceV Try.prog 68 H x none hi = sliceV Try.prog 68 H x (some (.int .i64 0)) hi := lo_slV ⟨_, u68⟩
@[go_sem] theorem hi68 {α : Type} {E : Enc α} {l : List α} {b : Bool} {H : Hp} (lo : Option V) : sliceV Try.prog 68 H (slV b E l) lo none = sliceV Try.prog 68 H (slV b E l) lo (some (.int .i64 l.length)) := hi_slV s68
@[go_sem] theorem ct68 {α : Type} {E : Enc α} {l : List α} {b : Bool} {H : Hp} {k k' : IntKind} {lo hi : Int} (hw : E.w = 1) (h : 0 ≤ lo ∧ lo ≤ hi ∧ hi ≤ (l.length : Int)) : sliceV Try.prog 68 H (slV b E l) (some (.int k lo)) (some (.int k' hi)) = some (slV (b && decide (l.length = 0)) E ((l.drop lo.toNat).take (hi.toNat - lo.toNat))) := cut_slV s68 hw h
@[go_sem] theorem m68 {H : Hp} : lenV Try.prog 68 H .nilslice = some (.int .i64 0) := len_nilslice (sz := 1) (by kernel_rfl)
@[go_sem] theorem z82 : szOf Try.prog 82 = some 3 := by kernel_rfl
@[go_sem] theorem y82 : bytesOf' Try.prog 82 = some 32 := by kernel_rfl
@[go_sem] theorem g82 : aggT Try.prog 82 = some true := by kernel_rfl
@[go_sem] theorem o82 : zeroV Try.prog 82 = some (.agg [.str [], .int .i64 0, .int .i64 0]) := by kernel_rfl
@[go_sem] theorem ai82 (cs : List V) (off i : Nat) : fieldAddrV Try.prog 82 (.ipt cs off) i = fieldAtI [0, 1, 2] cs off i := fieldAtI_eq (by kernel_rfl) cs off i
@[go_sem] theorem a82 (id g off i : Nat) : fieldAddrV Try.prog 82 (.ptr id g off) i = fieldAt [0, 1, 2] id g off i := fieldAt_eq (by kernel_rfl) id g off i
@[go_sem] theorem p82 (cs : List V) (i : Nat) : fieldV Try.prog 82 (.agg cs) i = fieldOf Try.prog [(9, 0), (3, 1), (3, 2)] cs i := fieldOf_eq (by kernel_rfl) cs i
@[go_sem] theorem h82 (ps : List (Nat × V)) : buildV Try.prog 82 ps = buildOf [.str [], .int .i64 0, .int .i64 0] [(0, 1), (1, 1), (2, 1)] ps := buildOf_eq (by kernel_rfl) (by kernel_rfl) ps
@[go_sem] theorem u84 : Try.prog.underlying 84 = some (.pointer 87) := by kernel_rfl
@[go_sem] theorem z84 : szOf Try.prog 84 = some 1 := by kernel_rfl
@[go_sem] theorem y84 : bytesOf' Try.prog 84 = some 8 := by kernel_rfl
@[go_sem] theorem g84 : aggT Try.prog 84 = some false := by kernel_rfl
@[go_sem] theorem o84 : zeroV Try.prog 84 = some .nilptr := by kernel_rfl
@[go_sem] theorem u85 : Try.prog.underlying 85 = some (.slice 23) := by kernel_rfl
@[go_sem] theorem z85 : szOf Try.prog 85 = some 1 := by kernel_rfl
@[go_sem] theorem y85 : bytesOf' Try.prog 85 = some 24 := by kernel_rfl
@[go_sem] theorem g85 : aggT Try.prog 85 = some false := by kernel_rfl
@[go_sem] theorem o85 : zeroV Try.prog 85 = some .nilslice := by kernel_rfl
theorem s85 : sliceT Try.prog 85 1 = true := by kernel_rfl
@[go_sem] theorem i85 {id g off n : Nat} {cp : Cap} {k : IntKind} {j : Int} (hj : 0 ≤ j ∧ j < n) : indexAddrV Try.prog 85 (.slice id g off n 1 cp) (.int k j) = some (.ptr id g (off + j.toNat * 1)) := ia_slice (by kernel_rfl) hj
@[go_sem] theorem n85 {H : Hp} (id g off n : Nat) (cp : Cap) : lenV Try.prog 85 H (.slice id g off n 1 cp) = some (.int .i64 n) := len_slice (sz := 1) (by kernel_rfl) id g off n 1 cp
@[go_sem] theorem is85 {α : Type} {E : Enc α} {l : List α} {b : Bool} {k : IntKind} {j : Int} (hw : E.w = 1) (hj : 0 ≤ j ∧ j < (l.length : Int)) : indexAddrV Try.prog 85 (slV b E l) (.int k j) = some (.ipt (flatE E l) (j.toNat * 1)) := idx_slV s85 hw hj
@[go_sem] theorem ns85 {α : Type} {H : Hp} (b : Bool) (E : Enc α) (l : List α) : lenV Try.prog 85 H (slV b E l) = some (.int .i64 l.length) := len_slV s85 b E l
@[go_sem] theorem nb85 {H : Hp} (n g w : Nat) (xs : List (List V)) : lenV Try.prog 85 H (blV n g w xs) = some (.int .i64 xs.length) := len_blV s85 n g w xs
@[go_sem] theorem lo85 {H : Hp} (x : V) (hi : Option V) : sliceV Try.prog 85 H x none hi = sliceV Try.prog 85 H x (some (.int .i64 0)) hi := lo_slV ⟨_, u85⟩
@[go_sem] theorem hi85 {α : Type} {E : Enc α} {l : List α} {b : Bool} {H : Hp} (lo : Option V) : sliceV Try.prog 85 H (slV b E l) lo none = sliceV Try.prog 85 H (slV b E l) lo (some (.int .i64 l.length)) := hi_slV s85
@[go_sem] theorem ct85 {α : Type} {E : Enc α} {l : List α} {b : Bool} {H : Hp} {k k' : IntKind} {lo hi : Int} (hw : E.w = 1) (h : 0 ≤ lo ∧ lo ≤ hi ∧ hi ≤ (l.length : Int)) : sliceV Try.prog 85 H (slV b E l) (some (.int k lo)) (some (.int k' hi)) = some (slV (b && decide (l.length = 0)) E ((l.drop lo.toNat).take (hi.toNat - lo.toNat))) := cut_slV s85 hw h
@[go_sem] theorem m85 {H : Hp} : lenV Try.prog 85 H .nilslice = some (.int .i64 0) := len_nilslice (sz := 1) (by kernel_rfl)
@[go_sem] theorem z87 : szOf Try.prog 87 = some 8 := by kernel_rfl
@[go_sem] theorem y87 : bytesOf' Try.prog 87 = some 184 := by kernel_rfl
@[go_sem] theorem g87 : aggT Try.prog 87 = some true := by kernel_rfl
@[go_sem] theorem o87 : zeroV Try.prog 87 = some (.agg [.nilslice, .nilslice, .str [], .nilslice, .nilslice, .nilslice, .nilslice, .nilslice]) := by kernel_rfl
@[go_sem] theorem ai87 (cs : List V) (off i : Nat) : fieldAddrV Try.prog 87 (.ipt cs off) i = fieldAtI [0, 1, 2, 7] cs off i := fieldAtI_eq (by kernel_rfl) cs off i
@[go_sem] theorem a87 (id g off i : Nat) : fieldAddrV Try.prog 87 (.ptr id g off) i = fieldAt [0, 1, 2, 7] id g off i := fieldAt_eq (by kernel_rfl) id g off i
@[go_sem] theorem p87 (cs : List V) (i : Nat) : fieldV Try.prog 87 (.agg cs) i = fieldOf Try.prog [(22, 0), (23, 1), (31, 2), (85, 7)] cs i := fieldOf_eq (by kernel_rfl) cs i
@[go_sem] theorem h87 (ps : List (Nat × V)) : buildV Try.prog 87 ps = buildOf [.nilslice, .nilslice, .str [], .nilslice, .nilslice, .nilslice, .nilslice, .nilslice] [(0, 1), (1, 1), (2, 5), (7, 1)] ps := buildOf_eq (by kernel_rfl) (by kernel_rfl) ps
@[go_sem] theorem z97 : szOf Try.prog 97 = some 2 := by kernel_rfl
@[go_sem] theorem y97 : bytesOf' Try.prog 97 = some 40 := by kernel_rfl
@[go_sem] theorem g97 : aggT Try.prog 97 = some true := by kernel_rfl
@[go_sem] theorem o97 : zeroV Try.prog 97 = some (.agg [.nilslice, .str []]) := by kernel_rfl
@[go_sem] theorem ai97 (cs : List V) (off i : Nat) : fieldAddrV Try.prog 97 (.ipt cs off) i = fieldAtI [0, 1] cs off i := fieldAtI_eq (by kernel_rfl) cs off i
@[go_sem] theorem a97 (id g off i : Nat) : fieldAddrV Try.prog 97 (.ptr id g off) i = fieldAt [0, 1] id g off i := fieldAt_eq (by kernel_rfl) id g off i
@[go_sem] theorem p97 (cs : List V) (i : Nat) : fieldV Try.prog 97 (.agg cs) i = fieldOf Try.prog [(37, 0), (9, 1)] cs i := fieldOf_eq (by kernel_rfl) cs i
@[go_sem] theorem h97 (ps : List (Nat × V)) : buildV Try.prog 97 ps = buildOf [.nilslice, .str []] [(0, 1), (1, 1)] ps := buildOf_eq (by kernel_rfl) (by kernel_rfl) ps
@[go_sem] theorem z100 : szOf Try.prog 100 = some 2 := by kernel_rfl
@[go_sem] theorem y100 : bytesOf' Try.prog 100 = some 40 := by kernel_rfl
@[go_sem] theorem g100 : aggT Try.prog 100 = some true := by kernel_rfl
@[go_sem] theorem o100 : zeroV Try.prog 100 = some (.agg [.str [], .nilslice]) := by kernel_rfl
@[go_sem] theorem ai100 (cs : List V) (off i : Nat) : fieldAddrV Try.prog 100 (.ipt cs off) i = fieldAtI [0, 1] cs off i := fieldAtI_eq (by kernel_rfl) cs off i
@[go_sem] theorem a100 (id g off i : Nat) : fieldAddrV Try.prog 100 (.ptr id g off) i = fieldAt [0, 1] id g off i := fieldAt_eq (by kernel_rfl) id g off i
@[go_sem] theorem p100 (cs : List V) (i : Nat) : fieldV Try.prog 100 (.agg cs) i = fieldOf Try.prog [(9, 0), (37, 1)] cs i := fieldOf_eq (by kernel_rfl) cs i
@[go_sem] theorem h100 (ps : List (Nat × V)) : buildV Try.prog 100 ps = buildOf [.str [], .nilslice] [(0, 1), (1, 1)] ps := buildOf_eq (by kernel_rfl) (by kernel_rfl) ps
@[go_sem] theorem z136 : szOf Try.prog 136 = some 1 := by kernel_rfl
@[go_sem] theorem y136 : bytesOf' Try.prog 136 = some 8 := by kernel_rfl
@[go_sem] theorem g136 : aggT Try.prog 136 = some false := by kernel_rfl
@[go_sem] theorem o136 : zeroV Try.prog 136 = some .nilfn := by kernel_rfl
@[go_sem] theorem z144 : szOf Try.prog 144 = some 1 := by kernel_rfl
@[go_sem] theorem y144 : bytesOf' Try.prog 144 = some 8 := by kernel_rfl
@[go_sem] theorem g144 : aggT Try.prog 144 = some false := by kernel_rfl
@[go_sem] theorem o144 : zeroV Try.prog 144 = some .nilfn := by kernel_rfl
@[go_sem] theorem z147 : szOf Try.prog 147 = some 1 := by kernel_rfl
@[go_sem] theorem y147 : bytesOf' Try.prog 147 = some 8 := by kernel_rfl
@[go_sem] theorem g147 : aggT Try.prog 147 = some false := by kernel_rfl
@[go_sem] theorem o147 : zeroV Try.prog 147 = some .nilfn := by kernel_rfl
@[go_sem] theorem z150 : szOf Try.prog 150 = some 1 := by kernel_rfl
@[go_sem] theorem y150 : bytesOf' Try.prog 150 = some 8 := by kernel_rfl
@[go_sem] theorem g150 : aggT Try.prog 150 = some false := by kernel_rfl
@[go_sem] theorem o150 : zeroV Try.prog 150 = some .nilfn := by kernel_rfl
@[go_sem] theorem z152 : szOf Try.prog 152 = some 1 := by kernel_rfl
@[go_sem] theorem y152 : bytesOf' Try.prog 152 = some 8 := by kernel_rfl
@[go_sem] theorem g152 : aggT Try.prog 152 = some false := by kernel_rfl
@[go_sem] theorem o152 : zeroV Try.prog 152 = some .nilfn := by kernel_rfl
@[go_sem] theorem z153 : szOf Try.prog 153 = some 1 := by kernel_rfl
@[go_sem] theorem y153 : bytesOf' Try.prog 153 = some 8 := by kernel_rfl
@[go_sem] theorem g153 : aggT Try.prog 153 = some false := by kernel_rfl
@[go_sem] theorem o153 : zeroV Try.prog 153 = some .nilfn := by kernel_rfl
@[go_sem] theorem z154 : szOf Try.prog 154 = some 1 := by kernel_rfl
@[go_sem] theorem y154 : bytesOf' Try.prog 154 = some 8 := by kernel_rfl
@[go_sem] theorem g154 : aggT Try.prog 154 = some false := by kernel_rfl
@[go_sem] theorem o154 : zeroV Try.prog 154 = some .nilfn := by kernel_rfl
@[go_sem] theorem z187 : szOf Try.prog 187 = some 1 := by kernel_rfl
@[go_sem] theorem y187 : bytesOf' Try.prog 187 = some 8 := by kernel_rfl
@[go_sem] theorem g187 : aggT Try.prog 187 = some false := by kernel_rfl
@[go_sem] theorem o187 : zeroV Try.prog 187 = some .nilfn := by kernel_rfl
@[go_sem] theorem x37_9 {H : Hp} (c : Bool) (l : List UInt8) : convV Try.prog 37 9 H (slV c byE l) = some (.str l, H) := str_slV (by kernel_rfl) c l
@[go_sem] theorem xi9_37 {m : List UInt8} (hm : m.length ≤ 2 ^ 40) : immCv Try.prog 9 37 (.str m) = some (slV false byE m) := ic_slV (by kernel_rfl) hm
@[go_sem] theorem e82 (xs ys : List V) : binV Try.prog .eql 82 (.agg xs) (.agg ys) = if ckOks [.str, .int .i64, .int .i64] xs = true ∧ ckOks [.str, .int .i64, .int .i64] ys = true then some (.bool (eqCells xs ys)) else none := agg_eq (ks := [.str, .int .i64, .int .i64]) (by kernel_rfl) g82 z82 xs ys
@[go_sem] theorem ne82 (xs ys : List V) : binV Try.prog .neq 82 (.agg xs) (.agg ys) = if ckOks [.str, .int .i64, .int .i64] xs = true ∧ ckOks [.str, .int .i64, .int .i64] ys = true then some (.bool (!eqCells xs ys)) else none := agg_ne (ks := [.str, .int .i64, .int .i64]) (by kernel_rfl) g82 z82 xs ys
@[go_sem] theorem v26s {α : Type} (b : Bool) (E : Enc α) (l : List α) : binV Try.prog .eql 26 (slV b E l) .nilslice = some (.bool (b && decide (l.length = 0))) := (nil_slV (by kernel_rfl) b E l).1
@[go_sem] theorem v26t {α : Type} (b : Bool) (E : Enc α) (l : List α) : binV Try.prog .neq 26 (slV b E l) .nilslice = some (.bool (!(b && decide (l.length = 0)))) := (nil_slV (by kernel_rfl) b E l).2
@[go_sem] theorem v26a (a b c d e : Nat) (cp : Cap) : binV Try.prog .eql 26 (.slice a b c d e cp) .nilslice = some (.bool false) := (sl_nil (by kernel_rfl) a b c d e cp).1
@[go_sem] theorem v26b (a b c d e : Nat) (cp : Cap) : binV Try.prog .neq 26 (.slice a b c d e cp) .nilslice = some (.bool true) := (sl_nil (by kernel_rfl) a b c d e cp).2.1
@[go_sem] theorem v26c : binV Try.prog .eql 26 .nilslice .nilslice = some (.bool true) := (sl_nil (by kernel_rfl) 0 0 0 0 0 .full).2.2.1
@[go_sem] theorem v26d : binV Try.prog .neq 26 .nilslice .nilslice = some (.bool false) := (sl_nil (by kernel_rfl) 0 0 0 0 0 .full).2.2.2
@[go_sem] theorem v27s {α : Type} (b : Bool) (E : Enc α) (l : List α) : binV Try.prog .eql 27 (slV b E l) .nilslice = some (.bool (b && decide (l.length = 0))) := (nil_slV (by kernel_rfl) b E l).1
@[go_sem] theorem v27t {α : Type} (b : Bool) (E : Enc α) (l : List α) : binV Try.prog .neq 27 (slV b E l) .nilslice = some (.bool (!(b && decide (l.length = 0)))) := (nil_slV (by kernel_rfl) b E l).2
@[go_sem] theorem v27a (a b c d e : Nat) (cp : Cap) : binV Try.prog .eql 27 (.slice a b c d e cp) .nilslice = some (.bool false) := (sl_nil (by kernel_rfl) a b c d e cp).1
@[go_sem] theorem v27b (a b c d e : Nat) (cp : Cap) : binV Try.prog .neq 27 (.slice a b c d e cp) .nilslice = some (.bool true) := (sl_nil (by kernel_rfl) a b c d e cp).2.1
@[go_sem] theorem v27c : binV Try.prog .eql 27 .nilslice .nilslice = some (.bool true) := (sl_nil (by kernel_rfl) 0 0 0 0 0 .full).2.2.1
@[go_sem] theorem v27d : binV Try.prog .neq 27 .nilslice .nilslice = some (.bool false) := (sl_nil (by kernel_rfl) 0 0 0 0 0 .full).2.2.2
@[go_sem] theorem v37s {α : Type} (b : Bool) (E : Enc α) (l : List α) : binV Try.prog .eql 37 (slV b E l) .nilslice = some (.bool (b && decide (l.length = 0))) := (nil_slV (by kernel_rfl) b E l).1
@[go_sem] theorem v37t {α : Type} (b : Bool) (E : Enc α) (l : List α) : binV Try.prog .neq 37 (slV b E l) .nilslice = some (.bool (!(b && decide (l.length = 0)))) := (nil_slV (by kernel_rfl) b E l).2
@[go_sem] theorem v37a (a b c d e : Nat) (cp : Cap) : binV Try.prog .eql 37 (.slice a b c d e cp) .nilslice = some (.bool false) := (sl_nil (by kernel_rfl) a b c d e cp).1
@[go_sem] theorem v37b (a b c d e : Nat) (cp : Cap) : binV Try.prog .neq 37 (.slice a b c d e cp) .nilslice = some (.bool true) := (sl_nil (by kernel_rfl) a b c d e cp).2.1
@[go_sem] theorem v37c : binV Try.prog .eql 37 .nilslice .nilslice = some (.bool true) := (sl_nil (by kernel_rfl) 0 0 0 0 0 .full).2.2.1
@[go_sem] theorem v37d : binV Try.prog .neq 37 .nilslice .nilslice = some (.bool false) := (sl_nil (by kernel_rfl) 0 0 0 0 0 .full).2.2.2
@[go_sem] theorem v28s {α : Type} (b : Bool) (E : Enc α) (l : List α) : binV Try.prog .eql 28 (slV b E l) .nilslice = some (.bool (b && decide (l.length = 0))) := (nil_slV (by kernel_rfl) b E l).1
@[go_sem] theorem v28t {α : Type} (b : Bool) (E : Enc α) (l : List α) : binV Try.prog .neq 28 (slV b E l) .nilslice = some (.bool (!(b && decide (l.length = 0)))) := (nil_slV (by kernel_rfl) b E l).2
@[go_sem] theorem v28a (a b c d e : Nat) (cp : Cap) : binV Try.prog .eql 28 (.slice a b c d e cp) .nilslice = some (.bool false) := (sl_nil (by kernel_rfl) a b c d e cp).1
@[go_sem] theorem v28b (a b c d e : Nat) (cp : Cap) : binV Try.prog .neq 28 (.slice a b c d e cp) .nilslice = some (.bool true) := (sl_nil (by kernel_rfl) a b c d e cp).2.1
@[go_sem] theorem v28c : binV Try.prog .eql 28 .nilslice .nilslice = some (.bool true) := (sl_nil (by kernel_rfl) 0 0 0 0 0 .full).2.2.1
@[go_sem] theorem v28d : binV Try.prog .neq 28 .nilslice .nilslice = some (.bool false) := (sl_nil (by kernel_rfl) 0 0 0 0 0 .full).2.2.2
@[go_sem] theorem v29s {α : Type} (b : Bool) (E : Enc α) (l : List α) : binV Try.prog .eql 29 (slV b E l) .nilslice = some (.bool (b && decide (l.length = 0))) := (nil_slV (by kernel_rfl) b E l).1
@[go_sem] theorem v29t {α : Type} (b : Bool) (E : Enc α) (l : List α) : binV Try.prog .neq 29 (slV b E l) .nilslice = some (.bool (!(b && decide (l.length = 0)))) := (nil_slV (by kernel_rfl) b E l).2
@[go_sem] theorem v29a (a b c d e : Nat) (cp : Cap) : binV Try.prog .eql 29 (.slice a b c d e cp) .nilslice = some (.bool false) := (sl_nil (by kernel_rfl) a b c d e cp).1
@[go_sem] theorem v29b (a b c d e : Nat) (cp : Cap) : binV Try.prog .neq 29 (.slice a b c d e cp) .nilslice = some (.bool true) := (sl_nil (by kernel_rfl) a b c d e cp).2.1
@[go_sem] theorem v29c : binV Try.prog .eql 29 .nilslice .nilslice = some (.bool true) := (sl_nil (by kernel_rfl) 0 0 0 0 0 .full).2.2.1
@[go_sem] theorem v29d : binV Try.prog .neq 29 .nilslice .nilslice = some (.bool false) := (sl_nil (by kernel_rfl) 0 0 0 0 0 .full).2.2.2
@[go_sem] theorem w22_22 {H : Hp} (s x : V) : builtinV Try.prog .append #[22, 22] [s, x] H = appOf 5 112 H s x.dem1 := app_eq (by kernel_rfl) s x
@[go_sem] theorem w29_29 {H : Hp} (s x : V) : builtinV Try.prog .append #[29, 29] [s, x] H = appOf 5 64 H s x.dem1 := app_eq (by kernel_rfl) s x
@[go_sem] theorem w23_23 {H : Hp} (s x : V) : builtinV Try.prog .append #[23, 23] [s, x] H = appOf 1 8 H s x.dem1 := app_eq (by kernel_rfl) s x
@[go_sem] theorem w68_68 {H : Hp} (s x : V) : builtinV Try.prog .append #[68, 68] [s, x] H = appOf 1 24 H s x.dem1 := app_eq (by kernel_rfl) s x
@[go_sem] theorem w85_85 {H : Hp} (s x : V) : builtinV Try.prog .append #[85, 85] [s, x] H = appOf 1 24 H s x.dem1 := app_eq (by kernel_rfl) s x
@[go_sem] theorem w26_26 {H : Hp} (s x : V) : builtinV Try.prog .append #[26, 26] [s, x] H = appOf 3 32 H s x.dem1 := app_eq (by kernel_rfl) s x
@[go_sem] theorem w27_27 {H : Hp} (s x : V) : builtinV Try.prog .append #[27, 27] [s, x] H = appOf 2 40 H s x.dem1 := app_eq (by kernel_rfl) s x
@[go_sem] theorem w28_28 {H : Hp} (s x : V) : builtinV Try.prog .append #[28, 28] [s, x] H = appOf 2 40 H s x.dem1 := app_eq (by kernel_rfl) s x
@[go_sem] theorem w37_37 {H : Hp} (s x : V) : builtinV Try.prog .append #[37, 37] [s, x] H = appOf 1 1 H s x.dem1 := app_eq (by kernel_rfl) s x
@[go_sem] theorem bb4e (x y : Bool) : binV Try.prog .eql 4 (.bool x) (.bool y) = some (.bool (x == y)) := b_beql 4 x y u4
@[go_sem] theorem bb4n (x y : Bool) : binV Try.prog .neq 4 (.bool x) (.bool y) = some (.bool (!(x == y))) := b_bneq 4 x y u4
@[go_sem] theorem qi22 (v : V) : immSl Try.prog 22 1 [(0, v)] = if immL v.cells = true ∧ v.cells.length = 5 then some (.isl v.cells 1 5) else none := is_one u22 z31 o31 rfl (by decide) (by decide) v
@[go_sem] theorem q22 {H : Hp} (v : V) : buildSliceV Try.prog 22 1 [(0, v)] H = if v.cells.all V.isCell = true ∧ v.cells.length = 5 then some (.slice H.length 0 0 1 5 .full, H ++ [.row 0 v.cells true]) else none := bs_if u22 z31 o31 rfl (by decide) (by decide) v
@[go_sem] theorem qi23 (v : V) : immSl Try.prog 23 1 [(0, v)] = if immL v.cells = true ∧ v.cells.length = 1 then some (.isl v.cells 1 1) else none := is_one u23 z3 o3 rfl (by decide) (by decide) v
@[go_sem] theorem q23 {H : Hp} (v : V) : buildSliceV Try.prog 23 1 [(0, v)] H = if v.cells.all V.isCell = true ∧ v.cells.length = 1 then some (.slice H.length 0 0 1 1 .full, H ++ [.row 0 v.cells true]) else none := bs_if u23 z3 o3 rfl (by decide) (by decide) v
@[go_sem] theorem qi26 (v : V) : immSl Try.prog 26 1 [(0, v)] = if immL v.cells = true ∧ v.cells.length = 3 then some (.isl v.cells 1 3) else none := is_one u26 z82 o82 rfl (by decide) (by decide) v
@[go_sem] theorem q26 {H : Hp} (v : V) : buildSliceV Try.prog 26 1 [(0, v)] H = if v.cells.all V.isCell = true ∧ v.cells.length = 3 then some (.slice H.length 0 0 1 3 .full, H ++ [.row 0 v.cells true]) else none := bs_if u26 z82 o82 rfl (by decide) (by decide) v
@[go_sem] theorem qi27 (v : V) : immSl Try.prog 27 1 [(0, v)] = if immL v.cells = true ∧ v.cells.length = 2 then some (.isl v.cells 1 2) else none := is_one u27 z97 o97 rfl (by decide) (by decide) v
@[go_sem] theorem q27 {H : Hp} (v : V) : buildSliceV Try.prog 27 1 [(0, v)] H = if v.cells.all V.isCell = true ∧ v.cells.length = 2 then some (.slice H.length 0 0 1 2 .full, H ++ [.row 0 v.cells true]) else none := bs_if u27 z97 o97 rfl (by decide) (by decide) v
@[go_sem] theorem qi28 (v : V) : immSl Try.prog 28 1 [(0, v)] = if immL v.cells = true ∧ v.cells.length = 2 then some (.isl v.cells 1 2) else none := is_one u28 z100 o100 rfl (by decide) (by decide) v
@[go_sem] theorem q28 {H : Hp} (v : V) : buildSliceV Try.prog 28 1 [(0, v)] H = if v.cells.all V.isCell = true ∧ v.cells.length = 2 then some (.slice H.length 0 0 1 2 .full, H ++ [.row 0 v.cells true]) else none := bs_if u28 z100 o100 rfl (by decide) (by decide) v
@[go_sem] theorem qi29 (v : V) : immSl Try.prog 29 1 [(0, v)] = if immL v.cells = true ∧ v.cells.length = 5 then some (.isl v.cells 1 5) else none := is_one u29 z56 o56 rfl (by decide) (by decide) v
@[go_sem] theorem q29 {H : Hp} (v : V) : buildSliceV Try.prog 29 1 [(0, v)] H = if v.cells.all V.isCell = true ∧ v.cells.length = 5 then some (.slice H.length 0 0 1 5 .full, H ++ [.row 0 v.cells true]) else none := bs_if u29 z56 o56 rfl (by decide) (by decide) v
@[go_sem] theorem qi68 (v : V) : immSl Try.prog 68 1 [(0, v)] = if immL v.cells = true ∧ v.cells.length = 1 then some (.isl v.cells 1 1) else none := is_one u68 z29 o29 rfl (by decide) (by decide) v
@[go_sem] theorem q68 {H : Hp} (v : V) : buildSliceV Try.prog 68 1 [(0, v)] H = if v.cells.all V.isCell = true ∧ v.cells.length = 1 then some (.slice H.length 0 0 1 1 .full, H ++ [.row 0 v.cells true]) else none := bs_if u68 z29 o29 rfl (by decide) (by decide) v
@[go_sem] theorem qi85 (v : V) : immSl Try.prog 85 1 [(0, v)] = if immL v.cells = true ∧ v.cells.length = 1 then some (.isl v.cells 1 1) else none := is_one u85 z23 o23 rfl (by decide) (by decide) v
@[go_sem] theorem q85 {H : Hp} (v : V) : buildSliceV Try.prog 85 1 [(0, v)] H = if v.cells.all V.isCell = true ∧ v.cells.length = 1 then some (.slice H.length 0 0 1 1 .full, H ++ [.row 0 v.cells true]) else none := bs_if u85 z23 o23 rfl (by decide) (by decide) v
@[go_sem] theorem qz26 {H : Hp} : buildSliceV Try.prog 26 0 [] H = some (.slice H.length 0 0 0 3 .full, H ++ [.row 0 [] true]) := bs_zero u26 z82 o82 rfl (by decide)
@[go_sem] theorem qz27 {H : Hp} : buildSliceV Try.prog 27 0 [] H = some (.slice H.length 0 0 0 2 .full, H ++ [.row 0 [] true]) := bs_zero u27 z97 o97 rfl (by decide)
@[go_sem] theorem qz37 {H : Hp} : buildSliceV Try.prog 37 0 [] H = some (.slice H.length 0 0 0 1 .full, H ++ [.row 0 [] true]) := bs_zero u37 z5 o5 rfl (by decide)
@[go_sem] theorem qz28 {H : Hp} : buildSliceV Try.prog 28 0 [] H = some (.slice H.length 0 0 0 2 .full, H ++ [.row 0 [] true]) := bs_zero u28 z100 o100 rfl (by decide)
@[go_sem] theorem qz29 {H : Hp} : buildSliceV Try.prog 29 0 [] H = some (.slice H.length 0 0 0 5 .full, H ++ [.row 0 [] true]) := bs_zero u29 z56 o56 rfl (by decide)
def r3_0 : List Co := [
 co 4 (.assign (.const (.bool false)))]
def r3_1 : List Co := [
 co 9 (.move (tm 0)),
 co 10 (.call ⟨.value (.func 14), #[(tm 9)], #[22]⟩),
 co 11 (.move (tm 1)),
 co 12 (.call ⟨.builtin .len, #[(tm 11)], #[23]⟩),
 co 13 (.binOp .add 3 (tm 10) (tm 12) 3),
 co 14 (.binOp .gtr 3 (tm 13) (.const (.int .i64 400000)) 3)]
def r3_2 : List Co := [
 co 15 (.call ⟨.value (.func 15), #[], #[]⟩),
 co 4 (.assign (tm 15))]
def r3_3 : List Co := [
 co 17 (.move (tm 0)),
 co 18 (.move (tm 1)),
 co 19 (.call ⟨.value (.func 16), #[(tm 17), (tm 18)], #[22, 23]⟩),
 co 16 (.move (tm 19)),
 co 20 (.extract (tm 16) 0),
 co 21 (.extract (tm 16) 1),
 co 5 (.alloc 31),
 coz (.store 31 (tm 5) (tm 20)),
 co 6 (.assign (tm 21))]
def r3_4 : List Co := [
 co 23 (.move (tm 0)),
 co 24 (.move (tm 1)),
 co 25 (.call ⟨.value (.func 17), #[(tm 23), (tm 24)], #[22, 23]⟩),
 co 22 (.move (tm 25)),
 co 26 (.extract (tm 22) 0),
 co 27 (.extract (tm 22) 1),
 co 7 (.alloc 31),
 coz (.store 31 (tm 7) (tm 26)),
 co 8 (.assign (tm 27))]
def r3_5 : List Co := [
 co 28 (.load 31 (tm 5)),
 co 29 (.load 31 (tm 7)),
 co 30 (.call ⟨.value (.func 18), #[(tm 28), (tm 29)], #[31, 31]⟩),
 co 31 (.move (tm 30)),
 cog 32 (.move (tm 6)) 31 true,
 cog 33 (.move (tm 8)) 31 true,
 cog 34 (.binOp .eql 32 (tm 32) (tm 33) 32) 31 true,
 co 35 (.pick (tm 31) (tm 34) (.const (.bool false))),
 co 36 (.move (tm 35)),
 cog 37 (.call ⟨.value (.func 15), #[], #[]⟩) 36 true,
 co 38 (.pick (tm 36) (tm 37) (.const (.bool false))),
 co 4 (.assign (tm 38))]
def c3 : Cc := (.seq (.reg r3_0) (.seq (.seq (.reg r3_1) (.cond (tm 14) (.seq (.reg r3_2) .ret) .skip)) (.seq (.reg r3_3) (.seq (.reg r3_4) (.seq (.reg r3_5) .ret)))))
def r14_0 : List Co := [
 co 2 (.assign (.const (.int .i64 0)))]
def r14_1 : List Co := [
 co 3 (.assign (.const (.int .i64 0)))]
def r14_2 : List Co := [
 co 4 (.assign (.const (.int .i64 0)))]
def r14_3 : List Co := [
 co 5 (.move (tm 4)),
 co 6 (.move (tm 0)),
 co 7 (.call ⟨.builtin .len, #[(tm 6)], #[22]⟩),
 co 8 (.binOp .lss 3 (tm 5) (tm 7) 3)]
def r14_4 : List Co := [
 co 11 (.move (tm 3)),
 co 12 (.move (tm 0)),
 co 13 (.move (tm 4)),
 co 14 (.indexAddr 22 (tm 12) (tm 13)),
 co 15 (.load 31 (tm 14)),
 co 16 (.call ⟨.value (.func 21), #[(tm 15)], #[31]⟩),
 co 17 (.binOp .add 3 (.const (.int .i64 1)) (tm 16) 3),
 co 18 (.binOp .add 3 (tm 11) (tm 17) 3),
 co 3 (.assign (tm 18))]
def r14_5 : List Co := [
 co 9 (.move (tm 4)),
 co 10 (.binOp .add 3 (tm 9) (.const (.int .i64 1)) 3),
 co 4 (.assign (tm 10))]
def l14_6 : Cc := (.seq (.seq (.reg r14_3) (.cond (tm 8) .skip (.exit 0))) (.seq (.block 1 (.reg r14_4)) (.reg r14_5)))
def r14_7 : List Co := [
 co 19 (.move (tm 3)),
 co 2 (.assign (tm 19))]
def c14 : Cc := (.seq (.reg r14_0) (.seq (.reg r14_1) (.seq (.seq (.reg r14_2) (.block 0 (.loop l14_6))) (.seq (.reg r14_7) .ret))))
def r16_0 : List Co := [
 co 4 (.alloc 31),
 co 5 (.assign (.const (.int .i64 0)))]
def r16_1 : List Co := [
 co 15 (.move (tm 0)),
 co 16 (.call ⟨.value (.func 54), #[(tm 15)], #[22]⟩),
 co 6 (.assign (tm 16))]
def r16_2 : List Co := [
 co 17 (.move (tm 6)),
 co 18 (.binOp .neq 32 (tm 17) (.const (.int .i64 0)) 32)]
def r16_3 : List Co := [
 co 19 (.build 31 #[]),
 co 20 (.move (tm 6)),
 coz (.store 31 (tm 4) (tm 19)),
 co 5 (.assign (tm 20))]
def r16_4 : List Co := [
 co 21 (.move (tm 0)),
 co 22 (.call ⟨.builtin .len, #[(tm 21)], #[22]⟩),
 co 23 (.move (tm 1)),
 co 24 (.call ⟨.builtin .len, #[(tm 23)], #[23]⟩),
 co 25 (.binOp .neq 3 (tm 22) (tm 24) 3)]
def r16_5 : List Co := [
 co 26 (.build 31 #[]),
 coz (.store 31 (tm 4) (tm 26)),
 co 5 (.assign (.const (.int .i64 10)))]
def r16_6 : List Co := [
 co 27 (.move (tm 0)),
 co 28 (.call ⟨.builtin .len, #[(tm 27)], #[22]⟩),
 co 29 (.binOp .eql 3 (tm 28) (.const (.int .i64 0)) 3)]
def r16_7 : List Co := [
 co 30 (.build 31 #[]),
 coz (.store 31 (tm 4) (tm 30)),
 co 5 (.assign (.const (.int .i64 1)))]
def r16_8 : List Co := [
 co 31 (.move (tm 0)),
 co 32 (.call ⟨.builtin .len, #[(tm 31)], #[22]⟩),
 co 33 (.makeSlice 23 (tm 32) (tm 32)),
 co 34 (.build 87 #[(1, (tm 33))]),
 co 35 (.box 87 (tm 34)),
 co 7 (.assign (tm 35))]
def r16_9 : List Co := [
 co 36 (.move (tm 0)),
 co 37 (.call ⟨.builtin .len, #[(tm 36)], #[22]⟩),
 co 38 (.move (.const (.int .i64 0)))]
def r16_10 : List Co := [
 co 39 (.binOp .lss 3 (tm 38) (tm 37) 3)]
def r16_11 : List Co := [
 co 40 (.move (tm 38)),
 co 41 (.indexAddr 22 (tm 36) (tm 38)),
 co 42 (.load 31 (tm 41)),
 co 9 (.alloc 31),
 co 8 (.assign (tm 40)),
 coz (.store 31 (tm 9) (tm 42))]
def r16_12 : List Co := [
 co 44 (.load 31 (tm 9)),
 co 45 (.move (tm 1)),
 co 46 (.move (tm 8)),
 co 47 (.indexAddr 23 (tm 45) (tm 46)),
 co 48 (.load 3 (tm 47)),
 co 49 (.call ⟨.value (.func 46), #[(tm 44), (tm 48)], #[31, 3]⟩),
 co 43 (.move (tm 49)),
 co 50 (.extract (tm 43) 0),
 co 51 (.extract (tm 43) 1),
 co 10 (.alloc 31),
 coz (.store 31 (tm 10) (tm 50)),
 co 11 (.assign (tm 51))]
def r16_13 : List Co := [
 co 52 (.move (tm 11)),
 co 53 (.binOp .neq 32 (tm 52) (.const (.int .i64 0)) 32)]
def r16_14 : List Co := [
 co 54 (.build 31 #[]),
 co 55 (.move (tm 11)),
 coz (.store 31 (tm 4) (tm 54)),
 co 5 (.assign (tm 55))]
def r16_15 : List Co := [
 co 56 (.move (tm 7)),
 co 57 (.move (tm 7)),
 co 58 (.nilCheck (tm 57)),
 co 59 (.fieldAddr 87 (tm 58) 0),
 co 60 (.load 22 (tm 59)),
 co 61 (.load 31 (tm 10)),
 coi 62 (.buildSlice 22 1 #[(0, (tm 61))]),
 co 63 (.call ⟨.builtin .append, #[(tm 60), (tm 62)], #[22, 22]⟩),
 co 64 (.nilCheck (tm 56)),
 co 65 (.fieldAddr 87 (tm 64) 0),
 coz (.store 22 (tm 65) (tm 63))]
def r16_16 : List Co := [
 co 66 (.binOp .add 3 (tm 38) (.const (.int .i64 1)) 3),
 co 38 (.move (tm 66))]
def l16_17 : Cc := (.seq (.reg r16_10) (.seq (.cond (tm 39) .skip (.exit 0)) (.seq (.block 1 (.seq (.reg r16_11) (.seq (.reg r16_12) (.seq (.seq (.reg r16_13) (.cond (tm 53) (.seq (.reg r16_14) .ret) .skip)) (.reg r16_15))))) (.reg r16_16))))
def r16_18 : List Co := [
 co 67 (.move (tm 7)),
 co 68 (.call ⟨.value (.func 55), #[(tm 67)], #[84]⟩)]
def r16_19 : List Co := [
 co 69 (.move (tm 7)),
 co 70 (.call ⟨.value (.func 56), #[(tm 69)], #[84]⟩),
 co 12 (.assign (tm 70))]
def r16_20 : List Co := [
 co 71 (.move (tm 12)),
 co 72 (.binOp .geq 3 (tm 71) (.const (.int .i64 0)) 3)]
def r16_21 : List Co := [
 co 75 (.move (tm 7)),
 co 76 (.nilCheck (tm 75)),
 co 77 (.fieldAddr 87 (tm 76) 0),
 co 78 (.load 22 (tm 77)),
 co 79 (.move (tm 12)),
 co 80 (.indexAddr 22 (tm 78) (tm 79)),
 co 81 (.fieldAddr 31 (tm 80) 4),
 co 82 (.load 29 (tm 81)),
 co 83 (.move (tm 7)),
 co 84 (.nilCheck (tm 83)),
 co 85 (.fieldAddr 87 (tm 84) 1),
 co 86 (.load 23 (tm 85)),
 co 87 (.move (tm 12)),
 co 88 (.indexAddr 23 (tm 86) (tm 87)),
 co 89 (.load 3 (tm 88)),
 co 90 (.indexAddr 29 (tm 82) (tm 89)),
 co 91 (.load 56 (tm 90)),
 co 13 (.alloc 56),
 coz (.store 56 (tm 13) (tm 91))]
def r16_22 : List Co := [
 co 92 (.move (tm 7)),
 co 93 (.nilCheck (tm 92)),
 co 94 (.fieldAddr 87 (tm 93) 3),
 co 95 (.load 85 (tm 94)),
 co 96 (.move (tm 12)),
 co 97 (.indexAddr 85 (tm 95) (tm 96)),
 co 98 (.load 23 (tm 97)),
 co 99 (.fieldAddr 56 (tm 13) 1),
 co 100 (.load 3 (tm 99)),
 co 101 (.indexAddr 23 (tm 98) (tm 100)),
 co 102 (.load 3 (tm 101)),
 co 103 (.fieldAddr 56 (tm 13) 1),
 coz (.store 3 (tm 103) (tm 102))]
def r16_23 : List Co := [
 co 104 (.move (tm 7)),
 co 105 (.nilCheck (tm 104)),
 co 106 (.fieldAddr 87 (tm 105) 1),
 co 107 (.load 23 (tm 106)),
 co 108 (.move (tm 12)),
 co 109 (.indexAddr 23 (tm 107) (tm 108)),
 co 110 (.load 3 (tm 109)),
 co 111 (.binOp .add 3 (tm 110) (.const (.int .i64 1)) 3),
 co 112 (.indexAddr 23 (tm 107) (tm 108)),
 coz (.store 3 (tm 112) (tm 111))]
def r16_24 : List Co := [
 co 113 (.move (tm 7)),
 co 114 (.move (tm 7)),
 co 115 (.nilCheck (tm 114)),
 co 116 (.fieldAddr 87 (tm 115) 2),
 co 117 (.fieldAddr 31 (tm 116) 4),
 co 118 (.load 29 (tm 117)),
 co 119 (.load 56 (tm 13)),
 coi 120 (.buildSlice 29 1 #[(0, (tm 119))]),
 co 121 (.call ⟨.builtin .append, #[(tm 118), (tm 120)], #[29, 29]⟩),
 co 122 (.nilCheck (tm 113)),
 co 123 (.fieldAddr 87 (tm 122) 2),
 co 124 (.fieldAddr 31 (tm 123) 4),
 coz (.store 29 (tm 124) (tm 121))]
def r16_25 : List Co := [
 co 73 (.move (tm 7)),
 co 74 (.call ⟨.value (.func 56), #[(tm 73)], #[84]⟩),
 co 12 (.assign (tm 74))]
def l16_26 : Cc := (.seq (.seq (.reg r16_20) (.cond (tm 72) .skip (.exit 2))) (.seq (.block 3 (.seq (.reg r16_21) (.seq (.reg r16_22) (.seq (.reg r16_23) (.reg r16_24))))) (.reg r16_25)))
def r16_27 : List Co := [
 co 125 (.move (tm 7)),
 co 126 (.nilCheck (tm 125)),
 co 127 (.fieldAddr 87 (tm 126) 2),
 co 128 (.load 31 (tm 127)),
 co 129 (.call ⟨.value (.func 57), #[(tm 128)], #[31]⟩),
 co 14 (.assign (tm 129))]
def r16_28 : List Co := [
 co 130 (.move (tm 14)),
 co 131 (.binOp .neq 32 (tm 130) (.const (.int .i64 0)) 32)]
def r16_29 : List Co := [
 co 132 (.build 31 #[]),
 co 133 (.move (tm 14)),
 coz (.store 31 (tm 4) (tm 132)),
 co 5 (.assign (tm 133))]
def r16_30 : List Co := [
 co 134 (.move (tm 7)),
 co 135 (.nilCheck (tm 134)),
 co 136 (.fieldAddr 87 (tm 135) 2),
 co 137 (.load 31 (tm 136)),
 coz (.store 31 (tm 4) (tm 137)),
 co 5 (.assign (.const (.int .i64 0)))]
def c16 : Cc := (.seq (.reg r16_0) (.seq (.seq (.reg r16_1) (.seq (.reg r16_2) (.cond (tm 18) (.seq (.reg r16_3) .ret) .skip))) (.seq (.seq (.reg r16_4) (.cond (tm 25) (.seq (.reg r16_5) .ret) .skip)) (.seq (.seq (.reg r16_6) (.cond (tm 29) (.seq (.reg r16_7) .ret) .skip)) (.seq (.reg r16_8) (.seq (.seq (.reg r16_9) (.block 0 (.loop l16_17))) (.seq (.reg r16_18) (.seq (.seq (.reg r16_19) (.block 2 (.loop l16_26))) (.seq (.seq (.reg r16_27) (.seq (.reg r16_28) (.cond (tm 131) (.seq (.reg r16_29) .ret) .skip))) (.seq (.reg r16_30) .ret))))))))))
def r17_0 : List Co := [
 co 4 (.alloc 31),
 co 5 (.assign (.const (.int .i64 0)))]
def r17_1 : List Co := [
 co 21 (.move (tm 0)),
 co 22 (.call ⟨.value (.func 58), #[(tm 21)], #[22]⟩),
 co 6 (.assign (tm 22))]
def r17_2 : List Co := [
 co 23 (.move (tm 6)),
 co 24 (.binOp .neq 32 (tm 23) (.const (.int .i64 0)) 32)]
def r17_3 : List Co := [
 co 25 (.build 31 #[]),
 co 26 (.move (tm 6)),
 coz (.store 31 (tm 4) (tm 25)),
 co 5 (.assign (tm 26))]
def r17_4 : List Co := [
 co 27 (.move (tm 0)),
 co 28 (.call ⟨.builtin .len, #[(tm 27)], #[22]⟩),
 co 29 (.move (tm 1)),
 co 30 (.call ⟨.builtin .len, #[(tm 29)], #[23]⟩),
 co 31 (.binOp .neq 3 (tm 28) (tm 30) 3)]
def r17_5 : List Co := [
 co 32 (.build 31 #[]),
 coz (.store 31 (tm 4) (tm 32)),
 co 5 (.assign (.const (.int .i64 10)))]
def r17_6 : List Co := [
 co 33 (.move (tm 0)),
 co 34 (.call ⟨.builtin .len, #[(tm 33)], #[22]⟩),
 co 35 (.binOp .eql 3 (tm 34) (.const (.int .i64 0)) 3)]
def r17_7 : List Co := [
 co 36 (.build 31 #[]),
 coz (.store 31 (tm 4) (tm 36)),
 co 5 (.assign (.const (.int .i64 1)))]
def r17_8 : List Co := [
 co 37 (.build 31 #[]),
 co 7 (.alloc 31),
 coz (.store 31 (tm 7) (tm 37))]
def r17_9 : List Co := [
 co 8 (.assign (.const (.slice none 0 0)))]
def r17_10 : List Co := [
 co 9 (.assign (.const (.int .i64 0)))]
def r17_11 : List Co := [
 co 38 (.move (tm 9)),
 co 39 (.move (tm 0)),
 co 40 (.call ⟨.builtin .len, #[(tm 39)], #[22]⟩),
 co 41 (.binOp .lss 3 (tm 38) (tm 40) 3)]
def r17_12 : List Co := [
 co 44 (.fieldAddr 31 (tm 7) 0),
 co 45 (.load 9 (tm 44)),
 co 46 (.binOp .eql 9 (tm 45) (.const (.string ⟨#[]⟩)) 9)]
def r17_13 : List Co := [
 co 47 (.move (tm 0)),
 co 48 (.move (tm 9)),
 co 49 (.indexAddr 22 (tm 47) (tm 48)),
 co 50 (.fieldAddr 31 (tm 49) 0),
 co 51 (.load 9 (tm 50)),
 co 52 (.fieldAddr 31 (tm 7) 0),
 coz (.store 9 (tm 52) (tm 51))]
def r17_14 : List Co := [
 coi 10 (.assign (.const (.slice none 0 0)))]
def r17_15 : List Co := [
 co 11 (.assign (.const (.int .i64 0)))]
def r17_16 : List Co := [
 co 53 (.move (tm 11)),
 co 54 (.move (tm 0)),
 co 55 (.move (tm 9)),
 co 56 (.indexAddr 22 (tm 54) (tm 55)),
 co 57 (.fieldAddr 31 (tm 56) 1),
 co 58 (.load 26 (tm 57)),
 co 59 (.call ⟨.builtin .len, #[(tm 58)], #[26]⟩),
 co 60 (.binOp .lss 3 (tm 53) (tm 59) 3)]
def r17_17 : List Co := [
 co 12 (.assign (.const (.int .i64 0)))]
def r17_18 : List Co := [
 co 64 (.fieldAddr 31 (tm 7) 1),
 co 65 (.load 26 (tm 64)),
 co 66 (.move (tm 0)),
 co 67 (.move (tm 9)),
 co 68 (.indexAddr 22 (tm 66) (tm 67)),
 co 69 (.fieldAddr 31 (tm 68) 1),
 co 70 (.load 26 (tm 69)),
 co 71 (.move (tm 11)),
 co 72 (.indexAddr 26 (tm 70) (tm 71)),
 co 73 (.load 82 (tm 72)),
 co 74 (.call ⟨.value (.func 59), #[(tm 65), (tm 73)], #[26, 82]⟩),
 co 63 (.move (tm 74)),
 co 75 (.extract (tm 63) 0),
 co 76 (.extract (tm 63) 1),
 co 77 (.fieldAddr 31 (tm 7) 1),
 coz (.store 26 (tm 77) (tm 75)),
 co 12 (.assign (tm 76))]
def r17_19 : List Co := [
 co 78 (.move (tm 10)),
 co 79 (.move (tm 12)),
 coi 80 (.buildSlice 23 1 #[(0, (tm 79))]),
 co 81 (.call ⟨.builtin .append, #[(tm 78), (tm 80)], #[23, 23]⟩),
 co 10 (.assign (tm 81))]
def r17_20 : List Co := [
 co 61 (.move (tm 11)),
 co 62 (.binOp .add 3 (tm 61) (.const (.int .i64 1)) 3),
 co 11 (.assign (tm 62))]
def l17_21 : Cc := (.seq (.seq (.reg r17_16) (.cond (tm 60) .skip (.exit 2))) (.seq (.block 3 (.seq (.reg r17_17) (.seq (.reg r17_18) (.reg r17_19)))) (.reg r17_20)))
def r17_22 : List Co := [
 co 82 (.fieldAddr 31 (tm 7) 2),
 co 83 (.load 27 (tm 82)),
 co 84 (.move (tm 0)),
 co 85 (.move (tm 9)),
 co 86 (.indexAddr 22 (tm 84) (tm 85)),
 co 87 (.fieldAddr 31 (tm 86) 2),
 co 88 (.load 27 (tm 87)),
 co 89 (.call ⟨.value (.func 60), #[(tm 83), (tm 88)], #[27, 27]⟩),
 co 90 (.fieldAddr 31 (tm 7) 2),
 coz (.store 27 (tm 90) (tm 89))]
def r17_23 : List Co := [
 co 91 (.fieldAddr 31 (tm 7) 3),
 co 92 (.load 28 (tm 91)),
 co 93 (.move (tm 0)),
 co 94 (.move (tm 9)),
 co 95 (.indexAddr 22 (tm 93) (tm 94)),
 co 96 (.fieldAddr 31 (tm 95) 3),
 co 97 (.load 28 (tm 96)),
 co 98 (.call ⟨.value (.func 61), #[(tm 92), (tm 97)], #[28, 28]⟩),
 co 99 (.fieldAddr 31 (tm 7) 3),
 coz (.store 28 (tm 99) (tm 98))]
def r17_24 : List Co := [
 coi 13 (.assign (.const (.slice none 0 0)))]
def r17_25 : List Co := [
 co 14 (.assign (.const (.int .i64 0)))]
def r17_26 : List Co := [
 co 100 (.move (tm 14)),
 co 101 (.move (tm 0)),
 co 102 (.move (tm 9)),
 co 103 (.indexAddr 22 (tm 101) (tm 102)),
 co 104 (.fieldAddr 31 (tm 103) 4),
 co 105 (.load 29 (tm 104)),
 co 106 (.call ⟨.builtin .len, #[(tm 105)], #[29]⟩),
 co 107 (.binOp .lss 3 (tm 100) (tm 106) 3)]
def r17_27 : List Co := [
 co 110 (.move (tm 0)),
 co 111 (.move (tm 9)),
 co 112 (.indexAddr 22 (tm 110) (tm 111)),
 co 113 (.fieldAddr 31 (tm 112) 4),
 co 114 (.load 29 (tm 113)),
 co 115 (.move (tm 14)),
 co 116 (.indexAddr 29 (tm 114) (tm 115)),
 co 117 (.load 56 (tm 116)),
 co 15 (.alloc 56),
 coz (.store 56 (tm 15) (tm 117))]
def r17_28 : List Co := [
 co 119 (.fieldAddr 56 (tm 15) 0),
 co 120 (.load 3 (tm 119)),
 co 121 (.move (tm 1)),
 co 122 (.move (tm 9)),
 co 123 (.indexAddr 23 (tm 121) (tm 122)),
 co 124 (.load 3 (tm 123)),
 co 125 (.call ⟨.value (.func 62), #[(tm 120), (tm 124)], #[3, 3]⟩),
 co 118 (.move (tm 125)),
 co 126 (.extract (tm 118) 0),
 co 127 (.extract (tm 118) 1),
 co 16 (.assign (tm 126)),
 co 17 (.assign (tm 127))]
def r17_29 : List Co := [
 co 128 (.move (tm 17)),
 co 129 (.unOp .not 4 (tm 128))]
def r17_30 : List Co := [
 co 130 (.build 31 #[]),
 coz (.store 31 (tm 4) (tm 130)),
 co 5 (.assign (.const (.int .i64 1)))]
def r17_31 : List Co := [
 co 131 (.move (tm 16)),
 co 132 (.move (tm 10)),
 co 133 (.fieldAddr 56 (tm 15) 1),
 co 134 (.load 3 (tm 133)),
 co 135 (.indexAddr 23 (tm 132) (tm 134)),
 co 136 (.load 3 (tm 135)),
 co 137 (.fieldAddr 56 (tm 15) 0),
 ⟨none, .store 3 (tm 137) (tm 131), false, none, false, false, [(none, .load 3 (tm 135))]⟩,
 co 138 (.fieldAddr 56 (tm 15) 1),
 coz (.store 3 (tm 138) (tm 136))]
def r17_32 : List Co := [
 co 139 (.move (tm 13)),
 co 140 (.load 56 (tm 15)),
 coi 141 (.buildSlice 29 1 #[(0, (tm 140))]),
 co 142 (.call ⟨.builtin .append, #[(tm 139), (tm 141)], #[29, 29]⟩),
 co 13 (.assign (tm 142))]
def r17_33 : List Co := [
 co 108 (.move (tm 14)),
 co 109 (.binOp .add 3 (tm 108) (.const (.int .i64 1)) 3),
 co 14 (.assign (tm 109))]
def l17_34 : Cc := (.seq (.seq (.reg r17_26) (.cond (tm 107) .skip (.exit 4))) (.seq (.block 5 (.seq (.reg r17_27) (.seq (.reg r17_28) (.seq (.seq (.reg r17_29) (.cond (tm 129) (.seq (.reg r17_30) .ret) .skip)) (.seq (.reg r17_31) (.reg r17_32)))))) (.reg r17_33)))
def r17_35 : List Co := [
 co 143 (.move (tm 8)),
 co 144 (.move (tm 13)),
 coi 145 (.buildSlice 68 1 #[(0, (tm 144))]),
 co 146 (.call ⟨.builtin .append, #[(tm 143), (tm 145)], #[68, 68]⟩),
 co 8 (.assign (tm 146))]
def r17_36 : List Co := [
 co 42 (.move (tm 9)),
 co 43 (.binOp .add 3 (tm 42) (.const (.int .i64 1)) 3),
 co 9 (.assign (tm 43))]
def l17_37 : Cc := (.seq (.seq (.reg r17_11) (.cond (tm 41) .skip (.exit 0))) (.seq (.block 1 (.seq (.seq (.reg r17_12) (.cond (tm 46) (.reg r17_13) .skip)) (.seq (.reg r17_14) (.seq (.seq (.reg r17_15) (.block 2 (.loop l17_21))) (.seq (.reg r17_22) (.seq (.reg r17_23) (.seq (.reg r17_24) (.seq (.seq (.reg r17_25) (.block 4 (.loop l17_34))) (.reg r17_35))))))))) (.reg r17_36)))
def r17_38 : List Co := [
 co 18 (.assign (.const (.int .i64 (-1))))]
def r17_39 : List Co := [
 co 19 (.assign (.const (.int .i64 0)))]
def r17_40 : List Co := [
 co 147 (.move (tm 19)),
 co 148 (.move (tm 8)),
 co 149 (.call ⟨.builtin .len, #[(tm 148)], #[68]⟩),
 co 150 (.binOp .lss 3 (tm 147) (tm 149) 3)]
def r17_41 : List Co := [
 co 153 (.move (tm 8)),
 co 154 (.move (tm 19)),
 co 155 (.indexAddr 68 (tm 153) (tm 154)),
 co 156 (.load 29 (tm 155)),
 co 157 (.call ⟨.builtin .len, #[(tm 156)], #[29]⟩),
 co 158 (.binOp .gtr 3 (tm 157) (.const (.int .i64 0)) 3),
 co 159 (.move (tm 158)),
 cog 160 (.move (tm 18)) 159 true,
 cog 161 (.binOp .lss 3 (tm 160) (.const (.int .i64 0)) 3) 159 true,
 cog 162 (.move (tm 161)) 159 true,
 cog 163 (.move (tm 8)) 162 false,
 cog 164 (.move (tm 19)) 162 false,
 cog 165 (.indexAddr 68 (tm 163) (tm 164)) 162 false,
 cog 166 (.load 29 (tm 165)) 162 false,
 cog 167 (.indexAddr 29 (tm 166) (.const (.int .i64 0))) 162 false,
 cog 168 (.fieldAddr 56 (tm 167) 0) 162 false,
 cog 169 (.load 3 (tm 168)) 162 false,
 cog 170 (.move (tm 8)) 162 false,
 cog 171 (.move (tm 18)) 162 false,
 cog 172 (.indexAddr 68 (tm 170) (tm 171)) 162 false,
 cog 173 (.load 29 (tm 172)) 162 false,
 cog 174 (.indexAddr 29 (tm 173) (.const (.int .i64 0))) 162 false,
 cog 175 (.fieldAddr 56 (tm 174) 0) 162 false,
 cog 176 (.load 3 (tm 175)) 162 false,
 cog 177 (.binOp .lss 3 (tm 169) (tm 176) 3) 162 false,
 cog 178 (.pick (tm 162) (.const (.bool true)) (tm 177)) 159 true,
 co 179 (.pick (tm 159) (tm 178) (.const (.bool false)))]
def r17_42 : List Co := [
 co 180 (.move (tm 19)),
 co 18 (.assign (tm 180))]
def r17_43 : List Co := [
 co 151 (.move (tm 19)),
 co 152 (.binOp .add 3 (tm 151) (.const (.int .i64 1)) 3),
 co 19 (.assign (tm 152))]
def l17_44 : Cc := (.seq (.seq (.reg r17_40) (.cond (tm 150) .skip (.exit 8))) (.seq (.block 9 (.seq (.reg r17_41) (.cond (tm 179) (.reg r17_42) .skip))) (.reg r17_43)))
def r17_45 : List Co := [
 co 181 (.move (tm 18)),
 co 182 (.binOp .lss 3 (tm 181) (.const (.int .i64 0)) 3)]
def r17_46 : List Co := [
 co 183 (.fieldAddr 31 (tm 7) 4),
 co 184 (.load 29 (tm 183)),
 co 185 (.move (tm 8)),
 co 186 (.move (tm 18)),
 co 187 (.indexAddr 68 (tm 185) (tm 186)),
 co 188 (.load 29 (tm 187)),
 co 189 (.indexAddr 29 (tm 188) (.const (.int .i64 0))),
 co 190 (.load 56 (tm 189)),
 coi 191 (.buildSlice 29 1 #[(0, (tm 190))]),
 co 192 (.call ⟨.builtin .append, #[(tm 184), (tm 191)], #[29, 29]⟩),
 co 193 (.fieldAddr 31 (tm 7) 4),
 coz (.store 29 (tm 193) (tm 192))]
def r17_47 : List Co := [
 co 194 (.move (tm 8)),
 co 195 (.move (tm 18)),
 co 196 (.move (tm 8)),
 co 197 (.move (tm 18)),
 co 198 (.indexAddr 68 (tm 196) (tm 197)),
 co 199 (.load 29 (tm 198)),
 co 200 (.slice 29 (tm 199) (some (.const (.int .i64 1))) none none),
 co 201 (.indexAddr 68 (tm 194) (tm 195)),
 coz (.store 29 (tm 201) (tm 200))]
def l17_48 : Cc := (.block 7 (.seq (.reg r17_38) (.seq (.seq (.reg r17_39) (.block 8 (.loop l17_44))) (.seq (.seq (.reg r17_45) (.cond (tm 182) (.exit 6) .skip)) (.seq (.reg r17_46) (.reg r17_47))))))
def r17_49 : List Co := [
 co 202 (.load 31 (tm 7)),
 co 203 (.call ⟨.value (.func 63), #[(tm 202)], #[31]⟩),
 co 20 (.assign (tm 203))]
def r17_50 : List Co := [
 co 204 (.move (tm 20)),
 co 205 (.binOp .neq 32 (tm 204) (.const (.int .i64 0)) 32)]
def r17_51 : List Co := [
 co 206 (.build 31 #[]),
 co 207 (.move (tm 20)),
 coz (.store 31 (tm 4) (tm 206)),
 co 5 (.assign (tm 207))]
def r17_52 : List Co := [
 co 208 (.load 31 (tm 7)),
 coz (.store 31 (tm 4) (tm 208)),
 co 5 (.assign (.const (.int .i64 0)))]
def c17 : Cc := (.seq (.reg r17_0) (.seq (.seq (.reg r17_1) (.seq (.reg r17_2) (.cond (tm 24) (.seq (.reg r17_3) .ret) .skip))) (.seq (.seq (.reg r17_4) (.cond (tm 31) (.seq (.reg r17_5) .ret) .skip)) (.seq (.seq (.reg r17_6) (.cond (tm 35) (.seq (.reg r17_7) .ret) .skip)) (.seq (.reg r17_8) (.seq (.reg r17_9) (.seq (.seq (.reg r17_10) (.block 0 (.loop l17_37))) (.seq (.block 6 (.loop l17_48)) (.seq (.seq (.reg r17_49) (.seq (.reg r17_50) (.cond (tm 205) (.seq (.reg r17_51) .ret) .skip))) (.seq (.reg r17_52) .ret))))))))))
def r18_0 : List Co := [
 co 2 (.box 31 (tm 0)),
 coi 3 (.box 31 (tm 1)),
 co 4 (.assign (.const (.bool false)))]
def r18_1 : List Co := [
 co 9 (.fieldAddr 31 (tm 2) 0),
 co 10 (.load 9 (tm 9)),
 co 11 (.fieldAddr 31 (tm 3) 0),
 co 12 (.load 9 (tm 11)),
 co 13 (.binOp .neq 9 (tm 10) (tm 12) 9),
 co 14 (.move (tm 13)),
 cog 15 (.fieldAddr 31 (tm 2) 1) 14 false,
 cog 16 (.load 26 (tm 15)) 14 false,
 cog 17 (.call ⟨.builtin .len, #[(tm 16)], #[26]⟩) 14 false,
 cog 18 (.fieldAddr 31 (tm 3) 1) 14 false,
 cog 19 (.load 26 (tm 18)) 14 false,
 cog 20 (.call ⟨.builtin .len, #[(tm 19)], #[26]⟩) 14 false,
 cog 21 (.binOp .neq 3 (tm 17) (tm 20) 3) 14 false,
 co 22 (.pick (tm 14) (.const (.bool true)) (tm 21)),
 co 23 (.move (tm 22)),
 cog 24 (.fieldAddr 31 (tm 2) 2) 23 false,
 cog 25 (.load 27 (tm 24)) 23 false,
 cog 26 (.call ⟨.builtin .len, #[(tm 25)], #[27]⟩) 23 false,
 cog 27 (.fieldAddr 31 (tm 3) 2) 23 false,
 cog 28 (.load 27 (tm 27)) 23 false,
 cog 29 (.call ⟨.builtin .len, #[(tm 28)], #[27]⟩) 23 false,
 cog 30 (.binOp .neq 3 (tm 26) (tm 29) 3) 23 false,
 co 31 (.pick (tm 23) (.const (.bool true)) (tm 30)),
 co 32 (.move (tm 31)),
 cog 33 (.fieldAddr 31 (tm 2) 3) 32 false,
 cog 34 (.load 28 (tm 33)) 32 false,
 cog 35 (.call ⟨.builtin .len, #[(tm 34)], #[28]⟩) 32 false,
 cog 36 (.fieldAddr 31 (tm 3) 3) 32 false,
 cog 37 (.load 28 (tm 36)) 32 false,
 cog 38 (.call ⟨.builtin .len, #[(tm 37)], #[28]⟩) 32 false,
 cog 39 (.binOp .neq 3 (tm 35) (tm 38) 3) 32 false,
 co 40 (.pick (tm 32) (.const (.bool true)) (tm 39)),
 co 41 (.move (tm 40)),
 cog 42 (.fieldAddr 31 (tm 2) 4) 41 false,
 cog 43 (.load 29 (tm 42)) 41 false,
 cog 44 (.call ⟨.builtin .len, #[(tm 43)], #[29]⟩) 41 false,
 cog 45 (.fieldAddr 31 (tm 3) 4) 41 false,
 cog 46 (.load 29 (tm 45)) 41 false,
 cog 47 (.call ⟨.builtin .len, #[(tm 46)], #[29]⟩) 41 false,
 cog 48 (.binOp .neq 3 (tm 44) (tm 47) 3) 41 false,
 co 49 (.pick (tm 41) (.const (.bool true)) (tm 48))]
def r18_2 : List Co := [
 co 4 (.assign (.const (.bool false)))]
def r18_3 : List Co := [
 co 5 (.assign (.const (.int .i64 0)))]
def r18_4 : List Co := [
 co 50 (.move (tm 5)),
 co 51 (.fieldAddr 31 (tm 2) 1),
 co 52 (.load 26 (tm 51)),
 co 53 (.call ⟨.builtin .len, #[(tm 52)], #[26]⟩),
 co 54 (.binOp .lss 3 (tm 50) (tm 53) 3)]
def r18_5 : List Co := [
 co 57 (.fieldAddr 31 (tm 2) 1),
 co 58 (.load 26 (tm 57)),
 co 59 (.move (tm 5)),
 co 60 (.indexAddr 26 (tm 58) (tm 59)),
 co 61 (.load 82 (tm 60)),
 co 62 (.fieldAddr 31 (tm 3) 1),
 co 63 (.load 26 (tm 62)),
 co 64 (.move (tm 5)),
 co 65 (.indexAddr 26 (tm 63) (tm 64)),
 co 66 (.load 82 (tm 65)),
 co 67 (.binOp .neq 82 (tm 61) (tm 66) 82)]
def r18_6 : List Co := [
 co 4 (.assign (.const (.bool false)))]
def r18_7 : List Co := [
 co 55 (.move (tm 5)),
 co 56 (.binOp .add 3 (tm 55) (.const (.int .i64 1)) 3),
 co 5 (.assign (tm 56))]
def l18_8 : Cc := (.seq (.seq (.reg r18_4) (.cond (tm 54) .skip (.exit 0))) (.seq (.block 1 (.seq (.reg r18_5) (.cond (tm 67) (.seq (.reg r18_6) .ret) .skip))) (.reg r18_7)))
def r18_9 : List Co := [
 co 6 (.assign (.const (.int .i64 0)))]
def r18_10 : List Co := [
 co 68 (.move (tm 6)),
 co 69 (.fieldAddr 31 (tm 2) 2),
 co 70 (.load 27 (tm 69)),
 co 71 (.call ⟨.builtin .len, #[(tm 70)], #[27]⟩),
 co 72 (.binOp .lss 3 (tm 68) (tm 71) 3)]
def r18_11 : List Co := [
 co 75 (.fieldAddr 31 (tm 2) 2),
 co 76 (.load 27 (tm 75)),
 co 77 (.move (tm 6)),
 co 78 (.indexAddr 27 (tm 76) (tm 77)),
 co 79 (.fieldAddr 97 (tm 78) 1),
 co 80 (.load 9 (tm 79)),
 co 81 (.fieldAddr 31 (tm 3) 2),
 co 82 (.load 27 (tm 81)),
 co 83 (.move (tm 6)),
 co 84 (.indexAddr 27 (tm 82) (tm 83)),
 co 85 (.fieldAddr 97 (tm 84) 1),
 co 86 (.load 9 (tm 85)),
 co 87 (.binOp .neq 9 (tm 80) (tm 86) 9),
 co 88 (.move (tm 87)),
 cog 89 (.fieldAddr 31 (tm 2) 2) 88 false,
 cog 90 (.load 27 (tm 89)) 88 false,
 cog 91 (.move (tm 6)) 88 false,
 cog 92 (.indexAddr 27 (tm 90) (tm 91)) 88 false,
 cog 93 (.fieldAddr 97 (tm 92) 0) 88 false,
 cog 94 (.load 37 (tm 93)) 88 false,
 cog 95 (.fieldAddr 31 (tm 3) 2) 88 false,
 cog 96 (.load 27 (tm 95)) 88 false,
 cog 97 (.move (tm 6)) 88 false,
 cog 98 (.indexAddr 27 (tm 96) (tm 97)) 88 false,
 cog 99 (.fieldAddr 97 (tm 98) 0) 88 false,
 cog 100 (.load 37 (tm 99)) 88 false,
 cog 101 (.call ⟨.value (.func 64), #[(tm 94), (tm 100)], #[37, 37]⟩) 88 false,
 cog 102 (.unOp .not 4 (tm 101)) 88 false,
 co 103 (.pick (tm 88) (.const (.bool true)) (tm 102))]
def r18_12 : List Co := [
 co 4 (.assign (.const (.bool false)))]
def r18_13 : List Co := [
 co 73 (.move (tm 6)),
 co 74 (.binOp .add 3 (tm 73) (.const (.int .i64 1)) 3),
 co 6 (.assign (tm 74))]
def l18_14 : Cc := (.seq (.seq (.reg r18_10) (.cond (tm 72) .skip (.exit 2))) (.seq (.block 3 (.seq (.reg r18_11) (.cond (tm 103) (.seq (.reg r18_12) .ret) .skip))) (.reg r18_13)))
def r18_15 : List Co := [
 co 7 (.assign (.const (.int .i64 0)))]
def r18_16 : List Co := [
 co 104 (.move (tm 7)),
 co 105 (.fieldAddr 31 (tm 2) 3),
 co 106 (.load 28 (tm 105)),
 co 107 (.call ⟨.builtin .len, #[(tm 106)], #[28]⟩),
 co 108 (.binOp .lss 3 (tm 104) (tm 107) 3)]
def r18_17 : List Co := [
 co 111 (.fieldAddr 31 (tm 2) 3),
 co 112 (.load 28 (tm 111)),
 co 113 (.move (tm 7)),
 co 114 (.indexAddr 28 (tm 112) (tm 113)),
 co 115 (.fieldAddr 100 (tm 114) 0),
 co 116 (.load 9 (tm 115)),
 co 117 (.fieldAddr 31 (tm 3) 3),
 co 118 (.load 28 (tm 117)),
 co 119 (.move (tm 7)),
 co 120 (.indexAddr 28 (tm 118) (tm 119)),
 co 121 (.fieldAddr 100 (tm 120) 0),
 co 122 (.load 9 (tm 121)),
 co 123 (.binOp .neq 9 (tm 116) (tm 122) 9),
 co 124 (.move (tm 123)),
 cog 125 (.fieldAddr 31 (tm 2) 3) 124 false,
 cog 126 (.load 28 (tm 125)) 124 false,
 cog 127 (.move (tm 7)) 124 false,
 cog 128 (.indexAddr 28 (tm 126) (tm 127)) 124 false,
 cog 129 (.fieldAddr 100 (tm 128) 1) 124 false,
 cog 130 (.load 37 (tm 129)) 124 false,
 cog 131 (.fieldAddr 31 (tm 3) 3) 124 false,
 cog 132 (.load 28 (tm 131)) 124 false,
 cog 133 (.move (tm 7)) 124 false,
 cog 134 (.indexAddr 28 (tm 132) (tm 133)) 124 false,
 cog 135 (.fieldAddr 100 (tm 134) 1) 124 false,
 cog 136 (.load 37 (tm 135)) 124 false,
 cog 137 (.call ⟨.value (.func 64), #[(tm 130), (tm 136)], #[37, 37]⟩) 124 false,
 cog 138 (.unOp .not 4 (tm 137)) 124 false,
 co 139 (.pick (tm 124) (.const (.bool true)) (tm 138))]
def r18_18 : List Co := [
 co 4 (.assign (.const (.bool false)))]
def r18_19 : List Co := [
 co 109 (.move (tm 7)),
 co 110 (.binOp .add 3 (tm 109) (.const (.int .i64 1)) 3),
 co 7 (.assign (tm 110))]
def l18_20 : Cc := (.seq (.seq (.reg r18_16) (.cond (tm 108) .skip (.exit 4))) (.seq (.block 5 (.seq (.reg r18_17) (.cond (tm 139) (.seq (.reg r18_18) .ret) .skip))) (.reg r18_19)))
def r18_21 : List Co := [
 co 8 (.assign (.const (.int .i64 0)))]
def r18_22 : List Co := [
 co 140 (.move (tm 8)),
 co 141 (.fieldAddr 31 (tm 2) 4),
 co 142 (.load 29 (tm 141)),
 co 143 (.call ⟨.builtin .len, #[(tm 142)], #[29]⟩),
 co 144 (.binOp .lss 3 (tm 140) (tm 143) 3)]
def r18_23 : List Co := [
 co 147 (.fieldAddr 31 (tm 2) 4),
 co 148 (.load 29 (tm 147)),
 co 149 (.move (tm 8)),
 co 150 (.indexAddr 29 (tm 148) (tm 149)),
 co 151 (.load 56 (tm 150)),
 co 152 (.fieldAddr 31 (tm 3) 4),
 co 153 (.load 29 (tm 152)),
 co 154 (.move (tm 8)),
 co 155 (.indexAddr 29 (tm 153) (tm 154)),
 co 156 (.load 56 (tm 155)),
 co 157 (.call ⟨.value (.func 65), #[(tm 151), (tm 156)], #[56, 56]⟩),
 co 158 (.unOp .not 4 (tm 157))]
def r18_24 : List Co := [
 co 4 (.assign (.const (.bool false)))]
def r18_25 : List Co := [
 co 145 (.move (tm 8)),
 co 146 (.binOp .add 3 (tm 145) (.const (.int .i64 1)) 3),
 co 8 (.assign (tm 146))]
def l18_26 : Cc := (.seq (.seq (.reg r18_22) (.cond (tm 144) .skip (.exit 6))) (.seq (.block 7 (.seq (.reg r18_23) (.cond (tm 158) (.seq (.reg r18_24) .ret) .skip))) (.reg r18_25)))
def r18_27 : List Co := [
 co 4 (.assign (.const (.bool true)))]
def c18 : Cc := (.seq (.reg r18_0) (.seq (.seq (.reg r18_1) (.cond (tm 49) (.seq (.reg r18_2) .ret) .skip)) (.seq (.seq (.reg r18_3) (.block 0 (.loop l18_8))) (.seq (.seq (.reg r18_9) (.block 2 (.loop l18_14))) (.seq (.seq (.reg r18_15) (.block 4 (.loop l18_20))) (.seq (.seq (.reg r18_21) (.block 6 (.loop l18_26))) (.seq (.reg r18_27) .ret)))))))
def r21_0 : List Co := [
 co 1 (.box 31 (tm 0)),
 co 2 (.assign (.const (.int .i64 0)))]
def r21_1 : List Co := [
 co 8 (.fieldAddr 31 (tm 1) 0),
 co 9 (.load 9 (tm 8)),
 co 10 (.call ⟨.builtin .len, #[(tm 9)], #[9]⟩),
 co 11 (.fieldAddr 31 (tm 1) 1),
 co 12 (.load 26 (tm 11)),
 co 13 (.call ⟨.builtin .len, #[(tm 12)], #[26]⟩),
 co 14 (.fieldAddr 31 (tm 1) 2),
 co 15 (.load 27 (tm 14)),
 co 16 (.call ⟨.builtin .len, #[(tm 15)], #[27]⟩),
 co 17 (.binOp .add 3 (tm 13) (tm 16) 3),
 co 18 (.fieldAddr 31 (tm 1) 3),
 co 19 (.load 28 (tm 18)),
 co 20 (.call ⟨.builtin .len, #[(tm 19)], #[28]⟩),
 co 21 (.binOp .add 3 (tm 17) (tm 20) 3),
 co 22 (.fieldAddr 31 (tm 1) 4),
 co 23 (.load 29 (tm 22)),
 co 24 (.call ⟨.builtin .len, #[(tm 23)], #[29]⟩),
 co 25 (.binOp .add 3 (tm 21) (tm 24) 3),
 co 26 (.binOp .mul 3 (.const (.int .i64 8)) (tm 25) 3),
 co 27 (.binOp .add 3 (tm 10) (tm 26) 3),
 co 3 (.assign (tm 27))]
def r21_2 : List Co := [
 co 4 (.assign (.const (.int .i64 0)))]
def r21_3 : List Co := [
 co 28 (.move (tm 4)),
 co 29 (.fieldAddr 31 (tm 1) 1),
 co 30 (.load 26 (tm 29)),
 co 31 (.call ⟨.builtin .len, #[(tm 30)], #[26]⟩),
 co 32 (.binOp .lss 3 (tm 28) (tm 31) 3)]
def r21_4 : List Co := [
 co 35 (.move (tm 3)),
 co 36 (.fieldAddr 31 (tm 1) 1),
 co 37 (.load 26 (tm 36)),
 co 38 (.move (tm 4)),
 co 39 (.indexAddr 26 (tm 37) (tm 38)),
 co 40 (.fieldAddr 82 (tm 39) 0),
 co 41 (.load 9 (tm 40)),
 co 42 (.call ⟨.builtin .len, #[(tm 41)], #[9]⟩),
 co 43 (.binOp .add 3 (tm 35) (tm 42) 3),
 co 3 (.assign (tm 43))]
def r21_5 : List Co := [
 co 33 (.move (tm 4)),
 co 34 (.binOp .add 3 (tm 33) (.const (.int .i64 1)) 3),
 co 4 (.assign (tm 34))]
def l21_6 : Cc := (.seq (.seq (.reg r21_3) (.cond (tm 32) .skip (.exit 0))) (.seq (.block 1 (.reg r21_4)) (.reg r21_5)))
def r21_7 : List Co := [
 co 5 (.assign (.const (.int .i64 0)))]
def r21_8 : List Co := [
 co 44 (.move (tm 5)),
 co 45 (.fieldAddr 31 (tm 1) 2),
 co 46 (.load 27 (tm 45)),
 co 47 (.call ⟨.builtin .len, #[(tm 46)], #[27]⟩),
 co 48 (.binOp .lss 3 (tm 44) (tm 47) 3)]
def r21_9 : List Co := [
 co 51 (.move (tm 3)),
 co 52 (.fieldAddr 31 (tm 1) 2),
 co 53 (.load 27 (tm 52)),
 co 54 (.move (tm 5)),
 co 55 (.indexAddr 27 (tm 53) (tm 54)),
 co 56 (.fieldAddr 97 (tm 55) 0),
 co 57 (.load 37 (tm 56)),
 co 58 (.call ⟨.builtin .len, #[(tm 57)], #[37]⟩),
 co 59 (.fieldAddr 31 (tm 1) 2),
 co 60 (.load 27 (tm 59)),
 co 61 (.move (tm 5)),
 co 62 (.indexAddr 27 (tm 60) (tm 61)),
 co 63 (.fieldAddr 97 (tm 62) 1),
 co 64 (.load 9 (tm 63)),
 co 65 (.call ⟨.builtin .len, #[(tm 64)], #[9]⟩),
 co 66 (.binOp .add 3 (tm 58) (tm 65) 3),
 co 67 (.binOp .add 3 (tm 51) (tm 66) 3),
 co 3 (.assign (tm 67))]
def r21_10 : List Co := [
 co 49 (.move (tm 5)),
 co 50 (.binOp .add 3 (tm 49) (.const (.int .i64 1)) 3),
 co 5 (.assign (tm 50))]
def l21_11 : Cc := (.seq (.seq (.reg r21_8) (.cond (tm 48) .skip (.exit 2))) (.seq (.block 3 (.reg r21_9)) (.reg r21_10)))
def r21_12 : List Co := [
 co 6 (.assign (.const (.int .i64 0)))]
def r21_13 : List Co := [
 co 68 (.move (tm 6)),
 co 69 (.fieldAddr 31 (tm 1) 3),
 co 70 (.load 28 (tm 69)),
 co 71 (.call ⟨.builtin .len, #[(tm 70)], #[28]⟩),
 co 72 (.binOp .lss 3 (tm 68) (tm 71) 3)]
def r21_14 : List Co := [
 co 75 (.move (tm 3)),
 co 76 (.fieldAddr 31 (tm 1) 3),
 co 77 (.load 28 (tm 76)),
 co 78 (.move (tm 6)),
 co 79 (.indexAddr 28 (tm 77) (tm 78)),
 co 80 (.fieldAddr 100 (tm 79) 0),
 co 81 (.load 9 (tm 80)),
 co 82 (.call ⟨.builtin .len, #[(tm 81)], #[9]⟩),
 co 83 (.fieldAddr 31 (tm 1) 3),
 co 84 (.load 28 (tm 83)),
 co 85 (.move (tm 6)),
 co 86 (.indexAddr 28 (tm 84) (tm 85)),
 co 87 (.fieldAddr 100 (tm 86) 1),
 co 88 (.load 37 (tm 87)),
 co 89 (.call ⟨.builtin .len, #[(tm 88)], #[37]⟩),
 co 90 (.binOp .add 3 (tm 82) (tm 89) 3),
 co 91 (.binOp .add 3 (tm 75) (tm 90) 3),
 co 3 (.assign (tm 91))]
def r21_15 : List Co := [
 co 73 (.move (tm 6)),
 co 74 (.binOp .add 3 (tm 73) (.const (.int .i64 1)) 3),
 co 6 (.assign (tm 74))]
def l21_16 : Cc := (.seq (.seq (.reg r21_13) (.cond (tm 72) .skip (.exit 4))) (.seq (.block 5 (.reg r21_14)) (.reg r21_15)))
def r21_17 : List Co := [
 co 7 (.assign (.const (.int .i64 0)))]
def r21_18 : List Co := [
 co 92 (.move (tm 7)),
 co 93 (.fieldAddr 31 (tm 1) 4),
 co 94 (.load 29 (tm 93)),
 co 95 (.call ⟨.builtin .len, #[(tm 94)], #[29]⟩),
 co 96 (.binOp .lss 3 (tm 92) (tm 95) 3)]
def r21_19 : List Co := [
 co 99 (.move (tm 3)),
 co 100 (.fieldAddr 31 (tm 1) 4),
 co 101 (.load 29 (tm 100)),
 co 102 (.move (tm 7)),
 co 103 (.indexAddr 29 (tm 101) (tm 102)),
 co 104 (.fieldAddr 56 (tm 103) 3),
 co 105 (.load 37 (tm 104)),
 co 106 (.call ⟨.builtin .len, #[(tm 105)], #[37]⟩),
 co 107 (.fieldAddr 31 (tm 1) 4),
 co 108 (.load 29 (tm 107)),
 co 109 (.move (tm 7)),
 co 110 (.indexAddr 29 (tm 108) (tm 109)),
 co 111 (.fieldAddr 56 (tm 110) 4),
 co 112 (.load 9 (tm 111)),
 co 113 (.call ⟨.builtin .len, #[(tm 112)], #[9]⟩),
 co 114 (.binOp .add 3 (tm 106) (tm 113) 3),
 co 115 (.binOp .add 3 (tm 99) (tm 114) 3),
 co 3 (.assign (tm 115))]
def r21_20 : List Co := [
 co 97 (.move (tm 7)),
 co 98 (.binOp .add 3 (tm 97) (.const (.int .i64 1)) 3),
 co 7 (.assign (tm 98))]
def l21_21 : Cc := (.seq (.seq (.reg r21_18) (.cond (tm 96) .skip (.exit 6))) (.seq (.block 7 (.reg r21_19)) (.reg r21_20)))
def r21_22 : List Co := [
 co 116 (.move (tm 3)),
 co 2 (.assign (tm 116))]
def c21 : Cc := (.seq (.reg r21_0) (.seq (.reg r21_1) (.seq (.seq (.reg r21_2) (.block 0 (.loop l21_6))) (.seq (.seq (.reg r21_7) (.block 2 (.loop l21_11))) (.seq (.seq (.reg r21_12) (.block 4 (.loop l21_16))) (.seq (.seq (.reg r21_17) (.block 6 (.loop l21_21))) (.seq (.reg r21_22) .ret)))))))
def r46_0 : List Co := [
 co 2 (.box 31 (tm 0)),
 coi 3 (.box 3 (tm 1)),
 co 4 (.alloc 31),
 co 5 (.assign (.const (.int .i64 0)))]
def r46_1 : List Co := [
 co 6 (.load 31 (tm 2)),
 co 7 (.makeFunc (.func 92) #[] #[(tm 3)]),
 co 8 (.call ⟨.value (.func 91), #[(tm 6), (tm 7)], #[31, 136]⟩),
 co 9 (.extract (tm 8) 0),
 co 10 (.extract (tm 8) 1),
 coz (.store 31 (tm 4) (tm 9)),
 co 5 (.assign (tm 10))]
def c46 : Cc := (.seq (.reg r46_0) (.seq (.reg r46_1) .ret))
def r54_0 : List Co := [
 co 2 (.assign (.const (.int .i64 0)))]
def r54_1 : List Co := [
 co 6 (.move (tm 0)),
 co 7 (.call ⟨.builtin .len, #[(tm 6)], #[22]⟩),
 co 8 (.move (.const (.int .i64 0)))]
def r54_2 : List Co := [
 co 9 (.binOp .lss 3 (tm 8) (tm 7) 3)]
def r54_3 : List Co := [
 co 10 (.indexAddr 22 (tm 6) (tm 8)),
 co 11 (.load 31 (tm 10)),
 co 4 (.alloc 31),
 coz (.store 31 (tm 4) (tm 11))]
def r54_4 : List Co := [
 co 12 (.load 31 (tm 4)),
 co 13 (.call ⟨.value (.func 57), #[(tm 12)], #[31]⟩),
 co 5 (.assign (tm 13))]
def r54_5 : List Co := [
 co 14 (.move (tm 5)),
 co 15 (.binOp .neq 32 (tm 14) (.const (.int .i64 0)) 32)]
def r54_6 : List Co := [
 co 16 (.move (tm 5)),
 co 2 (.assign (tm 16))]
def r54_7 : List Co := [
 co 17 (.binOp .add 3 (tm 8) (.const (.int .i64 1)) 3),
 co 8 (.move (tm 17))]
def l54_8 : Cc := (.seq (.reg r54_2) (.seq (.cond (tm 9) .skip (.exit 0)) (.seq (.block 1 (.seq (.reg r54_3) (.seq (.reg r54_4) (.seq (.reg r54_5) (.cond (tm 15) (.seq (.reg r54_6) .ret) .skip))))) (.reg r54_7))))
def r54_9 : List Co := [
 co 2 (.assign (.const (.int .i64 0)))]
def c54 : Cc := (.seq (.reg r54_0) (.seq (.seq (.reg r54_1) (.block 0 (.loop l54_8))) (.seq (.reg r54_9) .ret)))
def r55_0 : List Co := [
 co 12 (.move (tm 0)),
 co 13 (.nilCheck (tm 12)),
 co 14 (.fieldAddr 87 (tm 13) 0),
 co 15 (.load 22 (tm 14)),
 co 16 (.call ⟨.builtin .len, #[(tm 15)], #[22]⟩),
 co 17 (.move (.const (.int .i64 0)))]
def r55_1 : List Co := [
 co 18 (.binOp .lss 3 (tm 17) (tm 16) 3)]
def r55_2 : List Co := [
 co 19 (.indexAddr 22 (tm 15) (tm 17)),
 co 20 (.load 31 (tm 19)),
 co 3 (.alloc 31),
 coz (.store 31 (tm 3) (tm 20))]
def r55_3 : List Co := [
 co 21 (.move (tm 0)),
 co 22 (.nilCheck (tm 21)),
 co 23 (.fieldAddr 87 (tm 22) 2),
 co 24 (.fieldAddr 31 (tm 23) 0),
 co 25 (.load 9 (tm 24)),
 co 26 (.binOp .eql 9 (tm 25) (.const (.string ⟨#[]⟩)) 9)]
def r55_4 : List Co := [
 co 27 (.move (tm 0)),
 co 28 (.fieldAddr 31 (tm 3) 0),
 co 29 (.load 9 (tm 28)),
 co 30 (.nilCheck (tm 27)),
 co 31 (.fieldAddr 87 (tm 30) 2),
 co 32 (.fieldAddr 31 (tm 31) 0),
 coz (.store 9 (tm 32) (tm 29))]
def r55_5 : List Co := [
 coi 4 (.assign (.const (.slice none 0 0)))]
def r55_6 : List Co := [
 co 33 (.fieldAddr 31 (tm 3) 1),
 co 34 (.load 26 (tm 33)),
 co 35 (.call ⟨.builtin .len, #[(tm 34)], #[26]⟩),
 co 36 (.move (.const (.int .i64 0)))]
def r55_7 : List Co := [
 co 37 (.binOp .lss 3 (tm 36) (tm 35) 3)]
def r55_8 : List Co := [
 co 38 (.indexAddr 26 (tm 34) (tm 36)),
 co 39 (.load 82 (tm 38)),
 co 6 (.alloc 82),
 coz (.store 82 (tm 6) (tm 39))]
def r55_9 : List Co := [
 co 7 (.assign (.const (.int .i64 0)))]
def r55_10 : List Co := [
 co 41 (.move (tm 0)),
 co 42 (.move (tm 0)),
 co 43 (.nilCheck (tm 42)),
 co 44 (.fieldAddr 87 (tm 43) 2),
 co 45 (.fieldAddr 31 (tm 44) 1),
 co 46 (.load 26 (tm 45)),
 co 47 (.load 82 (tm 6)),
 co 48 (.call ⟨.value (.func 100), #[(tm 46), (tm 47), (.func 101)], #[26, 82, 144]⟩),
 co 40 (.move (tm 48)),
 co 49 (.extract (tm 40) 0),
 co 50 (.extract (tm 40) 1),
 co 51 (.nilCheck (tm 41)),
 co 52 (.fieldAddr 87 (tm 51) 2),
 co 53 (.fieldAddr 31 (tm 52) 1),
 coz (.store 26 (tm 53) (tm 49)),
 co 7 (.assign (tm 50))]
def r55_11 : List Co := [
 co 54 (.move (tm 4)),
 co 55 (.move (tm 7)),
 coi 56 (.buildSlice 23 1 #[(0, (tm 55))]),
 co 57 (.call ⟨.builtin .append, #[(tm 54), (tm 56)], #[23, 23]⟩),
 co 4 (.assign (tm 57))]
def r55_12 : List Co := [
 co 58 (.binOp .add 3 (tm 36) (.const (.int .i64 1)) 3),
 co 36 (.move (tm 58))]
def l55_13 : Cc := (.seq (.reg r55_7) (.seq (.cond (tm 37) .skip (.exit 2)) (.seq (.block 3 (.seq (.reg r55_8) (.seq (.reg r55_9) (.seq (.reg r55_10) (.reg r55_11))))) (.reg r55_12))))
def r55_14 : List Co := [
 co 59 (.move (tm 0)),
 co 60 (.move (tm 0)),
 co 61 (.nilCheck (tm 60)),
 co 62 (.fieldAddr 87 (tm 61) 3),
 co 63 (.load 85 (tm 62)),
 co 64 (.move (tm 4)),
 coi 65 (.buildSlice 85 1 #[(0, (tm 64))]),
 co 66 (.call ⟨.builtin .append, #[(tm 63), (tm 65)], #[85, 85]⟩),
 co 67 (.nilCheck (tm 59)),
 co 68 (.fieldAddr 87 (tm 67) 3),
 coz (.store 85 (tm 68) (tm 66))]
def r55_15 : List Co := [
 co 69 (.fieldAddr 31 (tm 3) 2),
 co 70 (.load 27 (tm 69)),
 co 71 (.call ⟨.builtin .len, #[(tm 70)], #[27]⟩),
 co 72 (.move (.const (.int .i64 0)))]
def r55_16 : List Co := [
 co 73 (.binOp .lss 3 (tm 72) (tm 71) 3)]
def r55_17 : List Co := [
 co 74 (.indexAddr 27 (tm 70) (tm 72)),
 co 75 (.load 97 (tm 74)),
 co 9 (.alloc 97),
 coz (.store 97 (tm 9) (tm 75))]
def r55_18 : List Co := [
 co 77 (.move (tm 0)),
 co 78 (.move (tm 0)),
 co 79 (.nilCheck (tm 78)),
 co 80 (.fieldAddr 87 (tm 79) 2),
 co 81 (.fieldAddr 31 (tm 80) 2),
 co 82 (.load 27 (tm 81)),
 co 83 (.load 97 (tm 9)),
 co 84 (.call ⟨.value (.func 102), #[(tm 82), (tm 83), (.func 103)], #[27, 97, 147]⟩),
 co 76 (.move (tm 84)),
 co 85 (.extract (tm 76) 0),
 co 86 (.extract (tm 76) 1),
 co 87 (.nilCheck (tm 77)),
 co 88 (.fieldAddr 87 (tm 87) 2),
 co 89 (.fieldAddr 31 (tm 88) 2),
 coz (.store 27 (tm 89) (tm 85))]
def r55_19 : List Co := [
 co 90 (.binOp .add 3 (tm 72) (.const (.int .i64 1)) 3),
 co 72 (.move (tm 90))]
def l55_20 : Cc := (.seq (.reg r55_16) (.seq (.cond (tm 73) .skip (.exit 4)) (.seq (.block 5 (.seq (.reg r55_17) (.reg r55_18))) (.reg r55_19))))
def r55_21 : List Co := [
 co 91 (.fieldAddr 31 (tm 3) 3),
 co 92 (.load 28 (tm 91)),
 co 93 (.call ⟨.builtin .len, #[(tm 92)], #[28]⟩),
 co 94 (.move (.const (.int .i64 0)))]
def r55_22 : List Co := [
 co 95 (.binOp .lss 3 (tm 94) (tm 93) 3)]
def r55_23 : List Co := [
 co 96 (.indexAddr 28 (tm 92) (tm 94)),
 co 97 (.load 100 (tm 96)),
 co 11 (.alloc 100),
 coz (.store 100 (tm 11) (tm 97))]
def r55_24 : List Co := [
 co 99 (.move (tm 0)),
 co 100 (.move (tm 0)),
 co 101 (.nilCheck (tm 100)),
 co 102 (.fieldAddr 87 (tm 101) 2),
 co 103 (.fieldAddr 31 (tm 102) 3),
 co 104 (.load 28 (tm 103)),
 co 105 (.load 100 (tm 11)),
 co 106 (.call ⟨.value (.func 104), #[(tm 104), (tm 105), (.func 105)], #[28, 100, 150]⟩),
 co 98 (.move (tm 106)),
 co 107 (.extract (tm 98) 0),
 co 108 (.extract (tm 98) 1),
 co 109 (.nilCheck (tm 99)),
 co 110 (.fieldAddr 87 (tm 109) 2),
 co 111 (.fieldAddr 31 (tm 110) 3),
 coz (.store 28 (tm 111) (tm 107))]
def r55_25 : List Co := [
 co 112 (.binOp .add 3 (tm 94) (.const (.int .i64 1)) 3),
 co 94 (.move (tm 112))]
def l55_26 : Cc := (.seq (.reg r55_22) (.seq (.cond (tm 95) .skip (.exit 6)) (.seq (.block 7 (.seq (.reg r55_23) (.reg r55_24))) (.reg r55_25))))
def r55_27 : List Co := [
 co 113 (.binOp .add 3 (tm 17) (.const (.int .i64 1)) 3),
 co 17 (.move (tm 113))]
def l55_28 : Cc := (.seq (.reg r55_1) (.seq (.cond (tm 18) .skip (.exit 0)) (.seq (.block 1 (.seq (.reg r55_2) (.seq (.seq (.reg r55_3) (.cond (tm 26) (.reg r55_4) .skip)) (.seq (.reg r55_5) (.seq (.seq (.reg r55_6) (.block 2 (.loop l55_13))) (.seq (.reg r55_14) (.seq (.seq (.reg r55_15) (.block 4 (.loop l55_20))) (.seq (.reg r55_21) (.block 6 (.loop l55_26)))))))))) (.reg r55_27))))
def c55 : Cc := (.seq (.reg r55_0) (.block 0 (.loop l55_28)))
def r56_0 : List Co := [
 co 2 (.assign (.const (.int .i64 0)))]
def r56_1 : List Co := [
 co 3 (.assign (.const (.int .i64 (-1))))]
def r56_2 : List Co := [
 co 6 (.move (tm 0)),
 co 7 (.nilCheck (tm 6)),
 co 8 (.fieldAddr 87 (tm 7) 0),
 co 9 (.load 22 (tm 8)),
 co 10 (.call ⟨.builtin .len, #[(tm 9)], #[22]⟩),
 co 11 (.move (.const (.int .i64 0)))]
def r56_3 : List Co := [
 co 12 (.binOp .lss 3 (tm 11) (tm 10) 3)]
def r56_4 : List Co := [
 co 13 (.move (tm 11)),
 co 14 (.indexAddr 22 (tm 9) (tm 11)),
 co 15 (.load 31 (tm 14)),
 co 5 (.alloc 31),
 co 4 (.assign (tm 13)),
 coz (.store 31 (tm 5) (tm 15))]
def r56_5 : List Co := [
 co 16 (.move (tm 0)),
 co 17 (.nilCheck (tm 16)),
 co 18 (.fieldAddr 87 (tm 17) 1),
 co 19 (.load 23 (tm 18)),
 co 20 (.move (tm 4)),
 co 21 (.indexAddr 23 (tm 19) (tm 20)),
 co 22 (.load 3 (tm 21)),
 co 23 (.fieldAddr 31 (tm 5) 4),
 co 24 (.load 29 (tm 23)),
 co 25 (.call ⟨.builtin .len, #[(tm 24)], #[29]⟩),
 co 26 (.binOp .lss 3 (tm 22) (tm 25) 3),
 co 27 (.move (tm 26)),
 cog 28 (.move (tm 3)) 27 true,
 cog 29 (.binOp .lss 3 (tm 28) (.const (.int .i64 0)) 3) 27 true,
 cog 30 (.move (tm 29)) 27 true,
 cog 31 (.fieldAddr 31 (tm 5) 4) 30 false,
 cog 32 (.load 29 (tm 31)) 30 false,
 cog 33 (.move (tm 0)) 30 false,
 cog 34 (.nilCheck (tm 33)) 30 false,
 cog 35 (.fieldAddr 87 (tm 34) 1) 30 false,
 cog 36 (.load 23 (tm 35)) 30 false,
 cog 37 (.move (tm 4)) 30 false,
 cog 38 (.indexAddr 23 (tm 36) (tm 37)) 30 false,
 cog 39 (.load 3 (tm 38)) 30 false,
 cog 40 (.indexAddr 29 (tm 32) (tm 39)) 30 false,
 cog 41 (.fieldAddr 56 (tm 40) 0) 30 false,
 cog 42 (.load 3 (tm 41)) 30 false,
 cog 43 (.move (tm 0)) 30 false,
 cog 44 (.nilCheck (tm 43)) 30 false,
 cog 45 (.fieldAddr 87 (tm 44) 0) 30 false,
 cog 46 (.load 22 (tm 45)) 30 false,
 cog 47 (.move (tm 3)) 30 false,
 cog 48 (.indexAddr 22 (tm 46) (tm 47)) 30 false,
 cog 49 (.fieldAddr 31 (tm 48) 4) 30 false,
 cog 50 (.load 29 (tm 49)) 30 false,
 cog 51 (.move (tm 0)) 30 false,
 cog 52 (.nilCheck (tm 51)) 30 false,
 cog 53 (.fieldAddr 87 (tm 52) 1) 30 false,
 cog 54 (.load 23 (tm 53)) 30 false,
 cog 55 (.move (tm 3)) 30 false,
 cog 56 (.indexAddr 23 (tm 54) (tm 55)) 30 false,
 cog 57 (.load 3 (tm 56)) 30 false,
 cog 58 (.indexAddr 29 (tm 50) (tm 57)) 30 false,
 cog 59 (.fieldAddr 56 (tm 58) 0) 30 false,
 cog 60 (.load 3 (tm 59)) 30 false,
 cog 61 (.binOp .lss 3 (tm 42) (tm 60) 3) 30 false,
 cog 62 (.pick (tm 30) (.const (.bool true)) (tm 61)) 27 true,
 co 63 (.pick (tm 27) (tm 62) (.const (.bool false)))]
def r56_6 : List Co := [
 co 64 (.move (tm 4)),
 co 3 (.assign (tm 64))]
def r56_7 : List Co := [
 co 65 (.binOp .add 3 (tm 11) (.const (.int .i64 1)) 3),
 co 11 (.move (tm 65))]
def l56_8 : Cc := (.seq (.reg r56_3) (.seq (.cond (tm 12) .skip (.exit 0)) (.seq (.block 1 (.seq (.reg r56_4) (.seq (.reg r56_5) (.cond (tm 63) (.reg r56_6) .skip)))) (.reg r56_7))))
def r56_9 : List Co := [
 co 66 (.move (tm 3)),
 co 2 (.assign (tm 66))]
def c56 : Cc := (.seq (.reg r56_0) (.seq (.reg r56_1) (.seq (.seq (.reg r56_2) (.block 0 (.loop l56_8))) (.seq (.reg r56_9) .ret))))
def r57_0 : List Co := [
 co 1 (.box 31 (tm 0)),
 co 2 (.assign (.const (.int .i64 0)))]
def r57_1 : List Co := [
 co 12 (.fieldAddr 31 (tm 1) 1),
 co 13 (.load 26 (tm 12)),
 co 14 (.call ⟨.builtin .len, #[(tm 13)], #[26]⟩),
 co 15 (.binOp .gtr 3 (tm 14) (.const (.int .i64 4)) 3),
 co 16 (.move (tm 15)),
 cog 17 (.fieldAddr 31 (tm 1) 2) 16 false,
 cog 18 (.load 27 (tm 17)) 16 false,
 cog 19 (.call ⟨.builtin .len, #[(tm 18)], #[27]⟩) 16 false,
 cog 20 (.binOp .gtr 3 (tm 19) (.const (.int .i64 60)) 3) 16 false,
 co 21 (.pick (tm 16) (.const (.bool true)) (tm 20)),
 co 22 (.move (tm 21)),
 cog 23 (.fieldAddr 31 (tm 1) 3) 22 false,
 cog 24 (.load 28 (tm 23)) 22 false,
 cog 25 (.call ⟨.builtin .len, #[(tm 24)], #[28]⟩) 22 false,
 cog 26 (.binOp .gtr 3 (tm 25) (.const (.int .i64 60)) 3) 22 false,
 co 27 (.pick (tm 22) (.const (.bool true)) (tm 26)),
 co 28 (.move (tm 27)),
 cog 29 (.fieldAddr 31 (tm 1) 4) 28 false,
 cog 30 (.load 29 (tm 29)) 28 false,
 cog 31 (.call ⟨.builtin .len, #[(tm 30)], #[29]⟩) 28 false,
 cog 32 (.binOp .gtr 3 (tm 31) (.const (.int .i64 100)) 3) 28 false,
 co 33 (.pick (tm 28) (.const (.bool true)) (tm 32))]
def r57_2 : List Co := [
 co 2 (.assign (.const (.int .i64 3)))]
def r57_3 : List Co := [
 co 34 (.fieldAddr 31 (tm 1) 1),
 co 35 (.load 26 (tm 34)),
 co 36 (.call ⟨.builtin .len, #[(tm 35)], #[26]⟩),
 co 37 (.binOp .eql 3 (tm 36) (.const (.int .i64 0)) 3),
 co 38 (.move (tm 37)),
 cog 39 (.fieldAddr 31 (tm 1) 0) 38 false,
 cog 40 (.load 9 (tm 39)) 38 false,
 cog 41 (.call ⟨.value (.func 106), #[(tm 40)], #[9]⟩) 38 false,
 cog 42 (.unOp .not 4 (tm 41)) 38 false,
 co 43 (.pick (tm 38) (.const (.bool true)) (tm 42)),
 co 3 (.assign (tm 43))]
def r57_4 : List Co := [
 co 44 (.fieldAddr 31 (tm 1) 1),
 co 45 (.load 26 (tm 44)),
 co 46 (.call ⟨.builtin .len, #[(tm 45)], #[26]⟩),
 co 47 (.move (.const (.int .i64 0)))]
def r57_5 : List Co := [
 co 48 (.binOp .lss 3 (tm 47) (tm 46) 3)]
def r57_6 : List Co := [
 co 49 (.indexAddr 26 (tm 45) (tm 47)),
 co 50 (.load 82 (tm 49)),
 co 5 (.alloc 82),
 coz (.store 82 (tm 5) (tm 50))]
def r57_7 : List Co := [
 co 51 (.move (tm 3)),
 co 52 (.move (tm 51)),
 cog 53 (.load 82 (tm 5)) 52 false,
 cog 54 (.call ⟨.value (.func 107), #[(tm 53)], #[82]⟩) 52 false,
 cog 55 (.unOp .not 4 (tm 54)) 52 false,
 co 56 (.pick (tm 52) (.const (.bool true)) (tm 55)),
 co 3 (.assign (tm 56))]
def r57_8 : List Co := [
 co 57 (.binOp .add 3 (tm 47) (.const (.int .i64 1)) 3),
 co 47 (.move (tm 57))]
def l57_9 : Cc := (.seq (.reg r57_5) (.seq (.cond (tm 48) .skip (.exit 0)) (.seq (.block 1 (.seq (.reg r57_6) (.reg r57_7))) (.reg r57_8))))
def r57_10 : List Co := [
 co 58 (.fieldAddr 31 (tm 1) 2),
 co 59 (.load 27 (tm 58)),
 co 60 (.call ⟨.builtin .len, #[(tm 59)], #[27]⟩),
 co 61 (.move (.const (.int .i64 0)))]
def r57_11 : List Co := [
 co 62 (.binOp .lss 3 (tm 61) (tm 60) 3)]
def r57_12 : List Co := [
 co 63 (.indexAddr 27 (tm 59) (tm 61)),
 co 64 (.load 97 (tm 63)),
 co 7 (.alloc 97),
 coz (.store 97 (tm 7) (tm 64))]
def r57_13 : List Co := [
 co 65 (.move (tm 3)),
 co 66 (.move (tm 65)),
 cog 67 (.load 97 (tm 7)) 66 false,
 cog 68 (.call ⟨.value (.func 108), #[(tm 67)], #[97]⟩) 66 false,
 cog 69 (.unOp .not 4 (tm 68)) 66 false,
 co 70 (.pick (tm 66) (.const (.bool true)) (tm 69)),
 co 3 (.assign (tm 70))]
def r57_14 : List Co := [
 co 71 (.binOp .add 3 (tm 61) (.const (.int .i64 1)) 3),
 co 61 (.move (tm 71))]
def l57_15 : Cc := (.seq (.reg r57_11) (.seq (.cond (tm 62) .skip (.exit 2)) (.seq (.block 3 (.seq (.reg r57_12) (.reg r57_13))) (.reg r57_14))))
def r57_16 : List Co := [
 co 72 (.fieldAddr 31 (tm 1) 3),
 co 73 (.load 28 (tm 72)),
 co 74 (.call ⟨.builtin .len, #[(tm 73)], #[28]⟩),
 co 75 (.move (.const (.int .i64 0)))]
def r57_17 : List Co := [
 co 76 (.binOp .lss 3 (tm 75) (tm 74) 3)]
def r57_18 : List Co := [
 co 77 (.indexAddr 28 (tm 73) (tm 75)),
 co 78 (.load 100 (tm 77)),
 co 9 (.alloc 100),
 coz (.store 100 (tm 9) (tm 78))]
def r57_19 : List Co := [
 co 79 (.move (tm 3)),
 co 80 (.move (tm 79)),
 cog 81 (.load 100 (tm 9)) 80 false,
 cog 82 (.call ⟨.value (.func 109), #[(tm 81)], #[100]⟩) 80 false,
 cog 83 (.unOp .not 4 (tm 82)) 80 false,
 co 84 (.pick (tm 80) (.const (.bool true)) (tm 83)),
 co 3 (.assign (tm 84))]
def r57_20 : List Co := [
 co 85 (.binOp .add 3 (tm 75) (.const (.int .i64 1)) 3),
 co 75 (.move (tm 85))]
def l57_21 : Cc := (.seq (.reg r57_17) (.seq (.cond (tm 76) .skip (.exit 4)) (.seq (.block 5 (.seq (.reg r57_18) (.reg r57_19))) (.reg r57_20))))
def r57_22 : List Co := [
 co 86 (.fieldAddr 31 (tm 1) 4),
 co 87 (.load 29 (tm 86)),
 co 88 (.call ⟨.builtin .len, #[(tm 87)], #[29]⟩),
 co 89 (.move (.const (.int .i64 0)))]
def r57_23 : List Co := [
 co 90 (.binOp .lss 3 (tm 89) (tm 88) 3)]
def r57_24 : List Co := [
 co 91 (.indexAddr 29 (tm 87) (tm 89)),
 co 92 (.load 56 (tm 91)),
 co 11 (.alloc 56),
 coz (.store 56 (tm 11) (tm 92))]
def r57_25 : List Co := [
 co 93 (.move (tm 3)),
 co 94 (.move (tm 93)),
 cog 95 (.load 56 (tm 11)) 94 false,
 cog 96 (.fieldAddr 31 (tm 1) 1) 94 false,
 cog 97 (.load 26 (tm 96)) 94 false,
 cog 98 (.call ⟨.value (.func 110), #[(tm 95), (tm 97)], #[56, 26]⟩) 94 false,
 cog 99 (.unOp .not 4 (tm 98)) 94 false,
 co 100 (.pick (tm 94) (.const (.bool true)) (tm 99)),
 co 3 (.assign (tm 100))]
def r57_26 : List Co := [
 co 101 (.binOp .add 3 (tm 89) (.const (.int .i64 1)) 3),
 co 89 (.move (tm 101))]
def l57_27 : Cc := (.seq (.reg r57_23) (.seq (.cond (tm 90) .skip (.exit 6)) (.seq (.block 7 (.seq (.reg r57_24) (.reg r57_25))) (.reg r57_26))))
def r57_28 : List Co := [
 co 102 (.move (tm 3))]
def r57_29 : List Co := [
 co 2 (.assign (.const (.int .i64 1)))]
def r57_30 : List Co := [
 co 2 (.assign (.const (.int .i64 0)))]
def c57 : Cc := (.seq (.reg r57_0) (.seq (.seq (.reg r57_1) (.cond (tm 33) (.seq (.reg r57_2) .ret) .skip)) (.seq (.reg r57_3) (.seq (.seq (.reg r57_4) (.block 0 (.loop l57_9))) (.seq (.seq (.reg r57_10) (.block 2 (.loop l57_15))) (.seq (.seq (.reg r57_16) (.block 4 (.loop l57_21))) (.seq (.seq (.reg r57_22) (.block 6 (.loop l57_27))) (.seq (.seq (.reg r57_28) (.cond (tm 102) (.seq (.reg r57_29) .ret) .skip)) (.seq (.reg r57_30) .ret)))))))))
def r58_0 : List Co := [
 co 2 (.assign (.const (.int .i64 0)))]
def r58_1 : List Co := [
 co 3 (.assign (.const (.int .i64 0)))]
def r58_2 : List Co := [
 co 5 (.move (tm 3)),
 co 6 (.move (tm 0)),
 co 7 (.call ⟨.builtin .len, #[(tm 6)], #[22]⟩),
 co 8 (.binOp .lss 3 (tm 5) (tm 7) 3)]
def r58_3 : List Co := [
 co 11 (.move (tm 0)),
 co 12 (.move (tm 3)),
 co 13 (.indexAddr 22 (tm 11) (tm 12)),
 co 14 (.load 31 (tm 13)),
 co 15 (.call ⟨.value (.func 63), #[(tm 14)], #[31]⟩),
 co 4 (.assign (tm 15))]
def r58_4 : List Co := [
 co 16 (.move (tm 4)),
 co 17 (.binOp .neq 32 (tm 16) (.const (.int .i64 0)) 32)]
def r58_5 : List Co := [
 co 18 (.move (tm 4)),
 co 2 (.assign (tm 18))]
def r58_6 : List Co := [
 co 9 (.move (tm 3)),
 co 10 (.binOp .add 3 (tm 9) (.const (.int .i64 1)) 3),
 co 3 (.assign (tm 10))]
def l58_7 : Cc := (.seq (.seq (.reg r58_2) (.cond (tm 8) .skip (.exit 0))) (.seq (.block 1 (.seq (.reg r58_3) (.seq (.reg r58_4) (.cond (tm 17) (.seq (.reg r58_5) .ret) .skip)))) (.reg r58_6)))
def r58_8 : List Co := [
 co 2 (.assign (.const (.int .i64 0)))]
def c58 : Cc := (.seq (.reg r58_0) (.seq (.seq (.reg r58_1) (.block 0 (.loop l58_7))) (.seq (.reg r58_8) .ret)))
def r59_0 : List Co := [
 coi 3 (.box 82 (tm 1)),
 co 4 (.assign (.const (.slice none 0 0))),
 co 5 (.assign (.const (.int .i64 0)))]
def r59_1 : List Co := [
 co 6 (.assign (.const (.int .i64 0)))]
def r59_2 : List Co := [
 co 7 (.move (tm 6)),
 co 8 (.move (tm 0)),
 co 9 (.call ⟨.builtin .len, #[(tm 8)], #[26]⟩),
 co 10 (.binOp .lss 3 (tm 7) (tm 9) 3)]
def r59_3 : List Co := [
 co 13 (.move (tm 0)),
 co 14 (.move (tm 6)),
 co 15 (.indexAddr 26 (tm 13) (tm 14)),
 co 16 (.load 82 (tm 15)),
 co 17 (.load 82 (tm 3)),
 co 18 (.binOp .eql 82 (tm 16) (tm 17) 82)]
def r59_4 : List Co := [
 co 19 (.move (tm 0)),
 co 20 (.move (tm 6)),
 co 4 (.assign (tm 19)),
 co 5 (.assign (tm 20))]
def r59_5 : List Co := [
 co 11 (.move (tm 6)),
 co 12 (.binOp .add 3 (tm 11) (.const (.int .i64 1)) 3),
 co 6 (.assign (tm 12))]
def l59_6 : Cc := (.seq (.seq (.reg r59_2) (.cond (tm 10) .skip (.exit 0))) (.seq (.block 1 (.seq (.reg r59_3) (.cond (tm 18) (.seq (.reg r59_4) .ret) .skip))) (.reg r59_5)))
def r59_7 : List Co := [
 co 21 (.move (tm 0)),
 co 22 (.load 82 (tm 3)),
 coi 23 (.buildSlice 26 1 #[(0, (tm 22))]),
 co 24 (.call ⟨.builtin .append, #[(tm 21), (tm 23)], #[26, 26]⟩),
 co 25 (.move (tm 0)),
 co 26 (.call ⟨.builtin .len, #[(tm 25)], #[26]⟩),
 co 4 (.assign (tm 24)),
 co 5 (.assign (tm 26))]
def c59 : Cc := (.seq (.reg r59_0) (.seq (.seq (.reg r59_1) (.block 0 (.loop l59_6))) (.seq (.reg r59_7) .ret)))
def r60_0 : List Co := [
 co 4 (.assign (.const (.slice none 0 0)))]
def r60_1 : List Co := [
 co 5 (.assign (.const (.int .i64 0)))]
def r60_2 : List Co := [
 co 8 (.move (tm 5)),
 co 9 (.move (tm 1)),
 co 10 (.call ⟨.builtin .len, #[(tm 9)], #[27]⟩),
 co 11 (.binOp .lss 3 (tm 8) (tm 10) 3)]
def r60_3 : List Co := [
 co 6 (.assign (.const (.bool false)))]
def r60_4 : List Co := [
 co 7 (.assign (.const (.int .i64 0)))]
def r60_5 : List Co := [
 co 14 (.move (tm 7)),
 co 15 (.move (tm 0)),
 co 16 (.call ⟨.builtin .len, #[(tm 15)], #[27]⟩),
 co 17 (.binOp .lss 3 (tm 14) (tm 16) 3)]
def r60_6 : List Co := [
 co 20 (.move (tm 6)),
 co 21 (.move (tm 20)),
 cog 22 (.move (tm 0)) 21 false,
 cog 23 (.move (tm 7)) 21 false,
 cog 24 (.indexAddr 27 (tm 22) (tm 23)) 21 false,
 cog 25 (.load 97 (tm 24)) 21 false,
 cog 26 (.move (tm 1)) 21 false,
 cog 27 (.move (tm 5)) 21 false,
 cog 28 (.indexAddr 27 (tm 26) (tm 27)) 21 false,
 cog 29 (.load 97 (tm 28)) 21 false,
 cog 30 (.call ⟨.value (.func 111), #[(tm 25), (tm 29)], #[97, 97]⟩) 21 false,
 co 31 (.pick (tm 21) (.const (.bool true)) (tm 30)),
 co 6 (.assign (tm 31))]
def r60_7 : List Co := [
 co 18 (.move (tm 7)),
 co 19 (.binOp .add 3 (tm 18) (.const (.int .i64 1)) 3),
 co 7 (.assign (tm 19))]
def l60_8 : Cc := (.seq (.seq (.reg r60_5) (.cond (tm 17) .skip (.exit 2))) (.seq (.block 3 (.reg r60_6)) (.reg r60_7)))
def r60_9 : List Co := [
 co 32 (.move (tm 6)),
 co 33 (.unOp .not 4 (tm 32))]
def r60_10 : List Co := [
 co 34 (.move (tm 0)),
 co 35 (.move (tm 1)),
 co 36 (.move (tm 5)),
 co 37 (.indexAddr 27 (tm 35) (tm 36)),
 co 38 (.load 97 (tm 37)),
 coi 39 (.buildSlice 27 1 #[(0, (tm 38))]),
 co 40 (.call ⟨.builtin .append, #[(tm 34), (tm 39)], #[27, 27]⟩),
 co 0 (.assign (tm 40))]
def r60_11 : List Co := [
 co 12 (.move (tm 5)),
 co 13 (.binOp .add 3 (tm 12) (.const (.int .i64 1)) 3),
 co 5 (.assign (tm 13))]
def l60_12 : Cc := (.seq (.seq (.reg r60_2) (.cond (tm 11) .skip (.exit 0))) (.seq (.block 1 (.seq (.reg r60_3) (.seq (.seq (.reg r60_4) (.block 2 (.loop l60_8))) (.seq (.reg r60_9) (.cond (tm 33) (.reg r60_10) .skip))))) (.reg r60_11)))
def r60_13 : List Co := [
 co 41 (.move (tm 0)),
 co 4 (.assign (tm 41))]
def c60 : Cc := (.seq (.reg r60_0) (.seq (.seq (.reg r60_1) (.block 0 (.loop l60_12))) (.seq (.reg r60_13) .ret)))
def r61_0 : List Co := [
 co 4 (.assign (.const (.slice none 0 0)))]
def r61_1 : List Co := [
 co 5 (.assign (.const (.int .i64 0)))]
def r61_2 : List Co := [
 co 8 (.move (tm 5)),
 co 9 (.move (tm 1)),
 co 10 (.call ⟨.builtin .len, #[(tm 9)], #[28]⟩),
 co 11 (.binOp .lss 3 (tm 8) (tm 10) 3)]
def r61_3 : List Co := [
 co 6 (.assign (.const (.bool false)))]
def r61_4 : List Co := [
 co 7 (.assign (.const (.int .i64 0)))]
def r61_5 : List Co := [
 co 14 (.move (tm 7)),
 co 15 (.move (tm 0)),
 co 16 (.call ⟨.builtin .len, #[(tm 15)], #[28]⟩),
 co 17 (.binOp .lss 3 (tm 14) (tm 16) 3)]
def r61_6 : List Co := [
 co 20 (.move (tm 6)),
 co 21 (.move (tm 20)),
 cog 22 (.move (tm 0)) 21 false,
 cog 23 (.move (tm 7)) 21 false,
 cog 24 (.indexAddr 28 (tm 22) (tm 23)) 21 false,
 cog 25 (.load 100 (tm 24)) 21 false,
 cog 26 (.move (tm 1)) 21 false,
 cog 27 (.move (tm 5)) 21 false,
 cog 28 (.indexAddr 28 (tm 26) (tm 27)) 21 false,
 cog 29 (.load 100 (tm 28)) 21 false,
 cog 30 (.call ⟨.value (.func 112), #[(tm 25), (tm 29)], #[100, 100]⟩) 21 false,
 co 31 (.pick (tm 21) (.const (.bool true)) (tm 30)),
 co 6 (.assign (tm 31))]
def r61_7 : List Co := [
 co 18 (.move (tm 7)),
 co 19 (.binOp .add 3 (tm 18) (.const (.int .i64 1)) 3),
 co 7 (.assign (tm 19))]
def l61_8 : Cc := (.seq (.seq (.reg r61_5) (.cond (tm 17) .skip (.exit 2))) (.seq (.block 3 (.reg r61_6)) (.reg r61_7)))
def r61_9 : List Co := [
 co 32 (.move (tm 6)),
 co 33 (.unOp .not 4 (tm 32))]
def r61_10 : List Co := [
 co 34 (.move (tm 0)),
 co 35 (.move (tm 1)),
 co 36 (.move (tm 5)),
 co 37 (.indexAddr 28 (tm 35) (tm 36)),
 co 38 (.load 100 (tm 37)),
 coi 39 (.buildSlice 28 1 #[(0, (tm 38))]),
 co 40 (.call ⟨.builtin .append, #[(tm 34), (tm 39)], #[28, 28]⟩),
 co 0 (.assign (tm 40))]
def r61_11 : List Co := [
 co 12 (.move (tm 5)),
 co 13 (.binOp .add 3 (tm 12) (.const (.int .i64 1)) 3),
 co 5 (.assign (tm 13))]
def l61_12 : Cc := (.seq (.seq (.reg r61_2) (.cond (tm 11) .skip (.exit 0))) (.seq (.block 1 (.seq (.reg r61_3) (.seq (.seq (.reg r61_4) (.block 2 (.loop l61_8))) (.seq (.reg r61_9) (.cond (tm 33) (.reg r61_10) .skip))))) (.reg r61_11)))
def r61_13 : List Co := [
 co 41 (.move (tm 0)),
 co 4 (.assign (tm 41))]
def c61 : Cc := (.seq (.reg r61_0) (.seq (.seq (.reg r61_1) (.block 0 (.loop l61_12))) (.seq (.reg r61_13) .ret)))
def r62_0 : List Co := [
 co 4 (.assign (.const (.int .i64 0))),
 co 5 (.assign (.const (.bool false)))]
def r62_1 : List Co := [
 co 6 (.move (tm 1)),
 co 7 (.binOp .gtr 3 (tm 6) (.const (.int .i64 1000000000000000)) 3),
 co 8 (.move (tm 7)),
 cog 9 (.move (tm 1)) 8 false,
 cog 10 (.binOp .lss 3 (tm 9) (.const (.int .i64 (-1000000000000000))) 3) 8 false,
 co 11 (.pick (tm 8) (.const (.bool true)) (tm 10)),
 co 12 (.move (tm 11)),
 cog 13 (.move (tm 0)) 12 false,
 cog 14 (.move (tm 1)) 12 false,
 cog 15 (.binOp .add 3 (tm 13) (tm 14) 3) 12 false,
 cog 16 (.call ⟨.value (.func 72), #[(tm 15)], #[3]⟩) 12 false,
 cog 17 (.unOp .not 4 (tm 16)) 12 false,
 co 18 (.pick (tm 12) (.const (.bool true)) (tm 17))]
def r62_2 : List Co := [
 co 4 (.assign (.const (.int .i64 0))),
 co 5 (.assign (.const (.bool false)))]
def r62_3 : List Co := [
 co 19 (.move (tm 0)),
 co 20 (.move (tm 1)),
 co 21 (.binOp .add 3 (tm 19) (tm 20) 3),
 co 4 (.assign (tm 21)),
 co 5 (.assign (.const (.bool true)))]
def c62 : Cc := (.seq (.reg r62_0) (.seq (.seq (.reg r62_1) (.cond (tm 18) (.seq (.reg r62_2) .ret) .skip)) (.seq (.reg r62_3) .ret)))
def r63_0 : List Co := [
 co 1 (.box 31 (tm 0)),
 co 2 (.assign (.const (.int .i64 0)))]
def r63_1 : List Co := [
 co 3 (.fieldAddr 31 (tm 1) 1),
 co 4 (.load 26 (tm 3)),
 co 5 (.call ⟨.builtin .len, #[(tm 4)], #[26]⟩),
 co 6 (.binOp .gtr 3 (tm 5) (.const (.int .i64 4)) 3),
 co 7 (.move (tm 6)),
 cog 8 (.fieldAddr 31 (tm 1) 2) 7 false,
 cog 9 (.load 27 (tm 8)) 7 false,
 cog 10 (.call ⟨.builtin .len, #[(tm 9)], #[27]⟩) 7 false,
 cog 11 (.binOp .gtr 3 (tm 10) (.const (.int .i64 60)) 3) 7 false,
 co 12 (.pick (tm 7) (.const (.bool true)) (tm 11)),
 co 13 (.move (tm 12)),
 cog 14 (.fieldAddr 31 (tm 1) 3) 13 false,
 cog 15 (.load 28 (tm 14)) 13 false,
 cog 16 (.call ⟨.builtin .len, #[(tm 15)], #[28]⟩) 13 false,
 cog 17 (.binOp .gtr 3 (tm 16) (.const (.int .i64 60)) 3) 13 false,
 co 18 (.pick (tm 13) (.const (.bool true)) (tm 17)),
 co 19 (.move (tm 18)),
 cog 20 (.fieldAddr 31 (tm 1) 4) 19 false,
 cog 21 (.load 29 (tm 20)) 19 false,
 cog 22 (.call ⟨.builtin .len, #[(tm 21)], #[29]⟩) 19 false,
 cog 23 (.binOp .gtr 3 (tm 22) (.const (.int .i64 100)) 3) 19 false,
 co 24 (.pick (tm 19) (.const (.bool true)) (tm 23))]
def r63_2 : List Co := [
 co 2 (.assign (.const (.int .i64 3)))]
def r63_3 : List Co := [
 co 25 (.load 31 (tm 1)),
 co 26 (.call ⟨.value (.func 113), #[(tm 25)], #[31]⟩),
 co 27 (.unOp .not 4 (tm 26))]
def r63_4 : List Co := [
 co 2 (.assign (.const (.int .i64 1)))]
def r63_5 : List Co := [
 co 2 (.assign (.const (.int .i64 0)))]
def c63 : Cc := (.seq (.reg r63_0) (.seq (.seq (.reg r63_1) (.cond (tm 24) (.seq (.reg r63_2) .ret) .skip)) (.seq (.seq (.reg r63_3) (.cond (tm 27) (.seq (.reg r63_4) .ret) .skip)) (.seq (.reg r63_5) .ret))))
def r64_0 : List Co := [
 co 4 (.assign (.const (.bool false)))]
def r64_1 : List Co := [
 co 5 (.move (tm 0)),
 co 6 (.convert 37 9 (tm 5)),
 co 7 (.move (tm 1)),
 co 8 (.convert 37 9 (tm 7)),
 co 9 (.binOp .eql 9 (tm 6) (tm 8) 9),
 co 4 (.assign (tm 9))]
def c64 : Cc := (.seq (.reg r64_0) (.seq (.reg r64_1) .ret))
def r65_0 : List Co := [
 coi 2 (.box 56 (tm 0)),
 co 3 (.box 56 (tm 1)),
 co 4 (.assign (.const (.bool false)))]
def r65_1 : List Co := [
 co 5 (.fieldAddr 56 (tm 2) 0),
 co 6 (.load 3 (tm 5)),
 co 7 (.fieldAddr 56 (tm 3) 0),
 co 8 (.load 3 (tm 7)),
 co 9 (.binOp .eql 3 (tm 6) (tm 8) 3),
 co 10 (.move (tm 9)),
 cog 11 (.fieldAddr 56 (tm 2) 1) 10 true,
 cog 12 (.load 3 (tm 11)) 10 true,
 cog 13 (.fieldAddr 56 (tm 3) 1) 10 true,
 cog 14 (.load 3 (tm 13)) 10 true,
 cog 15 (.binOp .eql 3 (tm 12) (tm 14) 3) 10 true,
 co 16 (.pick (tm 10) (tm 15) (.const (.bool false))),
 co 17 (.move (tm 16)),
 cog 18 (.fieldAddr 56 (tm 2) 2) 17 true,
 cog 19 (.load 3 (tm 18)) 17 true,
 cog 20 (.fieldAddr 56 (tm 3) 2) 17 true,
 cog 21 (.load 3 (tm 20)) 17 true,
 cog 22 (.binOp .eql 3 (tm 19) (tm 21) 3) 17 true,
 co 23 (.pick (tm 17) (tm 22) (.const (.bool false))),
 co 24 (.move (tm 23)),
 cog 25 (.fieldAddr 56 (tm 2) 4) 24 true,
 cog 26 (.load 9 (tm 25)) 24 true,
 cog 27 (.fieldAddr 56 (tm 3) 4) 24 true,
 cog 28 (.load 9 (tm 27)) 24 true,
 cog 29 (.binOp .eql 9 (tm 26) (tm 28) 9) 24 true,
 co 30 (.pick (tm 24) (tm 29) (.const (.bool false))),
 co 31 (.move (tm 30)),
 cog 32 (.fieldAddr 56 (tm 2) 3) 31 true,
 cog 33 (.load 37 (tm 32)) 31 true,
 cog 34 (.fieldAddr 56 (tm 3) 3) 31 true,
 cog 35 (.load 37 (tm 34)) 31 true,
 cog 36 (.call ⟨.value (.func 64), #[(tm 33), (tm 35)], #[37, 37]⟩) 31 true,
 co 37 (.pick (tm 31) (tm 36) (.const (.bool false))),
 co 4 (.assign (tm 37))]
def c65 : Cc := (.seq (.reg r65_0) (.seq (.reg r65_1) .ret))
def r68_0 : List Co := [
 co 2 (.assign (.const (.bool false)))]
def r68_1 : List Co := [
 co 3 (.move (tm 0)),
 co 4 (.binOp .geq 3 (tm 3) (.const (.int .i64 0)) 3),
 co 5 (.move (tm 4)),
 cog 6 (.move (tm 0)) 5 true,
 cog 7 (.binOp .leq 3 (tm 6) (.const (.int .i64 1000000000000000)) 3) 5 true,
 co 8 (.pick (tm 5) (tm 7) (.const (.bool false))),
 co 2 (.assign (tm 8))]
def c68 : Cc := (.seq (.reg r68_0) (.seq (.reg r68_1) .ret))
def r71_0 : List Co := [
 co 4 (.assign (.const (.bool false)))]
def r71_1 : List Co := [
 co 6 (.move (tm 0)),
 co 7 (.call ⟨.builtin .len, #[(tm 6)], #[37]⟩),
 co 8 (.move (tm 1)),
 co 9 (.call ⟨.builtin .len, #[(tm 8)], #[37]⟩),
 co 10 (.binOp .neq 3 (tm 7) (tm 9) 3)]
def r71_2 : List Co := [
 co 4 (.assign (.const (.bool false)))]
def r71_3 : List Co := [
 co 11 (.move (tm 0)),
 co 12 (.call ⟨.builtin .len, #[(tm 11)], #[37]⟩),
 co 13 (.move (.const (.int .i64 0)))]
def r71_4 : List Co := [
 co 14 (.binOp .lss 3 (tm 13) (tm 12) 3)]
def r71_5 : List Co := [
 co 15 (.move (tm 13)),
 co 5 (.assign (tm 15))]
def r71_6 : List Co := [
 co 16 (.move (tm 0)),
 co 17 (.move (tm 5)),
 co 18 (.indexAddr 37 (tm 16) (tm 17)),
 co 19 (.load 5 (tm 18)),
 co 20 (.move (tm 1)),
 co 21 (.move (tm 5)),
 co 22 (.indexAddr 37 (tm 20) (tm 21)),
 co 23 (.load 5 (tm 22)),
 co 24 (.binOp .neq 5 (tm 19) (tm 23) 5)]
def r71_7 : List Co := [
 co 4 (.assign (.const (.bool false)))]
def r71_8 : List Co := [
 co 25 (.binOp .add 3 (tm 13) (.const (.int .i64 1)) 3),
 co 13 (.move (tm 25))]
def l71_9 : Cc := (.seq (.reg r71_4) (.seq (.cond (tm 14) .skip (.exit 0)) (.seq (.block 1 (.seq (.reg r71_5) (.seq (.reg r71_6) (.cond (tm 24) (.seq (.reg r71_7) .ret) .skip)))) (.reg r71_8))))
def r71_10 : List Co := [
 co 4 (.assign (.const (.bool true)))]
def c71 : Cc := (.seq (.reg r71_0) (.seq (.seq (.reg r71_1) (.cond (tm 10) (.seq (.reg r71_2) .ret) .skip)) (.seq (.seq (.reg r71_3) (.block 0 (.loop l71_9))) (.seq (.reg r71_10) .ret))))
def r72_0 : List Co := [
 co 2 (.assign (.const (.bool false)))]
def r72_1 : List Co := [
 co 3 (.move (tm 0)),
 co 4 (.binOp .geq 3 (tm 3) (.const (.int .i64 0)) 3),
 co 5 (.move (tm 4)),
 cog 6 (.move (tm 0)) 5 true,
 cog 7 (.binOp .leq 3 (tm 6) (.const (.int .i64 1000000000000000)) 3) 5 true,
 co 8 (.pick (tm 5) (tm 7) (.const (.bool false))),
 co 2 (.assign (tm 8))]
def c72 : Cc := (.seq (.reg r72_0) (.seq (.reg r72_1) .ret))
def r74_0 : List Co := [
 co 1 (.box 31 (tm 0)),
 co 2 (.alloc 31)]
def r74_1 : List Co := [
 co 9 (.fieldAddr 31 (tm 1) 1),
 co 10 (.load 26 (tm 9)),
 co 11 (.call ⟨.value (.func 116), #[(tm 10)], #[26]⟩),
 co 12 (.fieldAddr 31 (tm 1) 1),
 coz (.store 26 (tm 12) (tm 11))]
def r74_2 : List Co := [
 co 13 (.fieldAddr 31 (tm 1) 2),
 co 14 (.load 27 (tm 13)),
 co 15 (.call ⟨.value (.func 117), #[(tm 14)], #[27]⟩),
 co 16 (.fieldAddr 31 (tm 1) 2),
 coz (.store 27 (tm 16) (tm 15))]
def r74_3 : List Co := [
 co 17 (.fieldAddr 31 (tm 1) 2),
 co 18 (.load 27 (tm 17)),
 co 19 (.call ⟨.builtin .len, #[(tm 18)], #[27]⟩),
 co 20 (.move (.const (.int .i64 0)))]
def r74_4 : List Co := [
 co 21 (.binOp .lss 3 (tm 20) (tm 19) 3)]
def r74_5 : List Co := [
 co 22 (.move (tm 20)),
 co 23 (.indexAddr 27 (tm 18) (tm 20)),
 co 24 (.load 97 (tm 23)),
 co 4 (.alloc 97),
 co 3 (.assign (tm 22)),
 coz (.store 97 (tm 4) (tm 24))]
def r74_6 : List Co := [
 co 25 (.fieldAddr 31 (tm 1) 2),
 co 26 (.load 27 (tm 25)),
 co 27 (.move (tm 3)),
 co 28 (.fieldAddr 97 (tm 4) 0),
 co 29 (.load 37 (tm 28)),
 ⟨some 30, .call ⟨.value (.func 118), #[(tm 29)], #[37]⟩, false, none, false, false, [(none, .load 27 (tm 25))]⟩,
 co 31 (.indexAddr 27 (tm 26) (tm 27)),
 co 32 (.fieldAddr 97 (tm 31) 0),
 coz (.store 37 (tm 32) (tm 30))]
def r74_7 : List Co := [
 co 33 (.binOp .add 3 (tm 20) (.const (.int .i64 1)) 3),
 co 20 (.move (tm 33))]
def l74_8 : Cc := (.seq (.reg r74_4) (.seq (.cond (tm 21) .skip (.exit 0)) (.seq (.block 1 (.seq (.reg r74_5) (.reg r74_6))) (.reg r74_7))))
def r74_9 : List Co := [
 co 34 (.fieldAddr 31 (tm 1) 3),
 co 35 (.load 28 (tm 34)),
 co 36 (.call ⟨.value (.func 119), #[(tm 35)], #[28]⟩),
 co 37 (.fieldAddr 31 (tm 1) 3),
 coz (.store 28 (tm 37) (tm 36))]
def r74_10 : List Co := [
 co 38 (.fieldAddr 31 (tm 1) 3),
 co 39 (.load 28 (tm 38)),
 co 40 (.call ⟨.builtin .len, #[(tm 39)], #[28]⟩),
 co 41 (.move (.const (.int .i64 0)))]
def r74_11 : List Co := [
 co 42 (.binOp .lss 3 (tm 41) (tm 40) 3)]
def r74_12 : List Co := [
 co 43 (.move (tm 41)),
 co 44 (.indexAddr 28 (tm 39) (tm 41)),
 co 45 (.load 100 (tm 44)),
 co 6 (.alloc 100),
 co 5 (.assign (tm 43)),
 coz (.store 100 (tm 6) (tm 45))]
def r74_13 : List Co := [
 co 46 (.fieldAddr 31 (tm 1) 3),
 co 47 (.load 28 (tm 46)),
 co 48 (.move (tm 5)),
 co 49 (.fieldAddr 100 (tm 6) 1),
 co 50 (.load 37 (tm 49)),
 ⟨some 51, .call ⟨.value (.func 118), #[(tm 50)], #[37]⟩, false, none, false, false, [(none, .load 28 (tm 46))]⟩,
 co 52 (.indexAddr 28 (tm 47) (tm 48)),
 co 53 (.fieldAddr 100 (tm 52) 1),
 coz (.store 37 (tm 53) (tm 51))]
def r74_14 : List Co := [
 co 54 (.binOp .add 3 (tm 41) (.const (.int .i64 1)) 3),
 co 41 (.move (tm 54))]
def l74_15 : Cc := (.seq (.reg r74_11) (.seq (.cond (tm 42) .skip (.exit 2)) (.seq (.block 3 (.seq (.reg r74_12) (.reg r74_13))) (.reg r74_14))))
def r74_16 : List Co := [
 co 55 (.fieldAddr 31 (tm 1) 4),
 co 56 (.load 29 (tm 55)),
 co 57 (.call ⟨.value (.func 120), #[(tm 56)], #[29]⟩),
 co 58 (.fieldAddr 31 (tm 1) 4),
 coz (.store 29 (tm 58) (tm 57))]
def r74_17 : List Co := [
 co 59 (.fieldAddr 31 (tm 1) 4),
 co 60 (.load 29 (tm 59)),
 co 61 (.call ⟨.builtin .len, #[(tm 60)], #[29]⟩),
 co 62 (.move (.const (.int .i64 0)))]
def r74_18 : List Co := [
 co 63 (.binOp .lss 3 (tm 62) (tm 61) 3)]
def r74_19 : List Co := [
 co 64 (.move (tm 62)),
 co 65 (.indexAddr 29 (tm 60) (tm 62)),
 co 66 (.load 56 (tm 65)),
 co 8 (.alloc 56),
 co 7 (.assign (tm 64)),
 coz (.store 56 (tm 8) (tm 66))]
def r74_20 : List Co := [
 co 67 (.fieldAddr 31 (tm 1) 4),
 co 68 (.load 29 (tm 67)),
 co 69 (.move (tm 7)),
 co 70 (.fieldAddr 56 (tm 8) 3),
 co 71 (.load 37 (tm 70)),
 ⟨some 72, .call ⟨.value (.func 118), #[(tm 71)], #[37]⟩, false, none, false, false, [(none, .load 29 (tm 67))]⟩,
 co 73 (.indexAddr 29 (tm 68) (tm 69)),
 co 74 (.fieldAddr 56 (tm 73) 3),
 coz (.store 37 (tm 74) (tm 72))]
def r74_21 : List Co := [
 co 75 (.binOp .add 3 (tm 62) (.const (.int .i64 1)) 3),
 co 62 (.move (tm 75))]
def l74_22 : Cc := (.seq (.reg r74_18) (.seq (.cond (tm 63) .skip (.exit 4)) (.seq (.block 5 (.seq (.reg r74_19) (.reg r74_20))) (.reg r74_21))))
def r74_23 : List Co := [
 co 76 (.load 31 (tm 1)),
 coz (.store 31 (tm 2) (tm 76))]
def c74 : Cc := (.seq (.reg r74_0) (.seq (.reg r74_1) (.seq (.reg r74_2) (.seq (.seq (.reg r74_3) (.block 0 (.loop l74_8))) (.seq (.reg r74_9) (.seq (.seq (.reg r74_10) (.block 2 (.loop l74_15))) (.seq (.reg r74_16) (.seq (.seq (.reg r74_17) (.block 4 (.loop l74_22))) (.seq (.reg r74_23) .ret)))))))))
def r76_0 : List Co := [
 co 2 (.box 31 (tm 0)),
 co 4 (.alloc 31)]
def r76_1 : List Co := [
 co 5 (.move (tm 1)),
 co 6 (.fieldAddr 31 (tm 2) 4),
 coz (.store 29 (tm 6) (tm 5))]
def r76_2 : List Co := [
 co 7 (.load 31 (tm 2)),
 coz (.store 31 (tm 4) (tm 7))]
def c76 : Cc := (.seq (.reg r76_0) (.seq (.reg r76_1) (.seq (.reg r76_2) .ret)))
def r91_0 : List Co := [
 co 2 (.box 31 (tm 0)),
 co 4 (.alloc 31),
 co 5 (.assign (.const (.int .i64 0)))]
def r91_1 : List Co := [
 co 12 (.load 31 (tm 2)),
 coi 13 (.buildSlice 22 1 #[(0, (tm 12))]),
 co 14 (.call ⟨.value (.func 54), #[(tm 13)], #[22]⟩),
 co 6 (.assign (tm 14))]
def r91_2 : List Co := [
 co 15 (.move (tm 6)),
 co 16 (.binOp .neq 32 (tm 15) (.const (.int .i64 0)) 32)]
def r91_3 : List Co := [
 co 17 (.build 31 #[]),
 co 18 (.move (tm 6)),
 coz (.store 31 (tm 4) (tm 17)),
 co 5 (.assign (tm 18))]
def r91_4 : List Co := [
 co 19 (.load 31 (tm 2)),
 co 20 (.call ⟨.value (.func 74), #[(tm 19)], #[31]⟩),
 co 7 (.alloc 31),
 coz (.store 31 (tm 7) (tm 20))]
def r91_5 : List Co := [
 co 21 (.fieldAddr 31 (tm 7) 4),
 co 22 (.load 29 (tm 21)),
 co 23 (.call ⟨.builtin .len, #[(tm 22)], #[29]⟩),
 co 24 (.move (.const (.int .i64 0)))]
def r91_6 : List Co := [
 co 25 (.binOp .lss 3 (tm 24) (tm 23) 3)]
def r91_7 : List Co := [
 co 26 (.move (tm 24)),
 co 27 (.indexAddr 29 (tm 22) (tm 24)),
 co 28 (.load 56 (tm 27)),
 co 9 (.alloc 56),
 co 8 (.assign (tm 26)),
 coz (.store 56 (tm 9) (tm 28))]
def r91_8 : List Co := [
 co 30 (.move (tm 1)),
 co 31 (.fieldAddr 56 (tm 9) 0),
 co 32 (.load 3 (tm 31)),
 co 33 (.call ⟨.value (tm 30), #[(tm 32)], #[3]⟩),
 co 29 (.move (tm 33)),
 co 34 (.extract (tm 29) 0),
 co 35 (.extract (tm 29) 1),
 co 10 (.assign (tm 34)),
 co 11 (.assign (tm 35))]
def r91_9 : List Co := [
 co 36 (.move (tm 11)),
 co 37 (.unOp .not 4 (tm 36))]
def r91_10 : List Co := [
 co 38 (.build 31 #[]),
 coz (.store 31 (tm 4) (tm 38)),
 co 5 (.assign (.const (.int .i64 1)))]
def r91_11 : List Co := [
 co 39 (.fieldAddr 31 (tm 7) 4),
 co 40 (.load 29 (tm 39)),
 co 41 (.move (tm 8)),
 co 42 (.move (tm 10)),
 co 43 (.indexAddr 29 (tm 40) (tm 41)),
 co 44 (.fieldAddr 56 (tm 43) 0),
 coz (.store 3 (tm 44) (tm 42))]
def r91_12 : List Co := [
 co 45 (.binOp .add 3 (tm 24) (.const (.int .i64 1)) 3),
 co 24 (.move (tm 45))]
def l91_13 : Cc := (.seq (.reg r91_6) (.seq (.cond (tm 25) .skip (.exit 0)) (.seq (.block 1 (.seq (.reg r91_7) (.seq (.reg r91_8) (.seq (.seq (.reg r91_9) (.cond (tm 37) (.seq (.reg r91_10) .ret) .skip)) (.reg r91_11))))) (.reg r91_12))))
def r91_14 : List Co := [
 co 46 (.load 31 (tm 7)),
 coz (.store 31 (tm 4) (tm 46)),
 co 5 (.assign (.const (.int .i64 0)))]
def c91 : Cc := (.seq (.reg r91_0) (.seq (.seq (.reg r91_1) (.seq (.reg r91_2) (.cond (tm 16) (.seq (.reg r91_3) .ret) .skip))) (.seq (.reg r91_4) (.seq (.seq (.reg r91_5) (.block 0 (.loop l91_13))) (.seq (.reg r91_14) .ret)))))
def r92_0 : List Co := [
 co 3 (.assign (.const (.int .i64 0))),
 co 4 (.assign (.const (.bool false)))]
def r92_1 : List Co := [
 co 5 (.move (tm 0)),
 co 6 (.load 3 (tm 1)),
 co 7 (.call ⟨.value (.func 93), #[(tm 5), (tm 6)], #[3, 3]⟩),
 co 8 (.extract (tm 7) 0),
 co 9 (.extract (tm 7) 1),
 co 3 (.assign (tm 8)),
 co 4 (.assign (tm 9))]
def c92 : Cc := (.seq (.reg r92_0) (.seq (.reg r92_1) .ret))
def r93_0 : List Co := [
 co 4 (.assign (.const (.int .i64 0))),
 co 5 (.assign (.const (.bool false)))]
def r93_1 : List Co := [
 co 6 (.move (tm 1)),
 co 7 (.binOp .gtr 3 (tm 6) (.const (.int .i64 1000000000000000)) 3),
 co 8 (.move (tm 7)),
 cog 9 (.move (tm 1)) 8 false,
 cog 10 (.binOp .lss 3 (tm 9) (.const (.int .i64 (-1000000000000000))) 3) 8 false,
 co 11 (.pick (tm 8) (.const (.bool true)) (tm 10))]
def r93_2 : List Co := [
 co 4 (.assign (.const (.int .i64 0))),
 co 5 (.assign (.const (.bool false)))]
def r93_3 : List Co := [
 co 12 (.move (tm 0)),
 co 13 (.move (tm 1)),
 co 14 (.binOp .add 3 (tm 12) (tm 13) 3),
 co 15 (.move (tm 0)),
 co 16 (.move (tm 1)),
 co 17 (.binOp .add 3 (tm 15) (tm 16) 3),
 co 18 (.call ⟨.value (.func 68), #[(tm 17)], #[3]⟩),
 co 4 (.assign (tm 14)),
 co 5 (.assign (tm 18))]
def c93 : Cc := (.seq (.reg r93_0) (.seq (.seq (.reg r93_1) (.cond (tm 11) (.seq (.reg r93_2) .ret) .skip)) (.seq (.reg r93_3) .ret)))
def r100_0 : List Co := [
 coi 4 (.box 82 (tm 1)),
 co 5 (.box 144 (tm 2)),
 co 6 (.assign (.const (.slice none 0 0))),
 co 7 (.assign (.const (.int .i64 0)))]
def r100_1 : List Co := [
 co 9 (.move (tm 0)),
 co 10 (.makeFunc (.func 142) #[] #[(tm 5), (tm 4)]),
 co 11 (.call ⟨.value (.func 141), #[(tm 9), (tm 10)], #[26, 152]⟩),
 co 8 (.assign (tm 11))]
def r100_2 : List Co := [
 co 12 (.move (tm 8)),
 co 13 (.binOp .lss 3 (tm 12) (.const (.int .i64 0)) 3)]
def r100_3 : List Co := [
 co 14 (.move (tm 0)),
 co 15 (.load 82 (tm 4)),
 coi 16 (.buildSlice 26 1 #[(0, (tm 15))]),
 co 17 (.call ⟨.builtin .append, #[(tm 14), (tm 16)], #[26, 26]⟩),
 co 18 (.move (tm 0)),
 co 19 (.call ⟨.builtin .len, #[(tm 18)], #[26]⟩),
 co 6 (.assign (tm 17)),
 co 7 (.assign (tm 19))]
def r100_4 : List Co := [
 co 20 (.move (tm 0)),
 co 21 (.move (tm 8)),
 co 6 (.assign (tm 20)),
 co 7 (.assign (tm 21))]
def c100 : Cc := (.seq (.reg r100_0) (.seq (.reg r100_1) (.seq (.seq (.reg r100_2) (.cond (tm 13) (.seq (.reg r100_3) .ret) .skip)) (.seq (.reg r100_4) .ret))))
def r101_0 : List Co := [
 coi 2 (.box 82 (tm 0)),
 coi 3 (.box 82 (tm 1)),
 co 4 (.assign (.const (.bool false)))]
def r101_1 : List Co := [
 co 5 (.load 82 (tm 2)),
 co 6 (.load 82 (tm 3)),
 co 7 (.binOp .eql 82 (tm 5) (tm 6) 82),
 co 4 (.assign (tm 7))]
def c101 : Cc := (.seq (.reg r101_0) (.seq (.reg r101_1) .ret))
def r102_0 : List Co := [
 coi 4 (.box 97 (tm 1)),
 co 5 (.box 147 (tm 2)),
 co 6 (.assign (.const (.slice none 0 0))),
 co 7 (.assign (.const (.int .i64 0)))]
def r102_1 : List Co := [
 co 9 (.move (tm 0)),
 co 10 (.makeFunc (.func 144) #[] #[(tm 5), (tm 4)]),
 co 11 (.call ⟨.value (.func 143), #[(tm 9), (tm 10)], #[27, 153]⟩),
 co 8 (.assign (tm 11))]
def r102_2 : List Co := [
 co 12 (.move (tm 8)),
 co 13 (.binOp .lss 3 (tm 12) (.const (.int .i64 0)) 3)]
def r102_3 : List Co := [
 co 14 (.move (tm 0)),
 co 15 (.load 97 (tm 4)),
 coi 16 (.buildSlice 27 1 #[(0, (tm 15))]),
 co 17 (.call ⟨.builtin .append, #[(tm 14), (tm 16)], #[27, 27]⟩),
 co 18 (.move (tm 0)),
 co 19 (.call ⟨.builtin .len, #[(tm 18)], #[27]⟩),
 co 6 (.assign (tm 17)),
 co 7 (.assign (tm 19))]
def r102_4 : List Co := [
 co 20 (.move (tm 0)),
 co 21 (.move (tm 8)),
 co 6 (.assign (tm 20)),
 co 7 (.assign (tm 21))]
def c102 : Cc := (.seq (.reg r102_0) (.seq (.reg r102_1) (.seq (.seq (.reg r102_2) (.cond (tm 13) (.seq (.reg r102_3) .ret) .skip)) (.seq (.reg r102_4) .ret))))
def r103_0 : List Co := [
 coi 2 (.box 97 (tm 0)),
 coi 3 (.box 97 (tm 1)),
 co 4 (.assign (.const (.bool false)))]
def r103_1 : List Co := [
 co 5 (.fieldAddr 97 (tm 2) 1),
 co 6 (.load 9 (tm 5)),
 co 7 (.fieldAddr 97 (tm 3) 1),
 co 8 (.load 9 (tm 7)),
 co 9 (.binOp .eql 9 (tm 6) (tm 8) 9),
 co 10 (.move (tm 9)),
 cog 11 (.fieldAddr 97 (tm 2) 0) 10 true,
 cog 12 (.load 37 (tm 11)) 10 true,
 cog 13 (.fieldAddr 97 (tm 3) 0) 10 true,
 cog 14 (.load 37 (tm 13)) 10 true,
 cog 15 (.call ⟨.value (.func 71), #[(tm 12), (tm 14)], #[37, 37]⟩) 10 true,
 co 16 (.pick (tm 10) (tm 15) (.const (.bool false))),
 co 4 (.assign (tm 16))]
def c103 : Cc := (.seq (.reg r103_0) (.seq (.reg r103_1) .ret))
def r104_0 : List Co := [
 coi 4 (.box 100 (tm 1)),
 co 5 (.box 150 (tm 2)),
 co 6 (.assign (.const (.slice none 0 0))),
 co 7 (.assign (.const (.int .i64 0)))]
def r104_1 : List Co := [
 co 9 (.move (tm 0)),
 co 10 (.makeFunc (.func 146) #[] #[(tm 5), (tm 4)]),
 co 11 (.call ⟨.value (.func 145), #[(tm 9), (tm 10)], #[28, 154]⟩),
 co 8 (.assign (tm 11))]
def r104_2 : List Co := [
 co 12 (.move (tm 8)),
 co 13 (.binOp .lss 3 (tm 12) (.const (.int .i64 0)) 3)]
def r104_3 : List Co := [
 co 14 (.move (tm 0)),
 co 15 (.load 100 (tm 4)),
 coi 16 (.buildSlice 28 1 #[(0, (tm 15))]),
 co 17 (.call ⟨.builtin .append, #[(tm 14), (tm 16)], #[28, 28]⟩),
 co 18 (.move (tm 0)),
 co 19 (.call ⟨.builtin .len, #[(tm 18)], #[28]⟩),
 co 6 (.assign (tm 17)),
 co 7 (.assign (tm 19))]
def r104_4 : List Co := [
 co 20 (.move (tm 0)),
 co 21 (.move (tm 8)),
 co 6 (.assign (tm 20)),
 co 7 (.assign (tm 21))]
def c104 : Cc := (.seq (.reg r104_0) (.seq (.reg r104_1) (.seq (.seq (.reg r104_2) (.cond (tm 13) (.seq (.reg r104_3) .ret) .skip)) (.seq (.reg r104_4) .ret))))
def r105_0 : List Co := [
 coi 2 (.box 100 (tm 0)),
 coi 3 (.box 100 (tm 1)),
 co 4 (.assign (.const (.bool false)))]
def r105_1 : List Co := [
 co 5 (.fieldAddr 100 (tm 2) 0),
 co 6 (.load 9 (tm 5)),
 co 7 (.fieldAddr 100 (tm 3) 0),
 co 8 (.load 9 (tm 7)),
 co 9 (.binOp .eql 9 (tm 6) (tm 8) 9),
 co 10 (.move (tm 9)),
 cog 11 (.fieldAddr 100 (tm 2) 1) 10 true,
 cog 12 (.load 37 (tm 11)) 10 true,
 cog 13 (.fieldAddr 100 (tm 3) 1) 10 true,
 cog 14 (.load 37 (tm 13)) 10 true,
 cog 15 (.call ⟨.value (.func 71), #[(tm 12), (tm 14)], #[37, 37]⟩) 10 true,
 co 16 (.pick (tm 10) (tm 15) (.const (.bool false))),
 co 4 (.assign (tm 16))]
def c105 : Cc := (.seq (.reg r105_0) (.seq (.reg r105_1) .ret))
def r106_0 : List Co := [
 co 2 (.assign (.const (.bool false)))]
def r106_1 : List Co := [
 co 3 (.move (tm 0)),
 co 4 (.call ⟨.builtin .len, #[(tm 3)], #[9]⟩),
 co 5 (.binOp .leq 3 (tm 4) (.const (.int .i64 200)) 3),
 co 6 (.move (tm 5)),
 cog 7 (.move (tm 0)) 6 true,
 ⟨some 8, .convert 9 37 (tm 7), true, some (6, true), false, false, []⟩,
 cog 9 (.call ⟨.value (.func 147), #[(tm 8), (.func 148)], #[37, 187]⟩) 6 true,
 cog 10 (.unOp .not 4 (tm 9)) 6 true,
 co 11 (.pick (tm 6) (tm 10) (.const (.bool false))),
 co 2 (.assign (tm 11))]
def c106 : Cc := (.seq (.reg r106_0) (.seq (.reg r106_1) .ret))
def r107_0 : List Co := [
 coi 1 (.box 82 (tm 0)),
 co 2 (.assign (.const (.bool false)))]
def r107_1 : List Co := [
 co 3 (.fieldAddr 82 (tm 1) 0),
 co 4 (.load 9 (tm 3)),
 co 5 (.call ⟨.value (.func 106), #[(tm 4)], #[9]⟩),
 co 6 (.move (tm 5)),
 cog 7 (.fieldAddr 82 (tm 1) 1) 6 true,
 cog 8 (.load 3 (tm 7)) 6 true,
 cog 9 (.binOp .geq 3 (tm 8) (.const (.int .i64 0)) 3) 6 true,
 co 10 (.pick (tm 6) (tm 9) (.const (.bool false))),
 co 11 (.move (tm 10)),
 cog 12 (.fieldAddr 82 (tm 1) 1) 11 true,
 cog 13 (.load 3 (tm 12)) 11 true,
 cog 14 (.binOp .leq 3 (tm 13) (.const (.int .i64 65535)) 3) 11 true,
 co 15 (.pick (tm 11) (tm 14) (.const (.bool false))),
 co 16 (.move (tm 15)),
 cog 17 (.fieldAddr 82 (tm 1) 2) 16 true,
 cog 18 (.load 3 (tm 17)) 16 true,
 cog 19 (.binOp .geq 3 (tm 18) (.const (.int .i64 0)) 3) 16 true,
 co 20 (.pick (tm 16) (tm 19) (.const (.bool false))),
 co 21 (.move (tm 20)),
 cog 22 (.fieldAddr 82 (tm 1) 2) 21 true,
 cog 23 (.load 3 (tm 22)) 21 true,
 cog 24 (.binOp .leq 3 (tm 23) (.const (.int .i64 400)) 3) 21 true,
 co 25 (.pick (tm 21) (tm 24) (.const (.bool false))),
 co 2 (.assign (tm 25))]
def c107 : Cc := (.seq (.reg r107_0) (.seq (.reg r107_1) .ret))
def r108_0 : List Co := [
 coi 1 (.box 97 (tm 0)),
 co 2 (.assign (.const (.bool false)))]
def r108_1 : List Co := [
 co 3 (.fieldAddr 97 (tm 1) 1),
 co 4 (.load 9 (tm 3)),
 co 5 (.call ⟨.value (.func 106), #[(tm 4)], #[9]⟩),
 co 6 (.move (tm 5)),
 cog 7 (.fieldAddr 97 (tm 1) 0) 6 true,
 cog 8 (.load 37 (tm 7)) 6 true,
 cog 9 (.call ⟨.builtin .len, #[(tm 8)], #[37]⟩) 6 true,
 cog 10 (.binOp .geq 3 (tm 9) (.const (.int .i64 1)) 3) 6 true,
 co 11 (.pick (tm 6) (tm 10) (.const (.bool false))),
 co 12 (.move (tm 11)),
 cog 13 (.fieldAddr 97 (tm 1) 0) 12 true,
 cog 14 (.load 37 (tm 13)) 12 true,
 cog 15 (.call ⟨.builtin .len, #[(tm 14)], #[37]⟩) 12 true,
 cog 16 (.binOp .leq 3 (tm 15) (.const (.int .i64 16)) 3) 12 true,
 co 17 (.pick (tm 12) (tm 16) (.const (.bool false))),
 co 2 (.assign (tm 17))]
def c108 : Cc := (.seq (.reg r108_0) (.seq (.reg r108_1) .ret))
def r109_0 : List Co := [
 coi 1 (.box 100 (tm 0)),
 co 2 (.assign (.const (.bool false)))]
def r109_1 : List Co := [
 co 3 (.fieldAddr 100 (tm 1) 0),
 co 4 (.load 9 (tm 3)),
 co 5 (.call ⟨.value (.func 106), #[(tm 4)], #[9]⟩),
 co 6 (.move (tm 5)),
 cog 7 (.fieldAddr 100 (tm 1) 0) 6 true,
 cog 8 (.load 9 (tm 7)) 6 true,
 cog 9 (.binOp .neq 9 (tm 8) (.const (.string ⟨#[]⟩)) 9) 6 true,
 co 10 (.pick (tm 6) (tm 9) (.const (.bool false))),
 co 11 (.move (tm 10)),
 cog 12 (.fieldAddr 100 (tm 1) 1) 11 true,
 cog 13 (.load 37 (tm 12)) 11 true,
 cog 14 (.call ⟨.builtin .len, #[(tm 13)], #[37]⟩) 11 true,
 cog 15 (.binOp .geq 3 (tm 14) (.const (.int .i64 1)) 3) 11 true,
 co 16 (.pick (tm 11) (tm 15) (.const (.bool false))),
 co 17 (.move (tm 16)),
 cog 18 (.fieldAddr 100 (tm 1) 1) 17 true,
 cog 19 (.load 37 (tm 18)) 17 true,
 cog 20 (.call ⟨.builtin .len, #[(tm 19)], #[37]⟩) 17 true,
 cog 21 (.binOp .leq 3 (tm 20) (.const (.int .i64 200)) 3) 17 true,
 co 22 (.pick (tm 17) (tm 21) (.const (.bool false))),
 co 2 (.assign (tm 22))]
def c109 : Cc := (.seq (.reg r109_0) (.seq (.reg r109_1) .ret))
def r110_0 : List Co := [
 coi 2 (.box 56 (tm 0)),
 co 4 (.assign (.const (.bool false)))]
def r110_1 : List Co := [
 co 6 (.fieldAddr 56 (tm 2) 1),
 co 7 (.load 3 (tm 6)),
 co 8 (.binOp .lss 3 (tm 7) (.const (.int .i64 0)) 3),
 co 9 (.move (tm 8)),
 cog 10 (.fieldAddr 56 (tm 2) 1) 9 false,
 cog 11 (.load 3 (tm 10)) 9 false,
 cog 12 (.move (tm 1)) 9 false,
 cog 13 (.call ⟨.builtin .len, #[(tm 12)], #[26]⟩) 9 false,
 cog 14 (.binOp .geq 3 (tm 11) (tm 13) 3) 9 false,
 co 15 (.pick (tm 9) (.const (.bool true)) (tm 14)),
 co 16 (.move (tm 15)),
 cog 17 (.fieldAddr 56 (tm 2) 0) 16 false,
 cog 18 (.load 3 (tm 17)) 16 false,
 cog 19 (.binOp .lss 3 (tm 18) (.const (.int .i64 0)) 3) 16 false,
 co 20 (.pick (tm 16) (.const (.bool true)) (tm 19)),
 co 21 (.move (tm 20)),
 cog 22 (.fieldAddr 56 (tm 2) 0) 21 false,
 cog 23 (.load 3 (tm 22)) 21 false,
 cog 24 (.binOp .gtr 3 (tm 23) (.const (.int .i64 1000000000000000)) 3) 21 false,
 co 25 (.pick (tm 21) (.const (.bool true)) (tm 24)),
 co 26 (.move (tm 25)),
 cog 27 (.fieldAddr 56 (tm 2) 3) 26 false,
 cog 28 (.load 37 (tm 27)) 26 false,
 cog 29 (.call ⟨.builtin .len, #[(tm 28)], #[37]⟩) 26 false,
 cog 30 (.binOp .gtr 3 (tm 29) (.const (.int .i64 400)) 3) 26 false,
 co 31 (.pick (tm 26) (.const (.bool true)) (tm 30)),
 co 32 (.move (tm 31)),
 cog 33 (.fieldAddr 56 (tm 2) 4) 32 false,
 cog 34 (.load 9 (tm 33)) 32 false,
 cog 35 (.call ⟨.value (.func 106), #[(tm 34)], #[9]⟩) 32 false,
 cog 36 (.unOp .not 4 (tm 35)) 32 false,
 co 37 (.pick (tm 32) (.const (.bool true)) (tm 36))]
def r110_2 : List Co := [
 co 4 (.assign (.const (.bool false)))]
def r110_3 : List Co := [
 co 38 (.move (tm 1)),
 co 39 (.fieldAddr 56 (tm 2) 1),
 co 40 (.load 3 (tm 39)),
 co 41 (.indexAddr 26 (tm 38) (tm 40)),
 co 42 (.fieldAddr 82 (tm 41) 2),
 co 43 (.load 3 (tm 42)),
 co 5 (.assign (tm 43))]
def r110_4 : List Co := [
 co 44 (.move (tm 5)),
 co 45 (.binOp .eql 3 (tm 44) (.const (.int .i64 0)) 3),
 co 46 (.move (tm 45)),
 cog 47 (.fieldAddr 56 (tm 2) 3) 46 false,
 cog 48 (.load 37 (tm 47)) 46 false,
 cog 49 (.call ⟨.builtin .len, #[(tm 48)], #[37]⟩) 46 false,
 cog 50 (.move (tm 5)) 46 false,
 cog 51 (.binOp .leq 3 (tm 49) (tm 50) 3) 46 false,
 co 52 (.pick (tm 46) (.const (.bool true)) (tm 51)),
 co 53 (.move (tm 52)),
 cog 54 (.fieldAddr 56 (tm 2) 2) 53 true,
 cog 55 (.load 3 (tm 54)) 53 true,
 cog 56 (.fieldAddr 56 (tm 2) 3) 53 true,
 cog 57 (.load 37 (tm 56)) 53 true,
 cog 58 (.call ⟨.builtin .len, #[(tm 57)], #[37]⟩) 53 true,
 cog 59 (.binOp .geq 3 (tm 55) (tm 58) 3) 53 true,
 co 60 (.pick (tm 53) (tm 59) (.const (.bool false))),
 co 61 (.move (tm 60)),
 cog 62 (.fieldAddr 56 (tm 2) 2) 61 true,
 cog 63 (.load 3 (tm 62)) 61 true,
 cog 64 (.binOp .leq 3 (tm 63) (.const (.int .i64 1000000)) 3) 61 true,
 co 65 (.pick (tm 61) (tm 64) (.const (.bool false))),
 co 4 (.assign (tm 65))]
def c110 : Cc := (.seq (.reg r110_0) (.seq (.seq (.reg r110_1) (.cond (tm 37) (.seq (.reg r110_2) .ret) .skip)) (.seq (.reg r110_3) (.seq (.reg r110_4) .ret))))
def r111_0 : List Co := [
 coi 2 (.box 97 (tm 0)),
 coi 3 (.box 97 (tm 1)),
 co 4 (.assign (.const (.bool false)))]
def r111_1 : List Co := [
 co 5 (.fieldAddr 97 (tm 2) 1),
 co 6 (.load 9 (tm 5)),
 co 7 (.fieldAddr 97 (tm 3) 1),
 co 8 (.load 9 (tm 7)),
 co 9 (.binOp .eql 9 (tm 6) (tm 8) 9),
 co 10 (.move (tm 9)),
 cog 11 (.fieldAddr 97 (tm 2) 0) 10 true,
 cog 12 (.load 37 (tm 11)) 10 true,
 cog 13 (.convert 37 9 (tm 12)) 10 true,
 cog 14 (.fieldAddr 97 (tm 3) 0) 10 true,
 cog 15 (.load 37 (tm 14)) 10 true,
 cog 16 (.convert 37 9 (tm 15)) 10 true,
 cog 17 (.binOp .eql 9 (tm 13) (tm 16) 9) 10 true,
 co 18 (.pick (tm 10) (tm 17) (.const (.bool false))),
 co 4 (.assign (tm 18))]
def c111 : Cc := (.seq (.reg r111_0) (.seq (.reg r111_1) .ret))
def r112_0 : List Co := [
 coi 2 (.box 100 (tm 0)),
 coi 3 (.box 100 (tm 1)),
 co 4 (.assign (.const (.bool false)))]
def r112_1 : List Co := [
 co 5 (.fieldAddr 100 (tm 2) 0),
 co 6 (.load 9 (tm 5)),
 co 7 (.fieldAddr 100 (tm 3) 0),
 co 8 (.load 9 (tm 7)),
 co 9 (.binOp .eql 9 (tm 6) (tm 8) 9),
 co 10 (.move (tm 9)),
 cog 11 (.fieldAddr 100 (tm 2) 1) 10 true,
 cog 12 (.load 37 (tm 11)) 10 true,
 cog 13 (.convert 37 9 (tm 12)) 10 true,
 cog 14 (.fieldAddr 100 (tm 3) 1) 10 true,
 cog 15 (.load 37 (tm 14)) 10 true,
 cog 16 (.convert 37 9 (tm 15)) 10 true,
 cog 17 (.binOp .eql 9 (tm 13) (tm 16) 9) 10 true,
 co 18 (.pick (tm 10) (tm 17) (.const (.bool false))),
 co 4 (.assign (tm 18))]
def c112 : Cc := (.seq (.reg r112_0) (.seq (.reg r112_1) .ret))
def r113_0 : List Co := [
 co 1 (.box 31 (tm 0)),
 co 2 (.assign (.const (.bool false)))]
def r113_1 : List Co := [
 co 11 (.fieldAddr 31 (tm 1) 0),
 co 12 (.load 9 (tm 11)),
 co 13 (.call ⟨.value (.func 149), #[(tm 12)], #[9]⟩),
 co 14 (.unOp .not 4 (tm 13)),
 co 15 (.move (tm 14)),
 cog 16 (.fieldAddr 31 (tm 1) 1) 15 false,
 cog 17 (.load 26 (tm 16)) 15 false,
 cog 18 (.call ⟨.builtin .len, #[(tm 17)], #[26]⟩) 15 false,
 cog 19 (.binOp .lss 3 (tm 18) (.const (.int .i64 1)) 3) 15 false,
 co 20 (.pick (tm 15) (.const (.bool true)) (tm 19))]
def r113_2 : List Co := [
 co 2 (.assign (.const (.bool false)))]
def r113_3 : List Co := [
 co 3 (.assign (.const (.int .i64 0)))]
def r113_4 : List Co := [
 co 21 (.move (tm 3)),
 co 22 (.fieldAddr 31 (tm 1) 1),
 co 23 (.load 26 (tm 22)),
 co 24 (.call ⟨.builtin .len, #[(tm 23)], #[26]⟩),
 co 25 (.binOp .lss 3 (tm 21) (tm 24) 3)]
def r113_5 : List Co := [
 co 28 (.fieldAddr 31 (tm 1) 1),
 co 29 (.load 26 (tm 28)),
 co 30 (.move (tm 3)),
 co 31 (.indexAddr 26 (tm 29) (tm 30)),
 co 32 (.load 82 (tm 31)),
 co 4 (.alloc 82),
 coz (.store 82 (tm 4) (tm 32))]
def r113_6 : List Co := [
 co 33 (.fieldAddr 82 (tm 4) 0),
 co 34 (.load 9 (tm 33)),
 co 35 (.call ⟨.value (.func 149), #[(tm 34)], #[9]⟩),
 co 36 (.unOp .not 4 (tm 35)),
 co 37 (.move (tm 36)),
 cog 38 (.fieldAddr 82 (tm 4) 1) 37 false,
 cog 39 (.load 3 (tm 38)) 37 false,
 cog 40 (.binOp .lss 3 (tm 39) (.const (.int .i64 0)) 3) 37 false,
 co 41 (.pick (tm 37) (.const (.bool true)) (tm 40)),
 co 42 (.move (tm 41)),
 cog 43 (.fieldAddr 82 (tm 4) 1) 42 false,
 cog 44 (.load 3 (tm 43)) 42 false,
 cog 45 (.binOp .gtr 3 (tm 44) (.const (.int .i64 65535)) 3) 42 false,
 co 46 (.pick (tm 42) (.const (.bool true)) (tm 45)),
 co 47 (.move (tm 46)),
 cog 48 (.fieldAddr 82 (tm 4) 2) 47 false,
 cog 49 (.load 3 (tm 48)) 47 false,
 cog 50 (.binOp .lss 3 (tm 49) (.const (.int .i64 0)) 3) 47 false,
 co 51 (.pick (tm 47) (.const (.bool true)) (tm 50)),
 co 52 (.move (tm 51)),
 cog 53 (.fieldAddr 82 (tm 4) 2) 52 false,
 cog 54 (.load 3 (tm 53)) 52 false,
 cog 55 (.binOp .gtr 3 (tm 54) (.const (.int .i64 400)) 3) 52 false,
 co 56 (.pick (tm 52) (.const (.bool true)) (tm 55))]
def r113_7 : List Co := [
 co 2 (.assign (.const (.bool false)))]
def r113_8 : List Co := [
 co 26 (.move (tm 3)),
 co 27 (.binOp .add 3 (tm 26) (.const (.int .i64 1)) 3),
 co 3 (.assign (tm 27))]
def l113_9 : Cc := (.seq (.seq (.reg r113_4) (.cond (tm 25) .skip (.exit 0))) (.seq (.block 1 (.seq (.reg r113_5) (.seq (.reg r113_6) (.cond (tm 56) (.seq (.reg r113_7) .ret) .skip)))) (.reg r113_8)))
def r113_10 : List Co := [
 co 5 (.assign (.const (.int .i64 0)))]
def r113_11 : List Co := [
 co 57 (.move (tm 5)),
 co 58 (.fieldAddr 31 (tm 1) 2),
 co 59 (.load 27 (tm 58)),
 co 60 (.call ⟨.builtin .len, #[(tm 59)], #[27]⟩),
 co 61 (.binOp .lss 3 (tm 57) (tm 60) 3)]
def r113_12 : List Co := [
 co 64 (.fieldAddr 31 (tm 1) 2),
 co 65 (.load 27 (tm 64)),
 co 66 (.move (tm 5)),
 co 67 (.indexAddr 27 (tm 65) (tm 66)),
 co 68 (.load 97 (tm 67)),
 co 6 (.alloc 97),
 coz (.store 97 (tm 6) (tm 68))]
def r113_13 : List Co := [
 co 69 (.fieldAddr 97 (tm 6) 0),
 co 70 (.load 37 (tm 69)),
 co 71 (.call ⟨.builtin .len, #[(tm 70)], #[37]⟩),
 co 72 (.binOp .lss 3 (tm 71) (.const (.int .i64 1)) 3),
 co 73 (.move (tm 72)),
 cog 74 (.fieldAddr 97 (tm 6) 0) 73 false,
 cog 75 (.load 37 (tm 74)) 73 false,
 cog 76 (.call ⟨.builtin .len, #[(tm 75)], #[37]⟩) 73 false,
 cog 77 (.binOp .gtr 3 (tm 76) (.const (.int .i64 16)) 3) 73 false,
 co 78 (.pick (tm 73) (.const (.bool true)) (tm 77)),
 co 79 (.move (tm 78)),
 cog 80 (.fieldAddr 97 (tm 6) 1) 79 false,
 cog 81 (.load 9 (tm 80)) 79 false,
 cog 82 (.call ⟨.value (.func 149), #[(tm 81)], #[9]⟩) 79 false,
 cog 83 (.unOp .not 4 (tm 82)) 79 false,
 co 84 (.pick (tm 79) (.const (.bool true)) (tm 83))]
def r113_14 : List Co := [
 co 2 (.assign (.const (.bool false)))]
def r113_15 : List Co := [
 co 62 (.move (tm 5)),
 co 63 (.binOp .add 3 (tm 62) (.const (.int .i64 1)) 3),
 co 5 (.assign (tm 63))]
def l113_16 : Cc := (.seq (.seq (.reg r113_11) (.cond (tm 61) .skip (.exit 2))) (.seq (.block 3 (.seq (.reg r113_12) (.seq (.reg r113_13) (.cond (tm 84) (.seq (.reg r113_14) .ret) .skip)))) (.reg r113_15)))
def r113_17 : List Co := [
 co 7 (.assign (.const (.int .i64 0)))]
def r113_18 : List Co := [
 co 85 (.move (tm 7)),
 co 86 (.fieldAddr 31 (tm 1) 3),
 co 87 (.load 28 (tm 86)),
 co 88 (.call ⟨.builtin .len, #[(tm 87)], #[28]⟩),
 co 89 (.binOp .lss 3 (tm 85) (tm 88) 3)]
def r113_19 : List Co := [
 co 92 (.fieldAddr 31 (tm 1) 3),
 co 93 (.load 28 (tm 92)),
 co 94 (.move (tm 7)),
 co 95 (.indexAddr 28 (tm 93) (tm 94)),
 co 96 (.load 100 (tm 95)),
 co 8 (.alloc 100),
 coz (.store 100 (tm 8) (tm 96))]
def r113_20 : List Co := [
 co 97 (.fieldAddr 100 (tm 8) 0),
 co 98 (.load 9 (tm 97)),
 co 99 (.call ⟨.value (.func 149), #[(tm 98)], #[9]⟩),
 co 100 (.unOp .not 4 (tm 99)),
 co 101 (.move (tm 100)),
 cog 102 (.fieldAddr 100 (tm 8) 0) 101 false,
 cog 103 (.load 9 (tm 102)) 101 false,
 cog 104 (.binOp .eql 9 (tm 103) (.const (.string ⟨#[]⟩)) 9) 101 false,
 co 105 (.pick (tm 101) (.const (.bool true)) (tm 104)),
 co 106 (.move (tm 105)),
 cog 107 (.fieldAddr 100 (tm 8) 1) 106 false,
 cog 108 (.load 37 (tm 107)) 106 false,
 cog 109 (.call ⟨.builtin .len, #[(tm 108)], #[37]⟩) 106 false,
 cog 110 (.binOp .lss 3 (tm 109) (.const (.int .i64 1)) 3) 106 false,
 co 111 (.pick (tm 106) (.const (.bool true)) (tm 110)),
 co 112 (.move (tm 111)),
 cog 113 (.fieldAddr 100 (tm 8) 1) 112 false,
 cog 114 (.load 37 (tm 113)) 112 false,
 cog 115 (.call ⟨.builtin .len, #[(tm 114)], #[37]⟩) 112 false,
 cog 116 (.binOp .gtr 3 (tm 115) (.const (.int .i64 200)) 3) 112 false,
 co 117 (.pick (tm 112) (.const (.bool true)) (tm 116))]
def r113_21 : List Co := [
 co 2 (.assign (.const (.bool false)))]
def r113_22 : List Co := [
 co 90 (.move (tm 7)),
 co 91 (.binOp .add 3 (tm 90) (.const (.int .i64 1)) 3),
 co 7 (.assign (tm 91))]
def l113_23 : Cc := (.seq (.seq (.reg r113_18) (.cond (tm 89) .skip (.exit 4))) (.seq (.block 5 (.seq (.reg r113_19) (.seq (.reg r113_20) (.cond (tm 117) (.seq (.reg r113_21) .ret) .skip)))) (.reg r113_22)))
def r113_24 : List Co := [
 co 9 (.assign (.const (.int .i64 0)))]
def r113_25 : List Co := [
 co 118 (.move (tm 9)),
 co 119 (.fieldAddr 31 (tm 1) 4),
 co 120 (.load 29 (tm 119)),
 co 121 (.call ⟨.builtin .len, #[(tm 120)], #[29]⟩),
 co 122 (.binOp .lss 3 (tm 118) (tm 121) 3)]
def r113_26 : List Co := [
 co 125 (.fieldAddr 31 (tm 1) 4),
 co 126 (.load 29 (tm 125)),
 co 127 (.move (tm 9)),
 co 128 (.indexAddr 29 (tm 126) (tm 127)),
 co 129 (.load 56 (tm 128)),
 co 10 (.alloc 56),
 coz (.store 56 (tm 10) (tm 129))]
def r113_27 : List Co := [
 co 130 (.fieldAddr 56 (tm 10) 1),
 co 131 (.load 3 (tm 130)),
 co 132 (.binOp .lss 3 (tm 131) (.const (.int .i64 0)) 3),
 co 133 (.move (tm 132)),
 cog 134 (.fieldAddr 56 (tm 10) 1) 133 false,
 cog 135 (.load 3 (tm 134)) 133 false,
 cog 136 (.fieldAddr 31 (tm 1) 1) 133 false,
 cog 137 (.load 26 (tm 136)) 133 false,
 cog 138 (.call ⟨.builtin .len, #[(tm 137)], #[26]⟩) 133 false,
 cog 139 (.binOp .geq 3 (tm 135) (tm 138) 3) 133 false,
 co 140 (.pick (tm 133) (.const (.bool true)) (tm 139)),
 co 141 (.move (tm 140)),
 cog 142 (.load 56 (tm 10)) 141 false,
 cog 143 (.fieldAddr 31 (tm 1) 1) 141 false,
 cog 144 (.load 26 (tm 143)) 141 false,
 cog 145 (.fieldAddr 56 (tm 10) 1) 141 false,
 cog 146 (.load 3 (tm 145)) 141 false,
 cog 147 (.indexAddr 26 (tm 144) (tm 146)) 141 false,
 cog 148 (.fieldAddr 82 (tm 147) 2) 141 false,
 cog 149 (.load 3 (tm 148)) 141 false,
 cog 150 (.call ⟨.value (.func 150), #[(tm 142), (tm 149)], #[56, 3]⟩) 141 false,
 cog 151 (.unOp .not 4 (tm 150)) 141 false,
 co 152 (.pick (tm 141) (.const (.bool true)) (tm 151))]
def r113_28 : List Co := [
 co 2 (.assign (.const (.bool false)))]
def r113_29 : List Co := [
 co 123 (.move (tm 9)),
 co 124 (.binOp .add 3 (tm 123) (.const (.int .i64 1)) 3),
 co 9 (.assign (tm 124))]
def l113_30 : Cc := (.seq (.seq (.reg r113_25) (.cond (tm 122) .skip (.exit 6))) (.seq (.block 7 (.seq (.reg r113_26) (.seq (.reg r113_27) (.cond (tm 152) (.seq (.reg r113_28) .ret) .skip)))) (.reg r113_29)))
def r113_31 : List Co := [
 co 2 (.assign (.const (.bool true)))]
def c113 : Cc := (.seq (.reg r113_0) (.seq (.seq (.reg r113_1) (.cond (tm 20) (.seq (.reg r113_2) .ret) .skip)) (.seq (.seq (.reg r113_3) (.block 0 (.loop l113_9))) (.seq (.seq (.reg r113_10) (.block 2 (.loop l113_16))) (.seq (.seq (.reg r113_17) (.block 4 (.loop l113_23))) (.seq (.seq (.reg r113_24) (.block 6 (.loop l113_30))) (.seq (.reg r113_31) .ret)))))))
def r116_0 : List Co := [
 co 2 (.assign (.const (.slice none 0 0)))]
def r116_1 : List Co := [
 co 3 (.move (tm 0)),
 co 4 (.binOp .eql 26 (tm 3) (.const (.slice none 0 0)) 26)]
def r116_2 : List Co := [
 co 2 (.assign (.const (.slice none 0 0)))]
def r116_3 : List Co := [
 co 5 (.buildSlice 26 0 #[]),
 co 6 (.move (tm 0)),
 co 7 (.call ⟨.builtin .append, #[(tm 5), (tm 6)], #[26, 26]⟩),
 co 2 (.assign (tm 7))]
def c116 : Cc := (.seq (.reg r116_0) (.seq (.seq (.reg r116_1) (.cond (tm 4) (.seq (.reg r116_2) .ret) .skip)) (.seq (.reg r116_3) .ret)))
def r117_0 : List Co := [
 co 2 (.assign (.const (.slice none 0 0)))]
def r117_1 : List Co := [
 co 3 (.move (tm 0)),
 co 4 (.binOp .eql 27 (tm 3) (.const (.slice none 0 0)) 27)]
def r117_2 : List Co := [
 co 2 (.assign (.const (.slice none 0 0)))]
def r117_3 : List Co := [
 co 5 (.buildSlice 27 0 #[]),
 co 6 (.move (tm 0)),
 co 7 (.call ⟨.builtin .append, #[(tm 5), (tm 6)], #[27, 27]⟩),
 co 2 (.assign (tm 7))]
def c117 : Cc := (.seq (.reg r117_0) (.seq (.seq (.reg r117_1) (.cond (tm 4) (.seq (.reg r117_2) .ret) .skip)) (.seq (.reg r117_3) .ret)))
def r118_0 : List Co := [
 co 2 (.assign (.const (.slice none 0 0)))]
def r118_1 : List Co := [
 co 3 (.move (tm 0)),
 co 4 (.binOp .eql 37 (tm 3) (.const (.slice none 0 0)) 37)]
def r118_2 : List Co := [
 co 2 (.assign (.const (.slice none 0 0)))]
def r118_3 : List Co := [
 co 5 (.buildSlice 37 0 #[]),
 co 6 (.move (tm 0)),
 co 7 (.call ⟨.builtin .append, #[(tm 5), (tm 6)], #[37, 37]⟩),
 co 2 (.assign (tm 7))]
def c118 : Cc := (.seq (.reg r118_0) (.seq (.seq (.reg r118_1) (.cond (tm 4) (.seq (.reg r118_2) .ret) .skip)) (.seq (.reg r118_3) .ret)))
def r119_0 : List Co := [
 co 2 (.assign (.const (.slice none 0 0)))]
def r119_1 : List Co := [
 co 3 (.move (tm 0)),
 co 4 (.binOp .eql 28 (tm 3) (.const (.slice none 0 0)) 28)]
def r119_2 : List Co := [
 co 2 (.assign (.const (.slice none 0 0)))]
def r119_3 : List Co := [
 co 5 (.buildSlice 28 0 #[]),
 co 6 (.move (tm 0)),
 co 7 (.call ⟨.builtin .append, #[(tm 5), (tm 6)], #[28, 28]⟩),
 co 2 (.assign (tm 7))]
def c119 : Cc := (.seq (.reg r119_0) (.seq (.seq (.reg r119_1) (.cond (tm 4) (.seq (.reg r119_2) .ret) .skip)) (.seq (.reg r119_3) .ret)))
def r120_0 : List Co := [
 co 2 (.assign (.const (.slice none 0 0)))]
def r120_1 : List Co := [
 co 3 (.move (tm 0)),
 co 4 (.binOp .eql 29 (tm 3) (.const (.slice none 0 0)) 29)]
def r120_2 : List Co := [
 co 2 (.assign (.const (.slice none 0 0)))]
def r120_3 : List Co := [
 co 5 (.buildSlice 29 0 #[]),
 co 6 (.move (tm 0)),
 co 7 (.call ⟨.builtin .append, #[(tm 5), (tm 6)], #[29, 29]⟩),
 co 2 (.assign (tm 7))]
def c120 : Cc := (.seq (.reg r120_0) (.seq (.seq (.reg r120_1) (.cond (tm 4) (.seq (.reg r120_2) .ret) .skip)) (.seq (.reg r120_3) .ret)))
def r141_0 : List Co := [
 co 4 (.assign (.const (.int .i64 0)))]
def r141_1 : List Co := [
 co 6 (.move (tm 0)),
 co 7 (.call ⟨.builtin .len, #[(tm 6)], #[26]⟩),
 co 8 (.move (.const (.int .i64 0)))]
def r141_2 : List Co := [
 co 9 (.binOp .lss 3 (tm 8) (tm 7) 3)]
def r141_3 : List Co := [
 co 10 (.move (tm 8)),
 co 5 (.assign (tm 10))]
def r141_4 : List Co := [
 co 11 (.move (tm 1)),
 co 12 (.move (tm 0)),
 co 13 (.move (tm 5)),
 co 14 (.indexAddr 26 (tm 12) (tm 13)),
 co 15 (.load 82 (tm 14)),
 co 16 (.call ⟨.value (tm 11), #[(tm 15)], #[82]⟩)]
def r141_5 : List Co := [
 co 17 (.move (tm 5)),
 co 4 (.assign (tm 17))]
def r141_6 : List Co := [
 co 18 (.binOp .add 3 (tm 8) (.const (.int .i64 1)) 3),
 co 8 (.move (tm 18))]
def l141_7 : Cc := (.seq (.reg r141_2) (.seq (.cond (tm 9) .skip (.exit 0)) (.seq (.block 1 (.seq (.reg r141_3) (.seq (.reg r141_4) (.cond (tm 16) (.seq (.reg r141_5) .ret) .skip)))) (.reg r141_6))))
def r141_8 : List Co := [
 co 4 (.assign (.const (.int .i64 (-1))))]
def c141 : Cc := (.seq (.reg r141_0) (.seq (.seq (.reg r141_1) (.block 0 (.loop l141_7))) (.seq (.reg r141_8) .ret)))
def r142_0 : List Co := [
 coi 3 (.box 82 (tm 0)),
 co 4 (.assign (.const (.bool false)))]
def r142_1 : List Co := [
 co 5 (.load 144 (tm 1)),
 co 6 (.load 82 (tm 2)),
 co 7 (.load 82 (tm 3)),
 co 8 (.call ⟨.value (tm 5), #[(tm 6), (tm 7)], #[82, 82]⟩),
 co 4 (.assign (tm 8))]
def c142 : Cc := (.seq (.reg r142_0) (.seq (.reg r142_1) .ret))
def r143_0 : List Co := [
 co 4 (.assign (.const (.int .i64 0)))]
def r143_1 : List Co := [
 co 6 (.move (tm 0)),
 co 7 (.call ⟨.builtin .len, #[(tm 6)], #[27]⟩),
 co 8 (.move (.const (.int .i64 0)))]
def r143_2 : List Co := [
 co 9 (.binOp .lss 3 (tm 8) (tm 7) 3)]
def r143_3 : List Co := [
 co 10 (.move (tm 8)),
 co 5 (.assign (tm 10))]
def r143_4 : List Co := [
 co 11 (.move (tm 1)),
 co 12 (.move (tm 0)),
 co 13 (.move (tm 5)),
 co 14 (.indexAddr 27 (tm 12) (tm 13)),
 co 15 (.load 97 (tm 14)),
 co 16 (.call ⟨.value (tm 11), #[(tm 15)], #[97]⟩)]
def r143_5 : List Co := [
 co 17 (.move (tm 5)),
 co 4 (.assign (tm 17))]
def r143_6 : List Co := [
 co 18 (.binOp .add 3 (tm 8) (.const (.int .i64 1)) 3),
 co 8 (.move (tm 18))]
def l143_7 : Cc := (.seq (.reg r143_2) (.seq (.cond (tm 9) .skip (.exit 0)) (.seq (.block 1 (.seq (.reg r143_3) (.seq (.reg r143_4) (.cond (tm 16) (.seq (.reg r143_5) .ret) .skip)))) (.reg r143_6))))
def r143_8 : List Co := [
 co 4 (.assign (.const (.int .i64 (-1))))]
def c143 : Cc := (.seq (.reg r143_0) (.seq (.seq (.reg r143_1) (.block 0 (.loop l143_7))) (.seq (.reg r143_8) .ret)))
def r144_0 : List Co := [
 coi 3 (.box 97 (tm 0)),
 co 4 (.assign (.const (.bool false)))]
def r144_1 : List Co := [
 co 5 (.load 147 (tm 1)),
 co 6 (.load 97 (tm 2)),
 co 7 (.load 97 (tm 3)),
 co 8 (.call ⟨.value (tm 5), #[(tm 6), (tm 7)], #[97, 97]⟩),
 co 4 (.assign (tm 8))]
def c144 : Cc := (.seq (.reg r144_0) (.seq (.reg r144_1) .ret))
def r145_0 : List Co := [
 co 4 (.assign (.const (.int .i64 0)))]
def r145_1 : List Co := [
 co 6 (.move (tm 0)),
 co 7 (.call ⟨.builtin .len, #[(tm 6)], #[28]⟩),
 co 8 (.move (.const (.int .i64 0)))]
def r145_2 : List Co := [
 co 9 (.binOp .lss 3 (tm 8) (tm 7) 3)]
def r145_3 : List Co := [
 co 10 (.move (tm 8)),
 co 5 (.assign (tm 10))]
def r145_4 : List Co := [
 co 11 (.move (tm 1)),
 co 12 (.move (tm 0)),
 co 13 (.move (tm 5)),
 co 14 (.indexAddr 28 (tm 12) (tm 13)),
 co 15 (.load 100 (tm 14)),
 co 16 (.call ⟨.value (tm 11), #[(tm 15)], #[100]⟩)]
def r145_5 : List Co := [
 co 17 (.move (tm 5)),
 co 4 (.assign (tm 17))]
def r145_6 : List Co := [
 co 18 (.binOp .add 3 (tm 8) (.const (.int .i64 1)) 3),
 co 8 (.move (tm 18))]
def l145_7 : Cc := (.seq (.reg r145_2) (.seq (.cond (tm 9) .skip (.exit 0)) (.seq (.block 1 (.seq (.reg r145_3) (.seq (.reg r145_4) (.cond (tm 16) (.seq (.reg r145_5) .ret) .skip)))) (.reg r145_6))))
def r145_8 : List Co := [
 co 4 (.assign (.const (.int .i64 (-1))))]
def c145 : Cc := (.seq (.reg r145_0) (.seq (.seq (.reg r145_1) (.block 0 (.loop l145_7))) (.seq (.reg r145_8) .ret)))
def r146_0 : List Co := [
 coi 3 (.box 100 (tm 0)),
 co 4 (.assign (.const (.bool false)))]
def r146_1 : List Co := [
 co 5 (.load 150 (tm 1)),
 co 6 (.load 100 (tm 2)),
 co 7 (.load 100 (tm 3)),
 co 8 (.call ⟨.value (tm 5), #[(tm 6), (tm 7)], #[100, 100]⟩),
 co 4 (.assign (tm 8))]
def c146 : Cc := (.seq (.reg r146_0) (.seq (.reg r146_1) .ret))
def r147_0 : List Co := [
 co 4 (.assign (.const (.bool false)))]
def r147_1 : List Co := [
 co 5 (.move (tm 0)),
 co 6 (.move (tm 1)),
 co 7 (.call ⟨.value (.func 173), #[(tm 5), (tm 6)], #[37, 187]⟩),
 co 8 (.binOp .geq 3 (tm 7) (.const (.int .i64 0)) 3),
 co 4 (.assign (tm 8))]
def c147 : Cc := (.seq (.reg r147_0) (.seq (.reg r147_1) .ret))
def r148_0 : List Co := [
 co 2 (.assign (.const (.bool false)))]
def r148_1 : List Co := [
 co 3 (.move (tm 0)),
 co 4 (.binOp .lss 5 (tm 3) (.const (.int .u8 32)) 5),
 co 5 (.move (tm 4)),
 cog 6 (.move (tm 0)) 5 false,
 cog 7 (.binOp .gtr 5 (tm 6) (.const (.int .u8 126)) 5) 5 false,
 co 8 (.pick (tm 5) (.const (.bool true)) (tm 7)),
 co 2 (.assign (tm 8))]
def c148 : Cc := (.seq (.reg r148_0) (.seq (.reg r148_1) .ret))
def r149_0 : List Co := [
 co 2 (.assign (.const (.bool false)))]
def r149_1 : List Co := [
 co 3 (.assign (.const (.int .i64 0)))]
def r149_2 : List Co := [
 co 4 (.move (tm 3)),
 co 5 (.move (tm 0)),
 co 6 (.call ⟨.builtin .len, #[(tm 5)], #[9]⟩),
 co 7 (.binOp .lss 3 (tm 4) (tm 6) 3)]
def r149_3 : List Co := [
 co 10 (.move (tm 0)),
 co 11 (.move (tm 3)),
 co 12 (.index 9 (tm 10) (tm 11)),
 co 13 (.binOp .lss 5 (tm 12) (.const (.int .u8 32)) 5),
 co 14 (.move (tm 13)),
 cog 15 (.move (tm 0)) 14 false,
 cog 16 (.move (tm 3)) 14 false,
 cog 17 (.index 9 (tm 15) (tm 16)) 14 false,
 cog 18 (.binOp .gtr 5 (tm 17) (.const (.int .u8 126)) 5) 14 false,
 co 19 (.pick (tm 14) (.const (.bool true)) (tm 18))]
def r149_4 : List Co := [
 co 2 (.assign (.const (.bool false)))]
def r149_5 : List Co := [
 co 8 (.move (tm 3)),
 co 9 (.binOp .add 3 (tm 8) (.const (.int .i64 1)) 3),
 co 3 (.assign (tm 9))]
def l149_6 : Cc := (.seq (.seq (.reg r149_2) (.cond (tm 7) .skip (.exit 0))) (.seq (.block 1 (.seq (.reg r149_3) (.cond (tm 19) (.seq (.reg r149_4) .ret) .skip))) (.reg r149_5)))
def r149_7 : List Co := [
 co 20 (.move (tm 0)),
 co 21 (.call ⟨.builtin .len, #[(tm 20)], #[9]⟩),
 co 22 (.binOp .leq 3 (tm 21) (.const (.int .i64 200)) 3),
 co 2 (.assign (tm 22))]
def c149 : Cc := (.seq (.reg r149_0) (.seq (.seq (.reg r149_1) (.block 0 (.loop l149_6))) (.seq (.reg r149_7) .ret)))
def r150_0 : List Co := [
 coi 2 (.box 56 (tm 0)),
 co 4 (.assign (.const (.bool false)))]
def r150_1 : List Co := [
 co 5 (.fieldAddr 56 (tm 2) 0),
 co 6 (.load 3 (tm 5)),
 co 7 (.binOp .lss 3 (tm 6) (.const (.int .i64 0)) 3),
 co 8 (.move (tm 7)),
 cog 9 (.fieldAddr 56 (tm 2) 0) 8 false,
 cog 10 (.load 3 (tm 9)) 8 false,
 cog 11 (.binOp .gtr 3 (tm 10) (.const (.int .i64 1000000000000000)) 3) 8 false,
 co 12 (.pick (tm 8) (.const (.bool true)) (tm 11)),
 co 13 (.move (tm 12)),
 cog 14 (.fieldAddr 56 (tm 2) 4) 13 false,
 cog 15 (.load 9 (tm 14)) 13 false,
 cog 16 (.call ⟨.value (.func 149), #[(tm 15)], #[9]⟩) 13 false,
 cog 17 (.unOp .not 4 (tm 16)) 13 false,
 co 18 (.pick (tm 13) (.const (.bool true)) (tm 17)),
 co 19 (.move (tm 18)),
 cog 20 (.fieldAddr 56 (tm 2) 3) 19 false,
 cog 21 (.load 37 (tm 20)) 19 false,
 cog 22 (.call ⟨.builtin .len, #[(tm 21)], #[37]⟩) 19 false,
 cog 23 (.binOp .gtr 3 (tm 22) (.const (.int .i64 400)) 3) 19 false,
 co 24 (.pick (tm 19) (.const (.bool true)) (tm 23))]
def r150_2 : List Co := [
 co 4 (.assign (.const (.bool false)))]
def r150_3 : List Co := [
 co 25 (.move (tm 1)),
 co 26 (.binOp .eql 3 (tm 25) (.const (.int .i64 0)) 3),
 co 27 (.move (tm 26)),
 cog 28 (.fieldAddr 56 (tm 2) 3) 27 false,
 cog 29 (.load 37 (tm 28)) 27 false,
 cog 30 (.call ⟨.builtin .len, #[(tm 29)], #[37]⟩) 27 false,
 cog 31 (.move (tm 1)) 27 false,
 cog 32 (.binOp .leq 3 (tm 30) (tm 31) 3) 27 false,
 co 33 (.pick (tm 27) (.const (.bool true)) (tm 32)),
 co 34 (.move (tm 33)),
 cog 35 (.fieldAddr 56 (tm 2) 2) 34 true,
 cog 36 (.load 3 (tm 35)) 34 true,
 cog 37 (.fieldAddr 56 (tm 2) 3) 34 true,
 cog 38 (.load 37 (tm 37)) 34 true,
 cog 39 (.call ⟨.builtin .len, #[(tm 38)], #[37]⟩) 34 true,
 cog 40 (.binOp .geq 3 (tm 36) (tm 39) 3) 34 true,
 co 41 (.pick (tm 34) (tm 40) (.const (.bool false))),
 co 42 (.move (tm 41)),
 cog 43 (.fieldAddr 56 (tm 2) 2) 42 true,
 cog 44 (.load 3 (tm 43)) 42 true,
 cog 45 (.binOp .leq 3 (tm 44) (.const (.int .i64 1000000)) 3) 42 true,
 co 46 (.pick (tm 42) (tm 45) (.const (.bool false))),
 co 4 (.assign (tm 46))]
def c150 : Cc := (.seq (.reg r150_0) (.seq (.seq (.reg r150_1) (.cond (tm 24) (.seq (.reg r150_2) .ret) .skip)) (.seq (.reg r150_3) .ret)))
def r173_0 : List Co := [
 co 4 (.assign (.const (.int .i64 0)))]
def r173_1 : List Co := [
 co 6 (.move (tm 0)),
 co 7 (.call ⟨.builtin .len, #[(tm 6)], #[37]⟩),
 co 8 (.move (.const (.int .i64 0)))]
def r173_2 : List Co := [
 co 9 (.binOp .lss 3 (tm 8) (tm 7) 3)]
def r173_3 : List Co := [
 co 10 (.move (tm 8)),
 co 5 (.assign (tm 10))]
def r173_4 : List Co := [
 co 11 (.move (tm 1)),
 co 12 (.move (tm 0)),
 co 13 (.move (tm 5)),
 co 14 (.indexAddr 37 (tm 12) (tm 13)),
 co 15 (.load 5 (tm 14)),
 co 16 (.call ⟨.value (tm 11), #[(tm 15)], #[5]⟩)]
def r173_5 : List Co := [
 co 17 (.move (tm 5)),
 co 4 (.assign (tm 17))]
def r173_6 : List Co := [
 co 18 (.binOp .add 3 (tm 8) (.const (.int .i64 1)) 3),
 co 8 (.move (tm 18))]
def l173_7 : Cc := (.seq (.reg r173_2) (.seq (.cond (tm 9) .skip (.exit 0)) (.seq (.block 1 (.seq (.reg r173_3) (.seq (.reg r173_4) (.cond (tm 16) (.seq (.reg r173_5) .ret) .skip)))) (.reg r173_6))))
def r173_8 : List Co := [
 co 4 (.assign (.const (.int .i64 (-1))))]
def c173 : Cc := (.seq (.reg r173_0) (.seq (.seq (.reg r173_1) (.block 0 (.loop l173_7))) (.seq (.reg r173_8) .ret)))
@[go_sem] theorem kp3 (v : V) : demK 3 v = v.dem := rfl
def rs3 : List ResultVar := [.tmp 4]
theorem gc3 (H : Hp) (r : V × Hp) : pr.gc 3 H r = gcF H r := gcOne rfl H r
set_option maxRecDepth 100000 in
theorem ex3 : ExP 3 39 c3 rs3 := @fun _ _ _ ha h => call_ex (fn := Try.f3) rfl Try.func3 rfl (by kernel_rfl) rfl (Nat.max_eq_right ha) h
theorem run3 : RunP 3 39 c3 rs3 := @fun _ _ _ ha h => run_of ex3 ha h
@[go_sem] theorem kp14 (v : V) : demK 14 v = v.dem := rfl
def rs14 : List ResultVar := [.tmp 2]
theorem gc14 (H : Hp) (r : V × Hp) : pr.gc 14 H r = gcF H r := gcOne rfl H r
set_option maxRecDepth 100000 in
theorem ex14 : ExP 14 20 c14 rs14 := @fun _ _ _ ha h => call_ex (fn := Try.f14) rfl Try.func14 rfl (by kernel_rfl) rfl (Nat.max_eq_right ha) h
theorem run14 : RunP 14 20 c14 rs14 := @fun _ _ _ ha h => run_of ex14 ha h
@[go_sem] theorem kp16 (v : V) : demK 16 v = v.dem := rfl
def rs16 : List ResultVar := [.cell 4 31, .tmp 5]
theorem gc16 (H : Hp) (r : V × Hp) : pr.gc 16 H r = gcF H r := gcOne rfl H r
set_option maxRecDepth 100000 in
theorem ex16 : ExP 16 138 c16 rs16 := @fun _ _ _ ha h => call_ex (fn := Try.f16) rfl Try.func16 rfl (by kernel_rfl) rfl (Nat.max_eq_right ha) h
theorem run16 : RunP 16 138 c16 rs16 := @fun _ _ _ ha h => run_of ex16 ha h
@[go_sem] theorem kp17 (v : V) : demK 17 v = v.dem := rfl
def rs17 : List ResultVar := [.cell 4 31, .tmp 5]
theorem gc17 (H : Hp) (r : V × Hp) : pr.gc 17 H r = gcF H r := gcOne rfl H r
set_option maxRecDepth 100000 in
theorem ex17 : ExP 17 209 c17 rs17 := @fun _ _ _ ha h => call_ex (fn := Try.f17) rfl Try.func17 rfl (by kernel_rfl) rfl (Nat.max_eq_right ha) h
theorem run17 : RunP 17 209 c17 rs17 := @fun _ _ _ ha h => run_of ex17 ha h
@[go_sem] theorem kp18 (v : V) : demK 18 v = v.dem := rfl
def rs18 : List ResultVar := [.tmp 4]
theorem gc18 (H : Hp) (r : V × Hp) : pr.gc 18 H r = gcF H r := gcOne rfl H r
set_option maxRecDepth 100000 in
theorem ex18 : ExB 18 159 c18 rs18 := @fun _ _ _ ha h => callB_ex (fn := Try.f18) Try.func18 rfl (by kernel_rfl) rfl (Nat.max_eq_right ha) h
theorem run18 : RunB 18 159 c18 rs18 := @fun _ _ _ ha h => runB_of ex18 ha h
@[go_sem] theorem kp21 (v : V) : demK 21 v = v.dem := rfl
def rs21 : List ResultVar := [.tmp 2]
theorem gc21 (H : Hp) (r : V × Hp) : pr.gc 21 H r = gcF H r := gcOne rfl H r
set_option maxRecDepth 100000 in
theorem ex21 : ExP 21 117 c21 rs21 := @fun _ _ _ ha h => call_ex (fn := Try.f21) rfl Try.func21 rfl (by kernel_rfl) rfl (Nat.max_eq_right ha) h
theorem run21 : RunP 21 117 c21 rs21 := @fun _ _ _ ha h => run_of ex21 ha h
@[go_sem] theorem kp46 (v : V) : demK 46 v = v.dem := rfl
def rs46 : List ResultVar := [.cell 4 31, .tmp 5]
theorem gc46 (H : Hp) (r : V × Hp) : pr.gc 46 H r = gcF H r := gcOne rfl H r
set_option maxRecDepth 100000 in
theorem ex46 : ExP 46 11 c46 rs46 := @fun _ _ _ ha h => call_ex (fn := Try.f46) rfl Try.func46 rfl (by kernel_rfl) rfl (Nat.max_eq_right ha) h
theorem run46 : RunP 46 11 c46 rs46 := @fun _ _ _ ha h => run_of ex46 ha h
@[go_sem] theorem kp54 (v : V) : demK 54 v = v.dem := rfl
def rs54 : List ResultVar := [.tmp 2]
theorem gc54 (H : Hp) (r : V × Hp) : pr.gc 54 H r = gcF H r := gcOne rfl H r
set_option maxRecDepth 100000 in
theorem ex54 : ExP 54 18 c54 rs54 := @fun _ _ _ ha h => call_ex (fn := Try.f54) rfl Try.func54 rfl (by kernel_rfl) rfl (Nat.max_eq_right ha) h
theorem run54 : RunP 54 18 c54 rs54 := @fun _ _ _ ha h => run_of ex54 ha h
@[go_sem] theorem kp55 (v : V) : demK 55 v = v.dem := rfl
def rs55 : List ResultVar := []
@[go_sem] theorem gc55 (H : Hp) (r : V × Hp) : pr.gc 55 H r = r := gcZero rfl H r
set_option maxRecDepth 100000 in
theorem ex55 : ExP 55 114 c55 rs55 := @fun _ _ _ ha h => call_ex (fn := Try.f55) rfl Try.func55 rfl (by kernel_rfl) rfl (Nat.max_eq_right ha) h
theorem run55 : RunP 55 114 c55 rs55 := @fun _ _ _ ha h => run_of ex55 ha h
@[go_sem] theorem kp56 (v : V) : demK 56 v = v.dem := rfl
def rs56 : List ResultVar := [.tmp 2]
theorem gc56 (H : Hp) (r : V × Hp) : pr.gc 56 H r = gcF H r := gcOne rfl H r
set_option maxRecDepth 100000 in
theorem ex56 : ExB 56 67 c56 rs56 := @fun _ _ _ ha h => callB_ex (fn := Try.f56) Try.func56 rfl (by kernel_rfl) rfl (Nat.max_eq_right ha) h
theorem run56 : RunB 56 67 c56 rs56 := @fun _ _ _ ha h => runB_of ex56 ha h
@[go_sem] theorem kp57 (v : V) : demK 57 v = v.dem := rfl
def rs57 : List ResultVar := [.tmp 2]
theorem gc57 (H : Hp) (r : V × Hp) : pr.gc 57 H r = gcF H r := gcOne rfl H r
set_option maxRecDepth 100000 in
theorem ex57 : ExB 57 103 c57 rs57 := @fun _ _ _ ha h => callB_ex (fn := Try.f57) Try.func57 rfl (by kernel_rfl) rfl (Nat.max_eq_right ha) h
theorem run57 : RunB 57 103 c57 rs57 := @fun _ _ _ ha h => runB_of ex57 ha h
@[go_sem] theorem kp58 (v : V) : demK 58 v = v.dem := rfl
def rs58 : List ResultVar := [.tmp 2]
theorem gc58 (H : Hp) (r : V × Hp) : pr.gc 58 H r = gcF H r := gcOne rfl H r
set_option maxRecDepth 100000 in
theorem ex58 : ExP 58 19 c58 rs58 := @fun _ _ _ ha h => call_ex (fn := Try.f58) rfl Try.func58 rfl (by kernel_rfl) rfl (Nat.max_eq_right ha) h
theorem run58 : RunP 58 19 c58 rs58 := @fun _ _ _ ha h => run_of ex58 ha h
@[go_sem] theorem kp59 (v : V) : demK 59 v = v.dem := rfl
def rs59 : List ResultVar := [.tmp 4, .tmp 5]
@[go_sem] theorem gc59 (H : Hp) (r : V × Hp) : pr.gc 59 H r = r := gcZero rfl H r
set_option maxRecDepth 100000 in
theorem ex59 : ExP 59 27 c59 rs59 := @fun _ _ _ ha h => call_ex (fn := Try.f59) rfl Try.func59 rfl (by kernel_rfl) rfl (Nat.max_eq_right ha) h
theorem run59 : RunP 59 27 c59 rs59 := @fun _ _ _ ha h => run_of ex59 ha h
@[go_sem] theorem kp60 (v : V) : demK 60 v = v.dem := rfl
def rs60 : List ResultVar := [.tmp 4]
@[go_sem] theorem gc60 (H : Hp) (r : V × Hp) : pr.gc 60 H r = r := gcZero rfl H r
set_option maxRecDepth 100000 in
theorem ex60 : ExP 60 42 c60 rs60 := @fun _ _ _ ha h => call_ex (fn := Try.f60) rfl Try.func60 rfl (by kernel_rfl) rfl (Nat.max_eq_right ha) h
theorem run60 : RunP 60 42 c60 rs60 := @fun _ _ _ ha h => run_of ex60 ha h
@[go_sem] theorem kp61 (v : V) : demK 61 v = v.dem := rfl
def rs61 : List ResultVar := [.tmp 4]
@[go_sem] theorem gc61 (H : Hp) (r : V × Hp) : pr.gc 61 H r = r := gcZero rfl H r
set_option maxRecDepth 100000 in
theorem ex61 : ExP 61 42 c61 rs61 := @fun _ _ _ ha h => call_ex (fn := Try.f61) rfl Try.func61 rfl (by kernel_rfl) rfl (Nat.max_eq_right ha) h
theorem run61 : RunP 61 42 c61 rs61 := @fun _ _ _ ha h => run_of ex61 ha h
@[go_sem] theorem kp62 (v : V) : demK 62 v = v.dem := rfl
def rs62 : List ResultVar := [.tmp 4, .tmp 5]
theorem gc62 (H : Hp) (r : V × Hp) : pr.gc 62 H r = gcF H r := gcOne rfl H r
set_option maxRecDepth 100000 in
theorem ex62 : ExP 62 22 c62 rs62 := @fun _ _ _ ha h => call_ex (fn := Try.f62) rfl Try.func62 rfl (by kernel_rfl) rfl (Nat.max_eq_right ha) h
theorem run62 : RunP 62 22 c62 rs62 := @fun _ _ _ ha h => run_of ex62 ha h
@[go_sem] theorem kp63 (v : V) : demK 63 v = v.dem := rfl
def rs63 : List ResultVar := [.tmp 2]
theorem gc63 (H : Hp) (r : V × Hp) : pr.gc 63 H r = gcF H r := gcOne rfl H r
set_option maxRecDepth 100000 in
theorem ex63 : ExB 63 28 c63 rs63 := @fun _ _ _ ha h => callB_ex (fn := Try.f63) Try.func63 rfl (by kernel_rfl) rfl (Nat.max_eq_right ha) h
theorem run63 : RunB 63 28 c63 rs63 := @fun _ _ _ ha h => runB_of ex63 ha h
@[go_sem] theorem kp64 (v : V) : demK 64 v = v.dem := rfl
def rs64 : List ResultVar := [.tmp 4]
theorem gc64 (H : Hp) (r : V × Hp) : pr.gc 64 H r = gcF H r := gcOne rfl H r
set_option maxRecDepth 100000 in
theorem ex64 : ExP 64 10 c64 rs64 := @fun _ _ _ ha h => call_ex (fn := Try.f64) rfl Try.func64 rfl (by kernel_rfl) rfl (Nat.max_eq_right ha) h
theorem run64 : RunP 64 10 c64 rs64 := @fun _ _ _ ha h => run_of ex64 ha h
@[go_sem] theorem kp65 (v : V) : demK 65 v = v.dem := rfl
def rs65 : List ResultVar := [.tmp 4]
theorem gc65 (H : Hp) (r : V × Hp) : pr.gc 65 H r = gcF H r := gcOne rfl H r
set_option maxRecDepth 100000 in
theorem ex65 : ExP 65 38 c65 rs65 := @fun _ _ _ ha h => call_ex (fn := Try.f65) rfl Try.func65 rfl (by kernel_rfl) rfl (Nat.max_eq_right ha) h
theorem run65 : RunP 65 38 c65 rs65 := @fun _ _ _ ha h => run_of ex65 ha h
@[go_sem] theorem kp68 (v : V) : demK 68 v = v.dem := rfl
def rs68 : List ResultVar := [.tmp 2]
theorem gc68 (H : Hp) (r : V × Hp) : pr.gc 68 H r = gcF H r := gcOne rfl H r
set_option maxRecDepth 100000 in
theorem ex68 : ExP 68 9 c68 rs68 := @fun _ _ _ ha h => call_ex (fn := Try.f68) rfl Try.func68 rfl (by kernel_rfl) rfl (Nat.max_eq_right ha) h
theorem run68 : RunP 68 9 c68 rs68 := @fun _ _ _ ha h => run_of ex68 ha h
@[go_sem] theorem kp71 (v : V) : demK 71 v = v.dem := rfl
def rs71 : List ResultVar := [.tmp 4]
theorem gc71 (H : Hp) (r : V × Hp) : pr.gc 71 H r = gcF H r := gcOne rfl H r
set_option maxRecDepth 100000 in
theorem ex71 : ExP 71 26 c71 rs71 := @fun _ _ _ ha h => call_ex (fn := Try.f71) rfl Try.func71 rfl (by kernel_rfl) rfl (Nat.max_eq_right ha) h
theorem run71 : RunP 71 26 c71 rs71 := @fun _ _ _ ha h => run_of ex71 ha h
@[go_sem] theorem kp72 (v : V) : demK 72 v = v.dem := rfl
def rs72 : List ResultVar := [.tmp 2]
theorem gc72 (H : Hp) (r : V × Hp) : pr.gc 72 H r = gcF H r := gcOne rfl H r
set_option maxRecDepth 100000 in
theorem ex72 : ExP 72 9 c72 rs72 := @fun _ _ _ ha h => call_ex (fn := Try.f72) rfl Try.func72 rfl (by kernel_rfl) rfl (Nat.max_eq_right ha) h
theorem run72 : RunP 72 9 c72 rs72 := @fun _ _ _ ha h => run_of ex72 ha h
@[go_sem] theorem kp74 (v : V) : demK 74 v = v.dem := rfl
def rs74 : List ResultVar := [.cell 2 31]
@[go_sem] theorem gc74 (H : Hp) (r : V × Hp) : pr.gc 74 H r = r := gcZero rfl H r
set_option maxRecDepth 100000 in
theorem ex74 : ExP 74 77 c74 rs74 := @fun _ _ _ ha h => call_ex (fn := Try.f74) rfl Try.func74 rfl (by kernel_rfl) rfl (Nat.max_eq_right ha) h
theorem run74 : RunP 74 77 c74 rs74 := @fun _ _ _ ha h => run_of ex74 ha h
@[go_sem] theorem kp76 (v : V) : demK 76 v = v.dem := rfl
def rs76 : List ResultVar := [.cell 4 31]
theorem gc76 (H : Hp) (r : V × Hp) : pr.gc 76 H r = gcF H r := gcOne rfl H r
set_option maxRecDepth 100000 in
theorem ex76 : ExP 76 8 c76 rs76 := @fun _ _ _ ha h => call_ex (fn := Try.f76) rfl Try.func76 rfl (by kernel_rfl) rfl (Nat.max_eq_right ha) h
theorem run76 : RunP 76 8 c76 rs76 := @fun _ _ _ ha h => run_of ex76 ha h
@[go_sem] theorem kp91 (v : V) : demK 91 v = v.dem := rfl
def rs91 : List ResultVar := [.cell 4 31, .tmp 5]
theorem gc91 (H : Hp) (r : V × Hp) : pr.gc 91 H r = gcF H r := gcOne rfl H r
set_option maxRecDepth 100000 in
theorem ex91 : ExP 91 47 c91 rs91 := @fun _ _ _ ha h => call_ex (fn := Try.f91) rfl Try.func91 rfl (by kernel_rfl) rfl (Nat.max_eq_right ha) h
theorem run91 : RunP 91 47 c91 rs91 := @fun _ _ _ ha h => run_of ex91 ha h
@[go_sem] theorem kp92 (v : V) : demK 92 v = v.dem := rfl
def rs92 : List ResultVar := [.tmp 3, .tmp 4]
theorem gc92 (H : Hp) (r : V × Hp) : pr.gc 92 H r = gcF H r := gcOne rfl H r
set_option maxRecDepth 100000 in
theorem ex92 : ExP 92 10 c92 rs92 := @fun _ _ _ ha h => call_ex (fn := Try.f92) rfl Try.func92 rfl (by kernel_rfl) rfl (Nat.max_eq_right ha) h
theorem run92 : RunP 92 10 c92 rs92 := @fun _ _ _ ha h => run_of ex92 ha h
@[go_sem] theorem kp93 (v : V) : demK 93 v = v.dem := rfl
def rs93 : List ResultVar := [.tmp 4, .tmp 5]
theorem gc93 (H : Hp) (r : V × Hp) : pr.gc 93 H r = gcF H r := gcOne rfl H r
set_option maxRecDepth 100000 in
theorem ex93 : ExP 93 19 c93 rs93 := @fun _ _ _ ha h => call_ex (fn := Try.f93) rfl Try.func93 rfl (by kernel_rfl) rfl (Nat.max_eq_right ha) h
theorem run93 : RunP 93 19 c93 rs93 := @fun _ _ _ ha h => run_of ex93 ha h
@[go_sem] theorem kp100 (v : V) : demK 100 v = v.dem := rfl
def rs100 : List ResultVar := [.tmp 6, .tmp 7]
@[go_sem] theorem gc100 (H : Hp) (r : V × Hp) : pr.gc 100 H r = r := gcZero rfl H r
set_option maxRecDepth 100000 in
theorem ex100 : ExP 100 22 c100 rs100 := @fun _ _ _ ha h => call_ex (fn := Try.f100) rfl Try.func100 rfl (by kernel_rfl) rfl (Nat.max_eq_right ha) h
theorem run100 : RunP 100 22 c100 rs100 := @fun _ _ _ ha h => run_of ex100 ha h
@[go_sem] theorem kp101 (v : V) : demK 101 v = v.dem := rfl
def rs101 : List ResultVar := [.tmp 4]
theorem gc101 (H : Hp) (r : V × Hp) : pr.gc 101 H r = gcF H r := gcOne rfl H r
set_option maxRecDepth 100000 in
theorem ex101 : ExP 101 8 c101 rs101 := @fun _ _ _ ha h => call_ex (fn := Try.f101) rfl Try.func101 rfl (by kernel_rfl) rfl (Nat.max_eq_right ha) h
theorem run101 : RunP 101 8 c101 rs101 := @fun _ _ _ ha h => run_of ex101 ha h
@[go_sem] theorem kp102 (v : V) : demK 102 v = v.dem := rfl
def rs102 : List ResultVar := [.tmp 6, .tmp 7]
@[go_sem] theorem gc102 (H : Hp) (r : V × Hp) : pr.gc 102 H r = r := gcZero rfl H r
set_option maxRecDepth 100000 in
theorem ex102 : ExP 102 22 c102 rs102 := @fun _ _ _ ha h => call_ex (fn := Try.f102) rfl Try.func102 rfl (by kernel_rfl) rfl (Nat.max_eq_right ha) h
theorem run102 : RunP 102 22 c102 rs102 := @fun _ _ _ ha h => run_of ex102 ha h
@[go_sem] theorem kp103 (v : V) : demK 103 v = v.dem := rfl
def rs103 : List ResultVar := [.tmp 4]
theorem gc103 (H : Hp) (r : V × Hp) : pr.gc 103 H r = gcF H r := gcOne rfl H r
set_option maxRecDepth 100000 in
theorem ex103 : ExP 103 17 c103 rs103 := @fun _ _ _ ha h => call_ex (fn := Try.f103) rfl Try.func103 rfl (by kernel_rfl) rfl (Nat.max_eq_right ha) h
theorem run103 : RunP 103 17 c103 rs103 := @fun _ _ _ ha h => run_of ex103 ha h
@[go_sem] theorem kp104 (v : V) : demK 104 v = v.dem := rfl
def rs104 : List ResultVar := [.tmp 6, .tmp 7]
@[go_sem] theorem gc104 (H : Hp) (r : V × Hp) : pr.gc 104 H r = r := gcZero rfl H r
set_option maxRecDepth 100000 in
theorem ex104 : ExP 104 22 c104 rs104 := @fun _ _ _ ha h => call_ex (fn := Try.f104) rfl Try.func104 rfl (by kernel_rfl) rfl (Nat.max_eq_right ha) h
theorem run104 : RunP 104 22 c104 rs104 := @fun _ _ _ ha h => run_of ex104 ha h
@[go_sem] theorem kp105 (v : V) : demK 105 v = v.dem := rfl
def rs105 : List ResultVar := [.tmp 4]
theorem gc105 (H : Hp) (r : V × Hp) : pr.gc 105 H r = gcF H r := gcOne rfl H r
set_option maxRecDepth 100000 in
theorem ex105 : ExP 105 17 c105 rs105 := @fun _ _ _ ha h => call_ex (fn := Try.f105) rfl Try.func105 rfl (by kernel_rfl) rfl (Nat.max_eq_right ha) h
theorem run105 : RunP 105 17 c105 rs105 := @fun _ _ _ ha h => run_of ex105 ha h
@[go_sem] theorem kp106 (v : V) : demK 106 v = v.dem := rfl
def rs106 : List ResultVar := [.tmp 2]
theorem gc106 (H : Hp) (r : V × Hp) : pr.gc 106 H r = gcF H r := gcOne rfl H r
set_option maxRecDepth 100000 in
theorem ex106 : ExP 106 12 c106 rs106 := @fun _ _ _ ha h => call_ex (fn := Try.f106) rfl Try.func106 rfl (by kernel_rfl) rfl (Nat.max_eq_right ha) h
theorem run106 : RunP 106 12 c106 rs106 := @fun _ _ _ ha h => run_of ex106 ha h
@[go_sem] theorem kp107 (v : V) : demK 107 v = v.dem := rfl
def rs107 : List ResultVar := [.tmp 2]
theorem gc107 (H : Hp) (r : V × Hp) : pr.gc 107 H r = gcF H r := gcOne rfl H r
set_option maxRecDepth 100000 in
theorem ex107 : ExP 107 26 c107 rs107 := @fun _ _ _ ha h => call_ex (fn := Try.f107) rfl Try.func107 rfl (by kernel_rfl) rfl (Nat.max_eq_right ha) h
theorem run107 : RunP 107 26 c107 rs107 := @fun _ _ _ ha h => run_of ex107 ha h
@[go_sem] theorem kp108 (v : V) : demK 108 v = v.dem := rfl
def rs108 : List ResultVar := [.tmp 2]
theorem gc108 (H : Hp) (r : V × Hp) : pr.gc 108 H r = gcF H r := gcOne rfl H r
set_option maxRecDepth 100000 in
theorem ex108 : ExP 108 18 c108 rs108 := @fun _ _ _ ha h => call_ex (fn := Try.f108) rfl Try.func108 rfl (by kernel_rfl) rfl (Nat.max_eq_right ha) h
theorem run108 : RunP 108 18 c108 rs108 := @fun _ _ _ ha h => run_of ex108 ha h
@[go_sem] theorem kp109 (v : V) : demK 109 v = v.dem := rfl
def rs109 : List ResultVar := [.tmp 2]
theorem gc109 (H : Hp) (r : V × Hp) : pr.gc 109 H r = gcF H r := gcOne rfl H r
set_option maxRecDepth 100000 in
theorem ex109 : ExP 109 23 c109 rs109 := @fun _ _ _ ha h => call_ex (fn := Try.f109) rfl Try.func109 rfl (by kernel_rfl) rfl (Nat.max_eq_right ha) h
theorem run109 : RunP 109 23 c109 rs109 := @fun _ _ _ ha h => run_of ex109 ha h
@[go_sem] theorem kp110 (v : V) : demK 110 v = v.dem := rfl
def rs110 : List ResultVar := [.tmp 4]
theorem gc110 (H : Hp) (r : V × Hp) : pr.gc 110 H r = gcF H r := gcOne rfl H r
set_option maxRecDepth 100000 in
theorem ex110 : ExP 110 66 c110 rs110 := @fun _ _ _ ha h => call_ex (fn := Try.f110) rfl Try.func110 rfl (by kernel_rfl) rfl (Nat.max_eq_right ha) h
theorem run110 : RunP 110 66 c110 rs110 := @fun _ _ _ ha h => run_of ex110 ha h
@[go_sem] theorem kp111 (v : V) : demK 111 v = v.dem := rfl
def rs111 : List ResultVar := [.tmp 4]
theorem gc111 (H : Hp) (r : V × Hp) : pr.gc 111 H r = gcF H r := gcOne rfl H r
set_option maxRecDepth 100000 in
theorem ex111 : ExP 111 19 c111 rs111 := @fun _ _ _ ha h => call_ex (fn := Try.f111) rfl Try.func111 rfl (by kernel_rfl) rfl (Nat.max_eq_right ha) h
theorem run111 : RunP 111 19 c111 rs111 := @fun _ _ _ ha h => run_of ex111 ha h
@[go_sem] theorem kp112 (v : V) : demK 112 v = v.dem := rfl
def rs112 : List ResultVar := [.tmp 4]
theorem gc112 (H : Hp) (r : V × Hp) : pr.gc 112 H r = gcF H r := gcOne rfl H r
set_option maxRecDepth 100000 in
theorem ex112 : ExP 112 19 c112 rs112 := @fun _ _ _ ha h => call_ex (fn := Try.f112) rfl Try.func112 rfl (by kernel_rfl) rfl (Nat.max_eq_right ha) h
theorem run112 : RunP 112 19 c112 rs112 := @fun _ _ _ ha h => run_of ex112 ha h
@[go_sem] theorem kp113 (v : V) : demK 113 v = v.dem := rfl
def rs113 : List ResultVar := [.tmp 2]
theorem gc113 (H : Hp) (r : V × Hp) : pr.gc 113 H r = gcF H r := gcOne rfl H r
set_option maxRecDepth 100000 in
theorem ex113 : ExP 113 153 c113 rs113 := @fun _ _ _ ha h => call_ex (fn := Try.f113) rfl Try.func113 rfl (by kernel_rfl) rfl (Nat.max_eq_right ha) h
theorem run113 : RunP 113 153 c113 rs113 := @fun _ _ _ ha h => run_of ex113 ha h
@[go_sem] theorem kp116 (v : V) : demK 116 v = v.dem := rfl
def rs116 : List ResultVar := [.tmp 2]
@[go_sem] theorem gc116 (H : Hp) (r : V × Hp) : pr.gc 116 H r = r := gcZero rfl H r
set_option maxRecDepth 100000 in
theorem ex116 : ExP 116 8 c116 rs116 := @fun _ _ _ ha h => call_ex (fn := Try.f116) rfl Try.func116 rfl (by kernel_rfl) rfl (Nat.max_eq_right ha) h
theorem run116 : RunP 116 8 c116 rs116 := @fun _ _ _ ha h => run_of ex116 ha h
@[go_sem] theorem kp117 (v : V) : demK 117 v = v.dem := rfl
def rs117 : List ResultVar := [.tmp 2]
@[go_sem] theorem gc117 (H : Hp) (r : V × Hp) : pr.gc 117 H r = r := gcZero rfl H r
set_option maxRecDepth 100000 in
theorem ex117 : ExP 117 8 c117 rs117 := @fun _ _ _ ha h => call_ex (fn := Try.f117) rfl Try.func117 rfl (by kernel_rfl) rfl (Nat.max_eq_right ha) h
theorem run117 : RunP 117 8 c117 rs117 := @fun _ _ _ ha h => run_of ex117 ha h
@[go_sem] theorem kp118 (v : V) : demK 118 v = v.dem := rfl
def rs118 : List ResultVar := [.tmp 2]
theorem gc118 (H : Hp) (r : V × Hp) : pr.gc 118 H r = gcF H r := gcOne rfl H r
set_option maxRecDepth 100000 in
theorem ex118 : ExP 118 8 c118 rs118 := @fun _ _ _ ha h => call_ex (fn := Try.f118) rfl Try.func118 rfl (by kernel_rfl) rfl (Nat.max_eq_right ha) h
theorem run118 : RunP 118 8 c118 rs118 := @fun _ _ _ ha h => run_of ex118 ha h
@[go_sem] theorem kp119 (v : V) : demK 119 v = v.dem := rfl
def rs119 : List ResultVar := [.tmp 2]
@[go_sem] theorem gc119 (H : Hp) (r : V × Hp) : pr.gc 119 H r = r := gcZero rfl H r
set_option maxRecDepth 100000 in
theorem ex119 : ExP 119 8 c119 rs119 := @fun _ _ _ ha h => call_ex (fn := Try.f119) rfl Try.func119 rfl (by kernel_rfl) rfl (Nat.max_eq_right ha) h
theorem run119 : RunP 119 8 c119 rs119 := @fun _ _ _ ha h => run_of ex119 ha h
@[go_sem] theorem kp120 (v : V) : demK 120 v = v.dem := rfl
def rs120 : List ResultVar := [.tmp 2]
@[go_sem] theorem gc120 (H : Hp) (r : V × Hp) : pr.gc 120 H r = r := gcZero rfl H r
set_option maxRecDepth 100000 in
theorem ex120 : ExP 120 8 c120 rs120 := @fun _ _ _ ha h => call_ex (fn := Try.f120) rfl Try.func120 rfl (by kernel_rfl) rfl (Nat.max_eq_right ha) h
theorem run120 : RunP 120 8 c120 rs120 := @fun _ _ _ ha h => run_of ex120 ha h
@[go_sem] theorem kp141 (v : V) : demK 141 v = v.dem := rfl
def rs141 : List ResultVar := [.tmp 4]
theorem gc141 (H : Hp) (r : V × Hp) : pr.gc 141 H r = gcF H r := gcOne rfl H r
set_option maxRecDepth 100000 in
theorem ex141 : ExP 141 19 c141 rs141 := @fun _ _ _ ha h => call_ex (fn := Try.f141) rfl Try.func141 rfl (by kernel_rfl) rfl (Nat.max_eq_right ha) h
theorem run141 : RunP 141 19 c141 rs141 := @fun _ _ _ ha h => run_of ex141 ha h
@[go_sem] theorem kp142 (v : V) : demK 142 v = v.dem := rfl
def rs142 : List ResultVar := [.tmp 4]
theorem gc142 (H : Hp) (r : V × Hp) : pr.gc 142 H r = gcF H r := gcOne rfl H r
set_option maxRecDepth 100000 in
theorem ex142 : ExP 142 9 c142 rs142 := @fun _ _ _ ha h => call_ex (fn := Try.f142) rfl Try.func142 rfl (by kernel_rfl) rfl (Nat.max_eq_right ha) h
theorem run142 : RunP 142 9 c142 rs142 := @fun _ _ _ ha h => run_of ex142 ha h
@[go_sem] theorem kp143 (v : V) : demK 143 v = v.dem := rfl
def rs143 : List ResultVar := [.tmp 4]
theorem gc143 (H : Hp) (r : V × Hp) : pr.gc 143 H r = gcF H r := gcOne rfl H r
set_option maxRecDepth 100000 in
theorem ex143 : ExP 143 19 c143 rs143 := @fun _ _ _ ha h => call_ex (fn := Try.f143) rfl Try.func143 rfl (by kernel_rfl) rfl (Nat.max_eq_right ha) h
theorem run143 : RunP 143 19 c143 rs143 := @fun _ _ _ ha h => run_of ex143 ha h
@[go_sem] theorem kp144 (v : V) : demK 144 v = v.dem := rfl
def rs144 : List ResultVar := [.tmp 4]
theorem gc144 (H : Hp) (r : V × Hp) : pr.gc 144 H r = gcF H r := gcOne rfl H r
set_option maxRecDepth 100000 in
theorem ex144 : ExP 144 9 c144 rs144 := @fun _ _ _ ha h => call_ex (fn := Try.f144) rfl Try.func144 rfl (by kernel_rfl) rfl (Nat.max_eq_right ha) h
theorem run144 : RunP 144 9 c144 rs144 := @fun _ _ _ ha h => run_of ex144 ha h
@[go_sem] theorem kp145 (v : V) : demK 145 v = v.dem := rfl
def rs145 : List ResultVar := [.tmp 4]
theorem gc145 (H : Hp) (r : V × Hp) : pr.gc 145 H r = gcF H r := gcOne rfl H r
set_option maxRecDepth 100000 in
theorem ex145 : ExP 145 19 c145 rs145 := @fun _ _ _ ha h => call_ex (fn := Try.f145) rfl Try.func145 rfl (by kernel_rfl) rfl (Nat.max_eq_right ha) h
theorem run145 : RunP 145 19 c145 rs145 := @fun _ _ _ ha h => run_of ex145 ha h
@[go_sem] theorem kp146 (v : V) : demK 146 v = v.dem := rfl
def rs146 : List ResultVar := [.tmp 4]
theorem gc146 (H : Hp) (r : V × Hp) : pr.gc 146 H r = gcF H r := gcOne rfl H r
set_option maxRecDepth 100000 in
theorem ex146 : ExP 146 9 c146 rs146 := @fun _ _ _ ha h => call_ex (fn := Try.f146) rfl Try.func146 rfl (by kernel_rfl) rfl (Nat.max_eq_right ha) h
theorem run146 : RunP 146 9 c146 rs146 := @fun _ _ _ ha h => run_of ex146 ha h
@[go_sem] theorem kp147 (v : V) : demK 147 v = v.dem := rfl
def rs147 : List ResultVar := [.tmp 4]
theorem gc147 (H : Hp) (r : V × Hp) : pr.gc 147 H r = gcF H r := gcOne rfl H r
set_option maxRecDepth 100000 in
theorem ex147 : ExP 147 9 c147 rs147 := @fun _ _ _ ha h => call_ex (fn := Try.f147) rfl Try.func147 rfl (by kernel_rfl) rfl (Nat.max_eq_right ha) h
theorem run147 : RunP 147 9 c147 rs147 := @fun _ _ _ ha h => run_of ex147 ha h
@[go_sem] theorem kp148 (v : V) : demK 148 v = v.dem := rfl
def rs148 : List ResultVar := [.tmp 2]
theorem gc148 (H : Hp) (r : V × Hp) : pr.gc 148 H r = gcF H r := gcOne rfl H r
set_option maxRecDepth 100000 in
theorem ex148 : ExP 148 9 c148 rs148 := @fun _ _ _ ha h => call_ex (fn := Try.f148) rfl Try.func148 rfl (by kernel_rfl) rfl (Nat.max_eq_right ha) h
theorem run148 : RunP 148 9 c148 rs148 := @fun _ _ _ ha h => run_of ex148 ha h
@[go_sem] theorem kp149 (v : V) : demK 149 v = v.dem := rfl
def rs149 : List ResultVar := [.tmp 2]
theorem gc149 (H : Hp) (r : V × Hp) : pr.gc 149 H r = gcF H r := gcOne rfl H r
set_option maxRecDepth 100000 in
theorem ex149 : ExP 149 23 c149 rs149 := @fun _ _ _ ha h => call_ex (fn := Try.f149) rfl Try.func149 rfl (by kernel_rfl) rfl (Nat.max_eq_right ha) h
theorem run149 : RunP 149 23 c149 rs149 := @fun _ _ _ ha h => run_of ex149 ha h
@[go_sem] theorem kp150 (v : V) : demK 150 v = v.dem := rfl
def rs150 : List ResultVar := [.tmp 4]
theorem gc150 (H : Hp) (r : V × Hp) : pr.gc 150 H r = gcF H r := gcOne rfl H r
set_option maxRecDepth 100000 in
theorem ex150 : ExP 150 47 c150 rs150 := @fun _ _ _ ha h => call_ex (fn := Try.f150) rfl Try.func150 rfl (by kernel_rfl) rfl (Nat.max_eq_right ha) h
theorem run150 : RunP 150 47 c150 rs150 := @fun _ _ _ ha h => run_of ex150 ha h
@[go_sem] theorem kp173 (v : V) : demK 173 v = v.dem := rfl
def rs173 : List ResultVar := [.tmp 4]
theorem gc173 (H : Hp) (r : V × Hp) : pr.gc 173 H r = gcF H r := gcOne rfl H r
set_option maxRecDepth 100000 in
theorem ex173 : ExP 173 19 c173 rs173 := @fun _ _ _ ha h => call_ex (fn := Try.f173) rfl Try.func173 rfl (by kernel_rfl) rfl (Nat.max_eq_right ha) h
theorem run173 : RunP 173 19 c173 rs173 := @fun _ _ _ ha h => run_of ex173 ha h
end Go.Proofs.Ytejkgnmjdaohdaa
namespace Go.Proofs.Ytejkgnmjdaohdaa
open Go Go.An
set_option maxRecDepth 4000
theorem dkS : (∀ A L : Hp, tokAt (A ++ L) A.length = tokAt L 0) ∧ (∀ (A L : Hp) (k : Nat), tokAt (A ++ L) (A.length + k) = tokAt L k) ∧ (∀ (n : Nat) (L : Hp), tokAt (.tok n :: L) 0 = some n) ∧ (∀ (b : AB) (L : Hp) (k : Nat), tokAt (b :: L) (k + 1) = tokAt L k) ∧ (∀ (A L : Hp) (g : Nat), getRow (A ++ L) A.length g = getRow L 0 g) ∧ (∀ (A L : Hp) (k g : Nat), getRow (A ++ L) (A.length + k) g = getRow L k g) ∧ (∀ (g : Nat) (cs : List V) (o : Bool) (L : Hp), getRow (.row g cs o :: L) 0 g = some (cs, o)) ∧ ∀ (b : AB) (L : Hp) (k g : Nat), getRow (b :: L) (k + 1) g = getRow L k g := ⟨tk_here, tk_app, tk_0, tk_S, gr_here, gr_app, gr_0, gr_S⟩
theorem tkS : (∀ {α : Type} (a b c : List α), a ++ b ++ c = a ++ (b ++ c)) ∧ (∀ {α : Type} (a b : List α), (a ++ b).length = a.length + b.length) ∧ (∀ {α : Type} (a : α) (b : List α), (a :: b).length = b.length + 1) ∧ (∀ {α : Type}, ([] : List α).length = 0) ∧ (∀ {α : Type} (x : α) (l : List α) (a : α), (x :: l).set 0 a = a :: l) ∧ (∀ {α : Type} (x : α) (l : List α) (i : Nat) (a : α), (x :: l).set (i + 1) a = x :: l.set i a) ∧ (∀ A L : Hp, tokAt (A ++ L) A.length = tokAt L 0) ∧ (∀ (A L : Hp) (k : Nat), tokAt (A ++ L) (A.length + k) = tokAt L k) ∧ (∀ (A L : Hp) (g : Nat), getRow (A ++ L) A.length g = getRow L 0 g) ∧ (∀ (A L : Hp) (k g : Nat), getRow (A ++ L) (A.length + k) g = getRow L k g) ∧ (∀ (A L : Hp) (b : AB), (A ++ L).set A.length b = A ++ L.set 0 b) ∧ ∀ (A L : Hp) (k : Nat) (b : AB), (A ++ L).set (A.length + k) b = A ++ L.set k b := ⟨fun a b c => List.append_assoc a b c, fun _ _ => List.length_append, fun _ _ => rfl, rfl, fun _ _ _ => rfl, fun _ _ _ _ => rfl, tk_here, tk_app, gr_here, gr_app, st_here, st_app⟩
@[go_sem] theorem ld_byE {l : List UInt8} {i : Nat} {H : Hp} (h : i < l.length) : loadV Try.prog 5 H (.ipt (flatE byE l) (i * 1)) = some (.int .u8 (byE.at l i).toNat) := ld_cell0 g5 rfl h
@[go_sem] theorem ld_inE {l : List Int} {i : Nat} {H : Hp} (h : i < l.length) : loadV Try.prog 3 H (.ipt (flatE inE l) (i * 1)) = some (.int .i64 (inE.at l i)) := ld_cell0 g3 rfl h
@[go_sem] theorem ls9 {s : List UInt8} {H : Hp} (h : s.length ≤ 2 ^ 62) : lenV Try.prog 9 H (.str s) = some (.int .i64 s.length) := by simp [lenV, u9, h]
structure Pk where
 time : Int
 face : Int
 real : Int
 dataN : Bool
 data : List UInt8
 note : List UInt8
 deriving DecidableEq
def pkE : Enc Pk := ⟨fun p => [.int .i64 p.time, .int .i64 p.face, .int .i64 p.real, slV p.dataN byE p.data, .str p.note], 5, ⟨0, 0, 0, true, [], []⟩, fun _ => rfl, by decide, fun p => by simp only [immL, slV_imm]; rfl⟩
theorem pkE_f (p : Pk) : pkE.f p = [.int .i64 p.time, .int .i64 p.face, .int .i64 p.real, slV p.dataN byE p.data, .str p.note] := rfl
@[go_sem] theorem pkE_w : pkE.w = 5 := rfl
@[go_sem] theorem pkE_l (p : Pk) : (pkE.f p).length = 5 := rfl
@[go_sem] theorem pkE_t (p : Pk) : (pkE.f p).take 5 = pkE.f p := rfl
@[go_sem] theorem pkE_sa (p : Pk) : setAt [.int .i64 0, .int .i64 0, .int .i64 0, .nilslice, .str []] 0 (pkE.f p) = pkE.f p := rfl
@[go_sem] theorem pkE_pa (p : Pk) : partK (some true) (some 5) (pkE.f p) 0 = some (.agg (pkE.f p)) := rfl
@[go_sem] theorem pkE_0 (p : Pk) : (pkE.f p)[0]? = some (.int .i64 p.time) := rfl
@[go_sem] theorem pkE_1 (p : Pk) : (pkE.f p)[1]? = some (.int .i64 p.face) := rfl
@[go_sem] theorem pkE_2 (p : Pk) : (pkE.f p)[2]? = some (.int .i64 p.real) := rfl
@[go_sem] theorem pkE_3 (p : Pk) : (pkE.f p)[3]? = some (slV p.dataN byE p.data) := rfl
@[go_sem] theorem pkE_4 (p : Pk) : (pkE.f p)[4]? = some (.str p.note) := rfl
@[go_sem] theorem ld_pkE {l : List Pk} {i : Nat} {H : Hp} (h : i < l.length) : loadV Try.prog 56 H (.ipt (flatE pkE l) (i * 5)) = some (.agg (pkE.f (pkE.at l i))) := ld_agg g56 z56 rfl h
@[go_sem] theorem ld_pkE_0 {l : List Pk} {i : Nat} {H : Hp} (h : i < l.length) : loadV Try.prog 3 H (.ipt (flatE pkE l) (i * 5)) = some (.int .i64 (pkE.at l i).time) := ld_cell0 g3 rfl h
@[go_sem] theorem ld_pkE_1 {l : List Pk} {i : Nat} {H : Hp} (h : i < l.length) : loadV Try.prog 3 H (.ipt (flatE pkE l) (i * 5 + 1)) = some (.int .i64 (pkE.at l i).face) := ld_cell (j := 1) g3 rfl h (by omega)
@[go_sem] theorem ld_pkE_2 {l : List Pk} {i : Nat} {H : Hp} (h : i < l.length) : loadV Try.prog 3 H (.ipt (flatE pkE l) (i * 5 + 2)) = some (.int .i64 (pkE.at l i).real) := ld_cell (j := 2) g3 rfl h (by omega)
@[go_sem] theorem ld_pkE_3 {l : List Pk} {i : Nat} {H : Hp} (h : i < l.length) : loadV Try.prog 37 H (.ipt (flatE pkE l) (i * 5 + 3)) = some (slV (pkE.at l i).dataN byE (pkE.at l i).data) := ld_cell (j := 3) g37 rfl h (by omega)
@[go_sem] theorem ld_pkE_4 {l : List Pk} {i : Nat} {H : Hp} (h : i < l.length) : loadV Try.prog 9 H (.ipt (flatE pkE l) (i * 5 + 4)) = some (.str (pkE.at l i).note) := ld_cell (j := 4) g9 rfl h (by omega)
def PkOk (p : Pk) : Prop := Inx p.time ∧ Inx p.face ∧ Inx p.real ∧ p.data.length ≤ 140737488355328 ∧ p.note.length ≤ 140737488355328
theorem rd_pkE {m : Nat} {x : List V} (h : RdT Try.prog (m + 3) 56 x) : ∃ p : Pk, x = pkE.f p ∧ PkOk p := by
 obtain ⟨xss, rfl, k0⟩ := rd_parts (m := m + 2) (ts := [3, 3, 3, 37, 9]) (by kernel_rfl) h
 obtain ⟨x0, l0, rfl, h0, k1⟩ := rdTs_cons k0
 obtain ⟨x1, l1, rfl, h1, k2⟩ := rdTs_cons k1
 obtain ⟨x2, l2, rfl, h2, k3⟩ := rdTs_cons k2
 obtain ⟨x3, l3, rfl, h3, k4⟩ := rdTs_cons k3
 obtain ⟨x4, l4, rfl, h4, k5⟩ := rdTs_cons k4
 obtain rfl := rdTs_nil k5
 obtain ⟨a0, rfl, b0⟩ := rd_i64 (m := m + 1) u3 h0
 obtain ⟨a1, rfl, b1⟩ := rd_i64 (m := m + 1) u3 h1
 obtain ⟨a2, rfl, b2⟩ := rd_i64 (m := m + 1) u3 h2
 obtain ⟨c3, a3, rfl, _, b3, _⟩ := rd_bytes (m := m + 0) u37 u5 (by kernel_rfl) h3
 rw [show Try.prog.bytesOf 5 = 1 by kernel_rfl, Nat.mul_one] at b3
 obtain ⟨a4, rfl, b4⟩ := rd_str (m := m + 1) u9 h4
 exact ⟨⟨a0, a1, a2, c3, a3, a4⟩, rfl, ⟨b0, b1, b2, (Nat.le_trans b3 (by decide)), (Nat.le_trans b4 (by decide))⟩⟩
structure Fc where
 name : List UInt8
 link : Int
 snap : Int
 deriving DecidableEq
def fcE : Enc Fc := ⟨fun p => [.str p.name, .int .i64 p.link, .int .i64 p.snap], 3, ⟨[], 0, 0⟩, fun _ => rfl, by decide, fun p => by simp only [immL, slV_imm]; rfl⟩
theorem fcE_f (p : Fc) : fcE.f p = [.str p.name, .int .i64 p.link, .int .i64 p.snap] := rfl
@[go_sem] theorem fcE_w : fcE.w = 3 := rfl
@[go_sem] theorem fcE_l (p : Fc) : (fcE.f p).length = 3 := rfl
@[go_sem] theorem fcE_t (p : Fc) : (fcE.f p).take 3 = fcE.f p := rfl
@[go_sem] theorem fcE_sa (p : Fc) : setAt [.str [], .int .i64 0, .int .i64 0] 0 (fcE.f p) = fcE.f p := rfl
@[go_sem] theorem fcE_pa (p : Fc) : partK (some true) (some 3) (fcE.f p) 0 = some (.agg (fcE.f p)) := rfl
@[go_sem] theorem fcE_0 (p : Fc) : (fcE.f p)[0]? = some (.str p.name) := rfl
@[go_sem] theorem fcE_1 (p : Fc) : (fcE.f p)[1]? = some (.int .i64 p.link) := rfl
@[go_sem] theorem fcE_2 (p : Fc) : (fcE.f p)[2]? = some (.int .i64 p.snap) := rfl
@[go_sem] theorem ld_fcE {l : List Fc} {i : Nat} {H : Hp} (h : i < l.length) : loadV Try.prog 82 H (.ipt (flatE fcE l) (i * 3)) = some (.agg (fcE.f (fcE.at l i))) := ld_agg g82 z82 rfl h
@[go_sem] theorem ld_fcE_0 {l : List Fc} {i : Nat} {H : Hp} (h : i < l.length) : loadV Try.prog 9 H (.ipt (flatE fcE l) (i * 3)) = some (.str (fcE.at l i).name) := ld_cell0 g9 rfl h
@[go_sem] theorem ld_fcE_1 {l : List Fc} {i : Nat} {H : Hp} (h : i < l.length) : loadV Try.prog 3 H (.ipt (flatE fcE l) (i * 3 + 1)) = some (.int .i64 (fcE.at l i).link) := ld_cell (j := 1) g3 rfl h (by omega)
@[go_sem] theorem ld_fcE_2 {l : List Fc} {i : Nat} {H : Hp} (h : i < l.length) : loadV Try.prog 3 H (.ipt (flatE fcE l) (i * 3 + 2)) = some (.int .i64 (fcE.at l i).snap) := ld_cell (j := 2) g3 rfl h (by omega)
def FcOk (p : Fc) : Prop := p.name.length ≤ 140737488355328 ∧ Inx p.link ∧ Inx p.snap
theorem rd_fcE {m : Nat} {x : List V} (h : RdT Try.prog (m + 2) 82 x) : ∃ p : Fc, x = fcE.f p ∧ FcOk p := by
 obtain ⟨xss, rfl, k0⟩ := rd_parts (m := m + 1) (ts := [9, 3, 3]) (by kernel_rfl) h
 obtain ⟨x0, l0, rfl, h0, k1⟩ := rdTs_cons k0
 obtain ⟨x1, l1, rfl, h1, k2⟩ := rdTs_cons k1
 obtain ⟨x2, l2, rfl, h2, k3⟩ := rdTs_cons k2
 obtain rfl := rdTs_nil k3
 obtain ⟨a0, rfl, b0⟩ := rd_str (m := m + 0) u9 h0
 obtain ⟨a1, rfl, b1⟩ := rd_i64 (m := m + 0) u3 h1
 obtain ⟨a2, rfl, b2⟩ := rd_i64 (m := m + 0) u3 h2
 exact ⟨⟨a0, a1, a2⟩, rfl, ⟨(Nat.le_trans b0 (by decide)), b1, b2⟩⟩
structure Nm where
 addrN : Bool
 addr : List UInt8
 text : List UInt8
 deriving DecidableEq
def nmE : Enc Nm := ⟨fun p => [slV p.addrN byE p.addr, .str p.text], 2, ⟨true, [], []⟩, fun _ => rfl, by decide, fun p => by simp only [immL, slV_imm]; rfl⟩
theorem nmE_f (p : Nm) : nmE.f p = [slV p.addrN byE p.addr, .str p.text] := rfl
@[go_sem] theorem nmE_w : nmE.w = 2 := rfl
@[go_sem] theorem nmE_l (p : Nm) : (nmE.f p).length = 2 := rfl
@[go_sem] theorem nmE_t (p : Nm) : (nmE.f p).take 2 = nmE.f p := rfl
@[go_sem] theorem nmE_sa (p : Nm) : setAt [.nilslice, .str []] 0 (nmE.f p) = nmE.f p := rfl
@[go_sem] theorem nmE_pa (p : Nm) : partK (some true) (some 2) (nmE.f p) 0 = some (.agg (nmE.f p)) := rfl
@[go_sem] theorem nmE_0 (p : Nm) : (nmE.f p)[0]? = some (slV p.addrN byE p.addr) := rfl
@[go_sem] theorem nmE_1 (p : Nm) : (nmE.f p)[1]? = some (.str p.text) := rfl
@[go_sem] theorem ld_nmE {l : List Nm} {i : Nat} {H : Hp} (h : i < l.length) : loadV Try.prog 97 H (.ipt (flatE nmE l) (i * 2)) = some (.agg (nmE.f (nmE.at l i))) := ld_agg g97 z97 rfl h
@[go_sem] theorem ld_nmE_0 {l : List Nm} {i : Nat} {H : Hp} (h : i < l.length) : loadV Try.prog 37 H (.ipt (flatE nmE l) (i * 2)) = some (slV (nmE.at l i).addrN byE (nmE.at l i).addr) := ld_cell0 g37 rfl h
@[go_sem] theorem ld_nmE_1 {l : List Nm} {i : Nat} {H : Hp} (h : i < l.length) : loadV Try.prog 9 H (.ipt (flatE nmE l) (i * 2 + 1)) = some (.str (nmE.at l i).text) := ld_cell (j := 1) g9 rfl h (by omega)
def NmOk (p : Nm) : Prop := p.addr.length ≤ 140737488355328 ∧ p.text.length ≤ 140737488355328
theorem rd_nmE {m : Nat} {x : List V} (h : RdT Try.prog (m + 3) 97 x) : ∃ p : Nm, x = nmE.f p ∧ NmOk p := by
 obtain ⟨xss, rfl, k0⟩ := rd_parts (m := m + 2) (ts := [37, 9]) (by kernel_rfl) h
 obtain ⟨x0, l0, rfl, h0, k1⟩ := rdTs_cons k0
 obtain ⟨x1, l1, rfl, h1, k2⟩ := rdTs_cons k1
 obtain rfl := rdTs_nil k2
 obtain ⟨c0, a0, rfl, _, b0, _⟩ := rd_bytes (m := m + 0) u37 u5 (by kernel_rfl) h0
 rw [show Try.prog.bytesOf 5 = 1 by kernel_rfl, Nat.mul_one] at b0
 obtain ⟨a1, rfl, b1⟩ := rd_str (m := m + 1) u9 h1
 exact ⟨⟨c0, a0, a1⟩, rfl, ⟨(Nat.le_trans b0 (by decide)), (Nat.le_trans b1 (by decide))⟩⟩
structure Sc where
 label : List UInt8
 keyN : Bool
 key : List UInt8
 deriving DecidableEq
def scE : Enc Sc := ⟨fun p => [.str p.label, slV p.keyN byE p.key], 2, ⟨[], true, []⟩, fun _ => rfl, by decide, fun p => by simp only [immL, slV_imm]; rfl⟩
theorem scE_f (p : Sc) : scE.f p = [.str p.label, slV p.keyN byE p.key] := rfl
@[go_sem] theorem scE_w : scE.w = 2 := rfl
@[go_sem] theorem scE_l (p : Sc) : (scE.f p).length = 2 := rfl
@[go_sem] theorem scE_t (p : Sc) : (scE.f p).take 2 = scE.f p := rfl
@[go_sem] theorem scE_sa (p : Sc) : setAt [.str [], .nilslice] 0 (scE.f p) = scE.f p := rfl
@[go_sem] theorem scE_pa (p : Sc) : partK (some true) (some 2) (scE.f p) 0 = some (.agg (scE.f p)) := rfl
@[go_sem] theorem scE_0 (p : Sc) : (scE.f p)[0]? = some (.str p.label) := rfl
@[go_sem] theorem scE_1 (p : Sc) : (scE.f p)[1]? = some (slV p.keyN byE p.key) := rfl
@[go_sem] theorem ld_scE {l : List Sc} {i : Nat} {H : Hp} (h : i < l.length) : loadV Try.prog 100 H (.ipt (flatE scE l) (i * 2)) = some (.agg (scE.f (scE.at l i))) := ld_agg g100 z100 rfl h
@[go_sem] theorem ld_scE_0 {l : List Sc} {i : Nat} {H : Hp} (h : i < l.length) : loadV Try.prog 9 H (.ipt (flatE scE l) (i * 2)) = some (.str (scE.at l i).label) := ld_cell0 g9 rfl h
@[go_sem] theorem ld_scE_1 {l : List Sc} {i : Nat} {H : Hp} (h : i < l.length) : loadV Try.prog 37 H (.ipt (flatE scE l) (i * 2 + 1)) = some (slV (scE.at l i).keyN byE (scE.at l i).key) := ld_cell (j := 1) g37 rfl h (by omega)
def ScOk (p : Sc) : Prop := p.label.length ≤ 140737488355328 ∧ p.key.length ≤ 140737488355328
theorem rd_scE {m : Nat} {x : List V} (h : RdT Try.prog (m + 3) 100 x) : ∃ p : Sc, x = scE.f p ∧ ScOk p := by
 obtain ⟨xss, rfl, k0⟩ := rd_parts (m := m + 2) (ts := [9, 37]) (by kernel_rfl) h
 obtain ⟨x0, l0, rfl, h0, k1⟩ := rdTs_cons k0
 obtain ⟨x1, l1, rfl, h1, k2⟩ := rdTs_cons k1
 obtain rfl := rdTs_nil k2
 obtain ⟨a0, rfl, b0⟩ := rd_str (m := m + 1) u9 h0
 obtain ⟨c1, a1, rfl, _, b1, _⟩ := rd_bytes (m := m + 0) u37 u5 (by kernel_rfl) h1
 rw [show Try.prog.bytesOf 5 = 1 by kernel_rfl, Nat.mul_one] at b1
 exact ⟨⟨a0, c1, a1⟩, rfl, ⟨(Nat.le_trans b0 (by decide)), (Nat.le_trans b1 (by decide))⟩⟩
structure Cp where
 note : List UInt8
 facesN : Bool
 faces : List Fc
 namesN : Bool
 names : List Nm
 secretsN : Bool
 secrets : List Sc
 packetsN : Bool
 packets : List Pk
 deriving DecidableEq
def cpE : Enc Cp := ⟨fun p => [.str p.note, slV p.facesN fcE p.faces, slV p.namesN nmE p.names, slV p.secretsN scE p.secrets, slV p.packetsN pkE p.packets], 5, ⟨[], true, [], true, [], true, [], true, []⟩, fun _ => rfl, by decide, fun p => by simp only [immL, slV_imm]; rfl⟩
theorem cpE_f (p : Cp) : cpE.f p = [.str p.note, slV p.facesN fcE p.faces, slV p.namesN nmE p.names, slV p.secretsN scE p.secrets, slV p.packetsN pkE p.packets] := rfl
@[go_sem] theorem cpE_w : cpE.w = 5 := rfl
@[go_sem] theorem cpE_l (p : Cp) : (cpE.f p).length = 5 := rfl
@[go_sem] theorem cpE_t (p : Cp) : (cpE.f p).take 5 = cpE.f p := rfl
@[go_sem] theorem cpE_sa (p : Cp) : setAt [.str [], .nilslice, .nilslice, .nilslice, .nilslice] 0 (cpE.f p) = cpE.f p := rfl
@[go_sem] theorem cpE_pa (p : Cp) : partK (some true) (some 5) (cpE.f p) 0 = some (.agg (cpE.f p)) := rfl
@[go_sem] theorem cpE_0 (p : Cp) : (cpE.f p)[0]? = some (.str p.note) := rfl
@[go_sem] theorem cpE_1 (p : Cp) : (cpE.f p)[1]? = some (slV p.facesN fcE p.faces) := rfl
@[go_sem] theorem cpE_2 (p : Cp) : (cpE.f p)[2]? = some (slV p.namesN nmE p.names) := rfl
@[go_sem] theorem cpE_3 (p : Cp) : (cpE.f p)[3]? = some (slV p.secretsN scE p.secrets) := rfl
@[go_sem] theorem cpE_4 (p : Cp) : (cpE.f p)[4]? = some (slV p.packetsN pkE p.packets) := rfl
@[go_sem] theorem ld_cpE {l : List Cp} {i : Nat} {H : Hp} (h : i < l.length) : loadV Try.prog 31 H (.ipt (flatE cpE l) (i * 5)) = some (.agg (cpE.f (cpE.at l i))) := ld_agg g31 z31 rfl h
@[go_sem] theorem ld_cpE_0 {l : List Cp} {i : Nat} {H : Hp} (h : i < l.length) : loadV Try.prog 9 H (.ipt (flatE cpE l) (i * 5)) = some (.str (cpE.at l i).note) := ld_cell0 g9 rfl h
@[go_sem] theorem ld_cpE_1 {l : List Cp} {i : Nat} {H : Hp} (h : i < l.length) : loadV Try.prog 26 H (.ipt (flatE cpE l) (i * 5 + 1)) = some (slV (cpE.at l i).facesN fcE (cpE.at l i).faces) := ld_cell (j := 1) g26 rfl h (by omega)
@[go_sem] theorem ld_cpE_2 {l : List Cp} {i : Nat} {H : Hp} (h : i < l.length) : loadV Try.prog 27 H (.ipt (flatE cpE l) (i * 5 + 2)) = some (slV (cpE.at l i).namesN nmE (cpE.at l i).names) := ld_cell (j := 2) g27 rfl h (by omega)
@[go_sem] theorem ld_cpE_3 {l : List Cp} {i : Nat} {H : Hp} (h : i < l.length) : loadV Try.prog 28 H (.ipt (flatE cpE l) (i * 5 + 3)) = some (slV (cpE.at l i).secretsN scE (cpE.at l i).secrets) := ld_cell (j := 3) g28 rfl h (by omega)
@[go_sem] theorem ld_cpE_4 {l : List Cp} {i : Nat} {H : Hp} (h : i < l.length) : loadV Try.prog 29 H (.ipt (flatE cpE l) (i * 5 + 4)) = some (slV (cpE.at l i).packetsN pkE (cpE.at l i).packets) := ld_cell (j := 4) g29 rfl h (by omega)
def CpOk (p : Cp) : Prop := p.note.length ≤ 140737488355328 ∧ (∀ x ∈ p.faces, FcOk x) ∧ p.faces.length ≤ 140737488355328 ∧ (∀ x ∈ p.names, NmOk x) ∧ p.names.length ≤ 140737488355328 ∧ (∀ x ∈ p.secrets, ScOk x) ∧ p.secrets.length ≤ 140737488355328 ∧ (∀ x ∈ p.packets, PkOk x) ∧ p.packets.length ≤ 140737488355328
theorem rd_cpE {m : Nat} {x : List V} (h : RdT Try.prog (m + 5) 31 x) : ∃ p : Cp, x = cpE.f p ∧ CpOk p := by
 obtain ⟨xss, rfl, k0⟩ := rd_parts (m := m + 4) (ts := [9, 26, 27, 28, 29]) (by kernel_rfl) h
 obtain ⟨x0, l0, rfl, h0, k1⟩ := rdTs_cons k0
 obtain ⟨x1, l1, rfl, h1, k2⟩ := rdTs_cons k1
 obtain ⟨x2, l2, rfl, h2, k3⟩ := rdTs_cons k2
 obtain ⟨x3, l3, rfl, h3, k4⟩ := rdTs_cons k3
 obtain ⟨x4, l4, rfl, h4, k5⟩ := rdTs_cons k4
 obtain rfl := rdTs_nil k5
 obtain ⟨a0, rfl, b0⟩ := rd_str (m := m + 3) u9 h0
 obtain ⟨c1, a1, rfl, d1, b1, _⟩ := rd_list (m := m + 3) (E := fcE) (Ok := FcOk) u26 (by kernel_rfl) (fun x hx => rd_fcE (m := m + 3 - 2) (by simpa using hx)) h1
 obtain ⟨c2, a2, rfl, d2, b2, _⟩ := rd_list (m := m + 3) (E := nmE) (Ok := NmOk) u27 (by kernel_rfl) (fun x hx => rd_nmE (m := m + 3 - 3) (by simpa using hx)) h2
 obtain ⟨c3, a3, rfl, d3, b3, _⟩ := rd_list (m := m + 3) (E := scE) (Ok := ScOk) u28 (by kernel_rfl) (fun x hx => rd_scE (m := m + 3 - 3) (by simpa using hx)) h3
 obtain ⟨c4, a4, rfl, d4, b4, _⟩ := rd_list (m := m + 3) (E := pkE) (Ok := PkOk) u29 (by kernel_rfl) (fun x hx => rd_pkE (m := m + 3 - 3) (by simpa using hx)) h4
 exact ⟨⟨a0, c1, a1, c2, a2, c3, a3, c4, a4⟩, rfl, ⟨(Nat.le_trans b0 (by decide)), d1, (Nat.le_trans (Nat.le_mul_of_pos_right _ (by decide +kernel : 0 < Try.prog.bytesOf 82)) (Nat.le_trans b1 (by decide))), d2, (Nat.le_trans (Nat.le_mul_of_pos_right _ (by decide +kernel : 0 < Try.prog.bytesOf 97)) (Nat.le_trans b2 (by decide))), d3, (Nat.le_trans (Nat.le_mul_of_pos_right _ (by decide +kernel : 0 < Try.prog.bytesOf 100)) (Nat.le_trans b3 (by decide))), d4, (Nat.le_trans (Nat.le_mul_of_pos_right _ (by decide +kernel : 0 < Try.prog.bytesOf 56)) (Nat.le_trans b4 (by decide)))⟩⟩
theorem arg_cap {m : Nat} {x : V} (h : ArgT Try.prog (m + 5) 31 x) : ∃ c : Cp, x = .agg (cpE.f c) ∧ CpOk c := by
 obtain ⟨xs, rfl, h2⟩ := arg_agg (by kernel_rfl) h
 obtain ⟨c, rfl, hc⟩ := rd_cpE h2
 exact ⟨c, rfl, hc⟩
end Go.Proofs.Ytejkgnmjdaohdaa
namespace Go.Proofs.Ytejkgnmjdaohdaa
open Go Go.An
set_option maxRecDepth 4000
theorem ldB {l : List UInt8} {i : Nat} {H : Hp} (h : i < l.length) : loadV Try.prog 5 H (.ipt (flatE byE l) (i * 1)) = some (.int .u8 (byE.at l i).toNat) := ld_cell0 g5 rfl h
theorem ldF {l : List Fc} {i : Nat} {H : Hp} (h : i < l.length) : loadV Try.prog 82 H (.ipt (flatE fcE l) (i * 3)) = some (.agg (fcE.f (fcE.at l i))) := ld_agg g82 z82 rfl h
theorem ldF2 {l : List Fc} {i : Nat} {H : Hp} (h : i < l.length) : loadV Try.prog 3 H (.ipt (flatE fcE l) (i * 3 + 2)) = some (.int .i64 (fcE.at l i).snap) := ld_cell (j := 2) g3 rfl h (by omega)
theorem ldN {l : List Nm} {i : Nat} {H : Hp} (h : i < l.length) : loadV Try.prog 97 H (.ipt (flatE nmE l) (i * 2)) = some (.agg (nmE.f (nmE.at l i))) := ld_agg g97 z97 rfl h
theorem ldS {l : List Sc} {i : Nat} {H : Hp} (h : i < l.length) : loadV Try.prog 100 H (.ipt (flatE scE l) (i * 2)) = some (.agg (scE.f (scE.at l i))) := ld_agg g100 z100 rfl h
theorem ldP {l : List Pk} {i : Nat} {H : Hp} (h : i < l.length) : loadV Try.prog 56 H (.ipt (flatE pkE l) (i * 5)) = some (.agg (pkE.f (pkE.at l i))) := ld_agg g56 z56 rfl h
theorem ldR {H : Hp} {id g off : Nat} {t : TypeId} : loadV Try.prog t H (.ptr id g off) = (getRow H id g).bind fun r => partV Try.prog t r.1 off := loadV_ptr t id g off
theorem fn173L {b : Bool} {l : List UInt8} {H : Hp} (hlen : l.length < 2 ^ 62) (p : UInt8 → Bool) (f : Nat) (ca cb : List V) (hk : ∀ v, demK f v = v.dem) (hf : ∀ x ∈ l, callL Try.prog pr f (ca ++ [.int .u8 x.toNat] ++ cb) H = some (.bool (p x), H)) : callL Try.prog pr 173 [slV b byE l, .fn f ca cb] H = some (.int .i64 (findI p l 0), H) := by
 have hfy := ne_demK hk
 refine run173 (Nat.le_of_ble_eq_true rfl) ?_
 simp (disch := first | rfl | omega | exact lt_new _ | assumption | decide | (simp [dkS] <;> omega) | fail) only [r173_0, r173_1, r173_2, r173_3, r173_4, r173_5, r173_6, r173_8, c173, rs173, gc173, go_sem, ↓reduceIte, Nat.reduceLT, Nat.reduceEqDiff, Nat.reduceAdd, Nat.reduceMul, Nat.reduceSub, Int.reduceAdd, Int.reduceSub, Nat.reduceLeDiff, Int.reduceLT, Int.reduceLE, Int.reduceEq, Int.reduceNeg, Int.reduceToNat]
 refine Wp_loop (fun m T D H' => ∃ i, m = l.length - i ∧ i ≤ l.length ∧ D = [] ∧ H' = H ∧ get T 0 = slV b byE l ∧ get T 1 = .fn f ca cb ∧ get T 7 = .int .i64 l.length ∧ get T 8 = .int .i64 i ∧ findI p l 0 = findI p (l.drop i) i) ?_ l.length _ _ _ ?_
 ·rintro m T D H' ⟨i, rfl, hi, rfl, rfl, h0, h1, h7, h8, hp⟩
  by_cases hlt : i < l.length
  ·have hlt' : (i : Int) < l.length := by omega
   have hpi := findI_drop p (byE.at_some hlt) i
   have hfi := hf _ (byE.at_mem hlt)
   have hld := fun H => @ld_cell0 _ Try.prog H _ byE l 5 1 i g5 rfl hlt
   simp (disch := first | rfl | omega | exact lt_new _ | assumption | decide | (simp [dkS] <;> omega) | fail) only [r173_0, r173_1, r173_2, r173_3, r173_4, r173_5, r173_6, l173_7, r173_8, c173, rs173, gc173, go_sem, ↓reduceIte, Nat.reduceLT, Nat.reduceEqDiff, Nat.reduceAdd, Nat.reduceMul, Nat.reduceSub, Int.reduceAdd, Int.reduceSub, Nat.reduceLeDiff, Int.reduceLT, Int.reduceLE, Int.reduceEq, Int.reduceNeg, Int.reduceToNat, h0, h1, h7, h8, hld, hk, hfi, hlt', decide_true]
   refine brQ_bool (fun hy => ?_) (fun hy => ?_)
   ·rw [if_pos hy] at hpi
    simp (disch := first | rfl | omega | exact lt_new _ | assumption | decide | (simp [dkS] <;> omega) | fail) only [r173_0, r173_1, r173_2, r173_3, r173_4, r173_5, r173_6, l173_7, r173_8, c173, rs173, gc173, go_sem, ↓reduceIte, Nat.reduceLT, Nat.reduceEqDiff, Nat.reduceAdd, Nat.reduceMul, Nat.reduceSub, Int.reduceAdd, Int.reduceSub, Nat.reduceLeDiff, Int.reduceLT, Int.reduceLE, Int.reduceEq, Int.reduceNeg, Int.reduceToNat, h0, h1, h7, h8]
    refine finQ_same ?_
    simp (disch := first | rfl | omega | exact lt_new _ | assumption | decide | (simp [dkS] <;> omega) | fail) only [go_sem, ↓reduceIte, Nat.reduceLT, Nat.reduceEqDiff, Nat.reduceAdd, Nat.reduceMul, Nat.reduceSub, Int.reduceAdd, Int.reduceSub, Nat.reduceLeDiff, Int.reduceLT, Int.reduceLE, Int.reduceEq, Int.reduceNeg, Int.reduceToNat, hp, hpi]
   ·rw [if_neg (by simp [hy])] at hpi
    simp (disch := first | rfl | omega | exact lt_new _ | assumption | decide | (simp [dkS] <;> omega) | fail) only [r173_0, r173_1, r173_2, r173_3, r173_4, r173_5, r173_6, l173_7, r173_8, c173, rs173, gc173, go_sem, ↓reduceIte, Nat.reduceLT, Nat.reduceEqDiff, Nat.reduceAdd, Nat.reduceMul, Nat.reduceSub, Int.reduceAdd, Int.reduceSub, Nat.reduceLeDiff, Int.reduceLT, Int.reduceLE, Int.reduceEq, Int.reduceNeg, Int.reduceToNat, h0, h1, h7, h8]
    exact ⟨_, by omega, i + 1, rfl, hlt, rfl, by rw [hp, hpi]; rfl⟩
  ·obtain rfl : i = l.length := by omega
   simp (disch := first | rfl | omega | exact lt_new _ | assumption | decide | (simp [dkS] <;> omega) | fail) only [r173_0, r173_1, r173_2, r173_3, r173_4, r173_5, r173_6, l173_7, r173_8, c173, rs173, gc173, go_sem, ↓reduceIte, Nat.reduceLT, Nat.reduceEqDiff, Nat.reduceAdd, Nat.reduceMul, Nat.reduceSub, Int.reduceAdd, Int.reduceSub, Nat.reduceLeDiff, Int.reduceLT, Int.reduceLE, Int.reduceEq, Int.reduceNeg, Int.reduceToNat, h0, h1, h7, h8, Int.lt_irrefl, decide_false]
   refine finQ_same ?_
   rw [hp, List.drop_length]
   simp (disch := first | rfl | omega | exact lt_new _ | assumption | decide | (simp [dkS] <;> omega) | fail) only [go_sem, ↓reduceIte, Nat.reduceLT, Nat.reduceEqDiff, Nat.reduceAdd, Nat.reduceMul, Nat.reduceSub, Int.reduceAdd, Int.reduceSub, Nat.reduceLeDiff, Int.reduceLT, Int.reduceLE, Int.reduceEq, Int.reduceNeg, Int.reduceToNat, findI]
 ·exact ⟨0, by simp [go_sem]⟩
theorem fn147L {b : Bool} {l : List UInt8} {H : Hp} (hlen : l.length < 2 ^ 62) (p : UInt8 → Bool) (f : Nat) (ca cb : List V) (hk : ∀ v, demK f v = v.dem) (hf : ∀ x ∈ l, callL Try.prog pr f (ca ++ [.int .u8 x.toNat] ++ cb) H = some (.bool (p x), H)) : callL Try.prog pr 147 [slV b byE l, .fn f ca cb] H = some (.bool (l.any p), H) := by
 refine run147 (Nat.le_of_ble_eq_true rfl) ?_
 simp (disch := first | rfl | omega | exact lt_new _ | assumption | decide | (simp [dkS] <;> omega) | fail) only [r147_0, r147_1, c147, rs147, gc147, go_sem, ↓reduceIte, Nat.reduceLT, Nat.reduceEqDiff, Nat.reduceAdd, Nat.reduceMul, Nat.reduceSub, Int.reduceAdd, Int.reduceSub, Nat.reduceLeDiff, Int.reduceLT, Int.reduceLE, Int.reduceEq, Int.reduceNeg, Int.reduceToNat, fn173L hlen p f ca cb hk hf]
 refine finQ_same ?_
 simp (disch := first | rfl | omega | exact lt_new _ | assumption | decide | (simp [dkS] <;> omega) | fail) only [go_sem, ↓reduceIte, Nat.reduceLT, Nat.reduceEqDiff, Nat.reduceAdd, Nat.reduceMul, Nat.reduceSub, Int.reduceAdd, Int.reduceSub, Nat.reduceLeDiff, Int.reduceLT, Int.reduceLE, Int.reduceEq, Int.reduceNeg, Int.reduceToNat, findI_any p l 0 (by omega)]
def badC (c : UInt8) : Bool := decide (c.toNat < 32) || decide (126 < c.toNat)
def txB (s : List UInt8) : Bool := decide (s.length ≤ 200) && !s.any badC
def fcB (f : Fc) : Bool := txB f.name && decide (0 ≤ f.link) && decide (f.link ≤ 65535) && decide (0 ≤ f.snap) && decide (f.snap ≤ 400)
def nmB (n : Nm) : Bool := txB n.text && decide (1 ≤ n.addr.length) && decide (n.addr.length ≤ 16)
def scB (s : Sc) : Bool := txB s.label && !decide (s.label = []) && decide (1 ≤ s.key.length) && decide (s.key.length ≤ 200)
def pkB (p : Pk) (snap : Int) : Bool := decide (0 ≤ p.time) && decide (p.time ≤ 1000000000000000) && decide ((p.data.length : Int) ≤ 400) && txB p.note && (decide (snap = 0) || decide ((p.data.length : Int) ≤ snap)) && decide ((p.data.length : Int) ≤ p.real) && decide (p.real ≤ 1000000)
def pfB (p : Pk) (fs : List Fc) : Bool := decide (0 ≤ p.face) && decide (p.face < fs.length) && pkB p (fcE.at fs p.face.toNat).snap
theorem fn148 (c : UInt8) (H : Hp) : callL Try.prog pr 148 [.int .u8 c.toNat] H = some (.bool (badC c), H) := by
 refine run148 (Nat.le_of_ble_eq_true rfl) ?_
 unfold badC
 have e1 : ((c.toNat : Int) < 32) = (c.toNat < 32) := by simp; omega
 have e2 : ((126 : Int) < c.toNat) = (126 < c.toNat) := by simp; omega
 have hy := True.intro
 repeat' (first | simp (disch := first | rfl | omega | exact lt_new _ | assumption | decide | (simp [dkS] <;> omega) | fail) only [r148_0, r148_1, c148, rs148, gc148, e1, e2, go_sem, ↓reduceIte, Nat.reduceLT, Nat.reduceEqDiff, Nat.reduceAdd, Nat.reduceMul, Nat.reduceSub, Int.reduceAdd, Int.reduceSub, Nat.reduceLeDiff, Int.reduceLT, Int.reduceLE, Int.reduceEq, Int.reduceNeg, Int.reduceToNat, hy] | ((first | refine guardB_dec (fun hy => ?_) (fun hy => ?_) | refine guardB_bool (fun hy => ?_) (fun hy => ?_) | refine guardQ_ite (fun hy => ?_) (fun hy => ?_) | refine brQ_dec (fun hy => ?_) (fun hy => ?_) | refine brQ_bool (fun hy => ?_) (fun hy => ?_)) <;> (try simp only [Bool.not_eq_true', Bool.not_eq_false', Bool.and_eq_true, Bool.or_eq_false_iff, decide_eq_true_eq, decide_eq_false_iff_not] at hy)))
 all_goals (try ((first | refine finQ_same ?_ | refine finQ_app ?_ | (rw [List.append_assoc]; refine finQ_app ?_)) <;> simp (disch := first | rfl | omega | exact lt_new _ | assumption | decide | (simp [dkS] <;> omega) | fail) only [go_sem, ↓reduceIte, Nat.reduceLT, Nat.reduceEqDiff, Nat.reduceAdd, Nat.reduceMul, Nat.reduceSub, Int.reduceAdd, Int.reduceSub, Nat.reduceLeDiff, Int.reduceLT, Int.reduceLE, Int.reduceEq, Int.reduceNeg, Int.reduceToNat, List.append_assoc, List.cons_append, List.nil_append, *]))
 all_goals (try first | rfl | (simp [*]; done) | grind)
theorem fn106 (s : List UInt8) (hs : s.length ≤ 2 ^ 62) (H : Hp) : callL Try.prog pr 106 [.str s] H = some (.bool (txB s), H) := by
 refine run106 (Nat.le_of_ble_eq_true rfl) ?_
 unfold txB
 have hl : lenV Try.prog 9 H (.str s) = some (.int .i64 s.length) := by simp [lenV, u9, hs]
 have e1 : ((s.length : Int) ≤ 200) = (s.length ≤ 200) := by simp; omega
 have hcf := fun (b : Bool) (H : Hp) (h : s.length < 2 ^ 62) => fn147L (b := b) (l := s) (H := H) h badC 148 [] [] kp148 (fun x _ => fn148 x H)
 by_cases h : s.length ≤ 200
 ·skip
  have hy := True.intro
  repeat' (first | simp (disch := first | rfl | omega | exact lt_new _ | assumption | decide | (simp [dkS] <;> omega) | fail) only [r106_0, r106_1, c106, rs106, gc106, hl, e1, h, hcf, xi9_37, go_sem, ↓reduceIte, Nat.reduceLT, Nat.reduceEqDiff, Nat.reduceAdd, Nat.reduceMul, Nat.reduceSub, Int.reduceAdd, Int.reduceSub, Nat.reduceLeDiff, Int.reduceLT, Int.reduceLE, Int.reduceEq, Int.reduceNeg, Int.reduceToNat, hy] | ((first | refine guardB_dec (fun hy => ?_) (fun hy => ?_) | refine guardB_bool (fun hy => ?_) (fun hy => ?_) | refine guardQ_ite (fun hy => ?_) (fun hy => ?_) | refine brQ_dec (fun hy => ?_) (fun hy => ?_) | refine brQ_bool (fun hy => ?_) (fun hy => ?_)) <;> (try simp only [Bool.not_eq_true', Bool.not_eq_false', Bool.and_eq_true, Bool.or_eq_false_iff, decide_eq_true_eq, decide_eq_false_iff_not] at hy)))
  all_goals (try ((first | refine finQ_same ?_ | refine finQ_app ?_ | (rw [List.append_assoc]; refine finQ_app ?_)) <;> simp (disch := first | rfl | omega | exact lt_new _ | assumption | decide | (simp [dkS] <;> omega) | fail) only [go_sem, ↓reduceIte, Nat.reduceLT, Nat.reduceEqDiff, Nat.reduceAdd, Nat.reduceMul, Nat.reduceSub, Int.reduceAdd, Int.reduceSub, Nat.reduceLeDiff, Int.reduceLT, Int.reduceLE, Int.reduceEq, Int.reduceNeg, Int.reduceToNat, List.append_assoc, List.cons_append, List.nil_append, *]))
  all_goals (try first | rfl | (simp [*]; done) | grind)
 ·skip
  have hy := True.intro
  repeat' (first | simp (disch := first | rfl | omega | exact lt_new _ | assumption | decide | (simp [dkS] <;> omega) | fail) only [r106_0, r106_1, c106, rs106, gc106, hl, e1, h, go_sem, ↓reduceIte, Nat.reduceLT, Nat.reduceEqDiff, Nat.reduceAdd, Nat.reduceMul, Nat.reduceSub, Int.reduceAdd, Int.reduceSub, Nat.reduceLeDiff, Int.reduceLT, Int.reduceLE, Int.reduceEq, Int.reduceNeg, Int.reduceToNat, hy] | ((first | refine guardB_dec (fun hy => ?_) (fun hy => ?_) | refine guardB_bool (fun hy => ?_) (fun hy => ?_) | refine guardQ_ite (fun hy => ?_) (fun hy => ?_) | refine brQ_dec (fun hy => ?_) (fun hy => ?_) | refine brQ_bool (fun hy => ?_) (fun hy => ?_)) <;> (try simp only [Bool.not_eq_true', Bool.not_eq_false', Bool.and_eq_true, Bool.or_eq_false_iff, decide_eq_true_eq, decide_eq_false_iff_not] at hy)))
  all_goals (try ((first | refine finQ_same ?_ | refine finQ_app ?_ | (rw [List.append_assoc]; refine finQ_app ?_)) <;> simp (disch := first | rfl | omega | exact lt_new _ | assumption | decide | (simp [dkS] <;> omega) | fail) only [go_sem, ↓reduceIte, Nat.reduceLT, Nat.reduceEqDiff, Nat.reduceAdd, Nat.reduceMul, Nat.reduceSub, Int.reduceAdd, Int.reduceSub, Nat.reduceLeDiff, Int.reduceLT, Int.reduceLE, Int.reduceEq, Int.reduceNeg, Int.reduceToNat, List.append_assoc, List.cons_append, List.nil_append, *]))
  all_goals (try first | rfl | (simp [*]; done) | grind)
theorem fn107 (f : Fc) (hf : FcOk f) (H : Hp) : callL Try.prog pr 107 [.agg (fcE.f f)] H = some (.bool (fcB f), H) := by
 have h106 := fn106 f.name (by have := hf.1; omega)
 refine run107 (Nat.le_of_ble_eq_true rfl) ?_
 unfold fcB
 have hy := True.intro
 repeat' (first | simp (disch := first | rfl | omega | exact lt_new _ | assumption | decide | (simp [dkS] <;> omega) | fail) only [r107_0, r107_1, c107, rs107, gc107, h106, go_sem, ↓reduceIte, Nat.reduceLT, Nat.reduceEqDiff, Nat.reduceAdd, Nat.reduceMul, Nat.reduceSub, Int.reduceAdd, Int.reduceSub, Nat.reduceLeDiff, Int.reduceLT, Int.reduceLE, Int.reduceEq, Int.reduceNeg, Int.reduceToNat, hy] | ((first | refine guardB_dec (fun hy => ?_) (fun hy => ?_) | refine guardB_bool (fun hy => ?_) (fun hy => ?_) | refine guardQ_ite (fun hy => ?_) (fun hy => ?_) | refine brQ_dec (fun hy => ?_) (fun hy => ?_) | refine brQ_bool (fun hy => ?_) (fun hy => ?_)) <;> (try simp only [Bool.not_eq_true', Bool.not_eq_false', Bool.and_eq_true, Bool.or_eq_false_iff, decide_eq_true_eq, decide_eq_false_iff_not] at hy)))
 all_goals (try ((first | refine finQ_same ?_ | refine finQ_app ?_ | (rw [List.append_assoc]; refine finQ_app ?_)) <;> simp (disch := first | rfl | omega | exact lt_new _ | assumption | decide | (simp [dkS] <;> omega) | fail) only [go_sem, ↓reduceIte, Nat.reduceLT, Nat.reduceEqDiff, Nat.reduceAdd, Nat.reduceMul, Nat.reduceSub, Int.reduceAdd, Int.reduceSub, Nat.reduceLeDiff, Int.reduceLT, Int.reduceLE, Int.reduceEq, Int.reduceNeg, Int.reduceToNat, List.append_assoc, List.cons_append, List.nil_append, *]))
 all_goals (try first | rfl | (simp [*]; done) | grind)
theorem fn108 (n : Nm) (hn : NmOk n) (H : Hp) : callL Try.prog pr 108 [.agg (nmE.f n)] H = some (.bool (nmB n), H) := by
 have h106 := fn106 n.text (by have := hn.2; omega)
 have e1 : ((1 : Int) ≤ n.addr.length) = (1 ≤ n.addr.length) := by simp; omega
 have e2 : ((n.addr.length : Int) ≤ 16) = (n.addr.length ≤ 16) := by simp; omega
 refine run108 (Nat.le_of_ble_eq_true rfl) ?_
 unfold nmB
 have hy := True.intro
 repeat' (first | simp (disch := first | rfl | omega | exact lt_new _ | assumption | decide | (simp [dkS] <;> omega) | fail) only [r108_0, r108_1, c108, rs108, gc108, h106, e1, e2, go_sem, ↓reduceIte, Nat.reduceLT, Nat.reduceEqDiff, Nat.reduceAdd, Nat.reduceMul, Nat.reduceSub, Int.reduceAdd, Int.reduceSub, Nat.reduceLeDiff, Int.reduceLT, Int.reduceLE, Int.reduceEq, Int.reduceNeg, Int.reduceToNat, hy] | ((first | refine guardB_dec (fun hy => ?_) (fun hy => ?_) | refine guardB_bool (fun hy => ?_) (fun hy => ?_) | refine guardQ_ite (fun hy => ?_) (fun hy => ?_) | refine brQ_dec (fun hy => ?_) (fun hy => ?_) | refine brQ_bool (fun hy => ?_) (fun hy => ?_)) <;> (try simp only [Bool.not_eq_true', Bool.not_eq_false', Bool.and_eq_true, Bool.or_eq_false_iff, decide_eq_true_eq, decide_eq_false_iff_not] at hy)))
 all_goals (try ((first | refine finQ_same ?_ | refine finQ_app ?_ | (rw [List.append_assoc]; refine finQ_app ?_)) <;> simp (disch := first | rfl | omega | exact lt_new _ | assumption | decide | (simp [dkS] <;> omega) | fail) only [go_sem, ↓reduceIte, Nat.reduceLT, Nat.reduceEqDiff, Nat.reduceAdd, Nat.reduceMul, Nat.reduceSub, Int.reduceAdd, Int.reduceSub, Nat.reduceLeDiff, Int.reduceLT, Int.reduceLE, Int.reduceEq, Int.reduceNeg, Int.reduceToNat, List.append_assoc, List.cons_append, List.nil_append, *]))
 all_goals (try first | rfl | (simp [*]; done) | grind)
theorem fn109 (s : Sc) (hs : ScOk s) (H : Hp) : callL Try.prog pr 109 [.agg (scE.f s)] H = some (.bool (scB s), H) := by
 have h106 := fn106 s.label (by have := hs.1; omega)
 have e1 : ((1 : Int) ≤ s.key.length) = (1 ≤ s.key.length) := by simp; omega
 have e2 : ((s.key.length : Int) ≤ 200) = (s.key.length ≤ 200) := by simp; omega
 refine run109 (Nat.le_of_ble_eq_true rfl) ?_
 unfold scB
 have hy := True.intro
 repeat' (first | simp (disch := first | rfl | omega | exact lt_new _ | assumption | decide | (simp [dkS] <;> omega) | fail) only [r109_0, r109_1, c109, rs109, gc109, h106, e1, e2, go_sem, ↓reduceIte, Nat.reduceLT, Nat.reduceEqDiff, Nat.reduceAdd, Nat.reduceMul, Nat.reduceSub, Int.reduceAdd, Int.reduceSub, Nat.reduceLeDiff, Int.reduceLT, Int.reduceLE, Int.reduceEq, Int.reduceNeg, Int.reduceToNat, hy] | ((first | refine guardB_dec (fun hy => ?_) (fun hy => ?_) | refine guardB_bool (fun hy => ?_) (fun hy => ?_) | refine guardQ_ite (fun hy => ?_) (fun hy => ?_) | refine brQ_dec (fun hy => ?_) (fun hy => ?_) | refine brQ_bool (fun hy => ?_) (fun hy => ?_)) <;> (try simp only [Bool.not_eq_true', Bool.not_eq_false', Bool.and_eq_true, Bool.or_eq_false_iff, decide_eq_true_eq, decide_eq_false_iff_not] at hy)))
 all_goals (try ((first | refine finQ_same ?_ | refine finQ_app ?_ | (rw [List.append_assoc]; refine finQ_app ?_)) <;> simp (disch := first | rfl | omega | exact lt_new _ | assumption | decide | (simp [dkS] <;> omega) | fail) only [go_sem, ↓reduceIte, Nat.reduceLT, Nat.reduceEqDiff, Nat.reduceAdd, Nat.reduceMul, Nat.reduceSub, Int.reduceAdd, Int.reduceSub, Nat.reduceLeDiff, Int.reduceLT, Int.reduceLE, Int.reduceEq, Int.reduceNeg, Int.reduceToNat, List.append_assoc, List.cons_append, List.nil_append, *]))
 all_goals (try first | rfl | (simp [*]; done) | grind)
theorem fn110 (p : Pk) (hp : PkOk p) (b : Bool) (fs : List Fc) (H : Hp) : callL Try.prog pr 110 [.agg (pkE.f p), slV b fcE fs] H = some (.bool (pfB p fs), H) := by
 have h106 := fn106 p.note (by have := hp.2.2.2.2; omega)
 have hl := hp.2.2.2.1
 refine run110 (Nat.le_of_ble_eq_true rfl) ?_
 unfold pfB pkB
 by_cases h1 : 0 ≤ p.face ∧ p.face < fs.length
 ·have h1a : ¬ p.face < 0 := by omega
  have h1b : ¬ (fs.length : Int) ≤ p.face := by omega
  have l2 := fun H => ldF2 (H := H) (l := fs) (i := p.face.toNat) (by omega)
  rw [decide_eq_true h1.1, decide_eq_true h1.2]
  have hy := True.intro
  repeat' (first | simp (disch := first | rfl | omega | exact lt_new _ | assumption | decide | (simp [dkS] <;> omega) | fail) only [r110_0, r110_1, r110_2, r110_3, r110_4, c110, rs110, gc110, h106, h1a, h1b, h1, l2, go_sem, ↓reduceIte, Nat.reduceLT, Nat.reduceEqDiff, Nat.reduceAdd, Nat.reduceMul, Nat.reduceSub, Int.reduceAdd, Int.reduceSub, Nat.reduceLeDiff, Int.reduceLT, Int.reduceLE, Int.reduceEq, Int.reduceNeg, Int.reduceToNat, hy] | ((first | refine guardB_dec (fun hy => ?_) (fun hy => ?_) | refine guardB_bool (fun hy => ?_) (fun hy => ?_) | refine guardQ_ite (fun hy => ?_) (fun hy => ?_) | refine brQ_dec (fun hy => ?_) (fun hy => ?_) | refine brQ_bool (fun hy => ?_) (fun hy => ?_)) <;> (try simp only [Bool.not_eq_true', Bool.not_eq_false', Bool.and_eq_true, Bool.or_eq_false_iff, decide_eq_true_eq, decide_eq_false_iff_not] at hy)))
  all_goals (try ((first | refine finQ_same ?_ | refine finQ_app ?_ | (rw [List.append_assoc]; refine finQ_app ?_)) <;> simp (disch := first | rfl | omega | exact lt_new _ | assumption | decide | (simp [dkS] <;> omega) | fail) only [go_sem, ↓reduceIte, Nat.reduceLT, Nat.reduceEqDiff, Nat.reduceAdd, Nat.reduceMul, Nat.reduceSub, Int.reduceAdd, Int.reduceSub, Nat.reduceLeDiff, Int.reduceLT, Int.reduceLE, Int.reduceEq, Int.reduceNeg, Int.reduceToNat, List.append_assoc, List.cons_append, List.nil_append, *]))
  all_goals (try first | rfl | (simp [*]; done) | grind)
 ·have h1b : ¬ p.face < 0 → (fs.length : Int) ≤ p.face := by omega
  have hF : (decide (0 ≤ p.face) && decide (p.face < (fs.length : Int))) = false := by
   simp only [Bool.and_eq_false_iff, decide_eq_false_iff_not]; omega
  rw [hF]
  have hy := True.intro
  repeat' (first | simp (disch := first | rfl | omega | exact lt_new _ | assumption | decide | (simp [dkS] <;> omega) | fail) only [r110_0, r110_1, r110_2, r110_3, r110_4, c110, rs110, gc110, h106, h1b, go_sem, ↓reduceIte, Nat.reduceLT, Nat.reduceEqDiff, Nat.reduceAdd, Nat.reduceMul, Nat.reduceSub, Int.reduceAdd, Int.reduceSub, Nat.reduceLeDiff, Int.reduceLT, Int.reduceLE, Int.reduceEq, Int.reduceNeg, Int.reduceToNat, hy] | ((first | refine guardB_dec (fun hy => ?_) (fun hy => ?_) | refine guardB_bool (fun hy => ?_) (fun hy => ?_) | refine guardQ_ite (fun hy => ?_) (fun hy => ?_) | refine brQ_dec (fun hy => ?_) (fun hy => ?_) | refine brQ_bool (fun hy => ?_) (fun hy => ?_)) <;> (try simp only [Bool.not_eq_true', Bool.not_eq_false', Bool.and_eq_true, Bool.or_eq_false_iff, decide_eq_true_eq, decide_eq_false_iff_not] at hy)))
  all_goals (try ((first | refine finQ_same ?_ | refine finQ_app ?_ | (rw [List.append_assoc]; refine finQ_app ?_)) <;> simp (disch := first | rfl | omega | exact lt_new _ | assumption | decide | (simp [dkS] <;> omega) | fail) only [go_sem, ↓reduceIte, Nat.reduceLT, Nat.reduceEqDiff, Nat.reduceAdd, Nat.reduceMul, Nat.reduceSub, Int.reduceAdd, Int.reduceSub, Nat.reduceLeDiff, Int.reduceLT, Int.reduceLE, Int.reduceEq, Int.reduceNeg, Int.reduceToNat, List.append_assoc, List.cons_append, List.nil_append, *]))
  all_goals (try first | rfl | (simp [*]; done) | grind)
end Go.Proofs.Ytejkgnmjdaohdaa
namespace Go.Proofs.Ytejkgnmjdaohdaa
open Go Go.An
set_option maxRecDepth 4000
def largeB (c : Cp) : Bool := decide ((4 : Int) < c.faces.length) || decide ((60 : Int) < c.names.length) || decide ((60 : Int) < c.secrets.length) || decide ((100 : Int) < c.packets.length)
def wrongB (c : Cp) : Bool := ((((decide ((c.faces.length : Int) = 0) || !txB c.note) || c.faces.any fun f => !fcB f) || c.names.any fun n => !nmB n) || c.secrets.any fun s => !scB s) || c.packets.any fun p => !pfB p c.faces
def valE (c : Cp) : Int := if largeB c = true then 3 else if wrongB c = true then 1 else 0
set_option maxHeartbeats 8000000 in
theorem fn57 (c : Cp) (hc : CpOk c) (H : Hp) : callL Try.prog pr 57 [.agg (cpE.f c)] H = some (.int .i64 (valE c), H) := by
 obtain ⟨o0, o1, o1l, o2, o2l, o3, o3l, o4, o4l⟩ := hc
 have h106 := fn106 c.note (by omega)
 have h107 := fun i (h : i < c.faces.length) H => fn107 (fcE.at c.faces i) (o1 _ (fcE.at_mem h)) H
 have h108 := fun i (h : i < c.names.length) H => fn108 (nmE.at c.names i) (o2 _ (nmE.at_mem h)) H
 have h109 := fun i (h : i < c.secrets.length) H => fn109 (scE.at c.secrets i) (o3 _ (scE.at_mem h)) H
 have h110 := fun i (h : i < c.packets.length) H => fn110 (pkE.at c.packets i) (o4 _ (pkE.at_mem h)) c.facesN c.faces H
 refine pur_eq rfl rfl (by simp [go_sem]) rfl ?_
 clear H
 intro H
 refine run57 (Nat.le_of_ble_eq_true rfl) ?_
 unfold valE
 by_cases hL : largeB c = true
 ·rw [if_pos hL]
  unfold largeB at hL
  simp only [Bool.or_eq_true, decide_eq_true_eq] at hL
  have hy := True.intro
  repeat' (first | simp (disch := first | rfl | omega | exact lt_new _ | assumption | decide | (simp [dkS] <;> omega) | fail) only [r57_0, r57_1, r57_2, c57, rs57, gc57, loadV_ptr, storeV_ptr, tkS, go_sem, ↓reduceIte, Nat.reduceLT, Nat.reduceEqDiff, Nat.reduceAdd, Nat.reduceMul, Nat.reduceSub, Int.reduceAdd, Int.reduceSub, Nat.reduceLeDiff, Int.reduceLT, Int.reduceLE, Int.reduceEq, Int.reduceNeg, Int.reduceToNat, hy] | ((first | refine guardB_dec (fun hy => ?_) (fun hy => ?_) | refine guardB_bool (fun hy => ?_) (fun hy => ?_) | refine guardQ_ite (fun hy => ?_) (fun hy => ?_) | refine brQ_dec (fun hy => ?_) (fun hy => ?_) | refine brQ_bool (fun hy => ?_) (fun hy => ?_)) <;> (try simp only [Bool.not_eq_true', Bool.not_eq_false', Bool.and_eq_true, Bool.or_eq_false_iff, decide_eq_true_eq, decide_eq_false_iff_not] at hy)))
  all_goals first | (refine finQ_app ?_; simp (disch := first | rfl | omega | exact lt_new _ | assumption | decide | (simp [dkS] <;> omega) | fail) only [go_sem, ↓reduceIte, Nat.reduceLT, Nat.reduceEqDiff, Nat.reduceAdd, Nat.reduceMul, Nat.reduceSub, Int.reduceAdd, Int.reduceSub, Nat.reduceLeDiff, Int.reduceLT, Int.reduceLE, Int.reduceEq, Int.reduceNeg, Int.reduceToNat]; done) | omega
 ·rw [if_neg hL]
  unfold largeB at hL
  simp only [Bool.or_eq_true, decide_eq_true_eq, not_or] at hL
  obtain ⟨⟨⟨q1, q2⟩, q3⟩, q4⟩ := hL
  have hy := True.intro
  repeat' (first | simp (disch := first | rfl | omega | exact lt_new _ | assumption | decide | (simp [dkS] <;> omega) | fail) only [r57_0, r57_1, r57_3, r57_4, c57, loadV_ptr, storeV_ptr, tkS, q1, q2, q3, q4, h106, go_sem, ↓reduceIte, Nat.reduceLT, Nat.reduceEqDiff, Nat.reduceAdd, Nat.reduceMul, Nat.reduceSub, Int.reduceAdd, Int.reduceSub, Nat.reduceLeDiff, Int.reduceLT, Int.reduceLE, Int.reduceEq, Int.reduceNeg, Int.reduceToNat, hy] | ((first | refine guardB_dec (fun hy => ?_) (fun hy => ?_) | refine guardB_bool (fun hy => ?_) (fun hy => ?_) | refine guardQ_ite (fun hy => ?_) (fun hy => ?_) | refine brQ_dec (fun hy => ?_) (fun hy => ?_) | refine brQ_bool (fun hy => ?_) (fun hy => ?_)) <;> (try simp only [Bool.not_eq_true', Bool.not_eq_false', Bool.and_eq_true, Bool.or_eq_false_iff, decide_eq_true_eq, decide_eq_false_iff_not] at hy)))
  all_goals
   obtain ⟨w0, hw0⟩ : ∃ w0, (decide ((c.faces.length : Int) = 0) || !txB c.note) = w0 := ⟨_, rfl⟩
   refine Wp_loop (fun m T D H' => ∃ i G, m = c.faces.length - i ∧ i ≤ c.faces.length ∧ D = [] ∧ H' = H ++ .row 0 (cpE.f c) true :: G ∧ get T 1 = .ptr H.length 0 0 ∧ get T 45 = slV c.facesN fcE c.faces ∧ get T 46 = .int .i64 c.faces.length ∧ get T 47 = .int .i64 i ∧ get T 3 = .bool (w0 || (c.faces.take i).any fun f => !fcB f)) ?_ c.faces.length _ _ _ ?_
   case refine_2 =>
    refine ⟨0, [], rfl, by omega, rfl, rfl, ?_, ?_, ?_, ?_, ?_⟩
    all_goals simp (disch := first | rfl | omega | exact lt_new _ | assumption | decide | (simp [dkS] <;> omega) | fail) only [go_sem, ↓reduceIte, Nat.reduceLT, Nat.reduceEqDiff, Nat.reduceAdd, Nat.reduceMul, Nat.reduceSub, Int.reduceAdd, Int.reduceSub, Nat.reduceLeDiff, Int.reduceLT, Int.reduceLE, Int.reduceEq, Int.reduceNeg, Int.reduceToNat]
    all_goals first | rfl | (simp; done) | (rw [hy]; done) | (rw [← hw0, decide_eq_true hy] <;> simp; done) | (rw [← hw0, decide_eq_false hy] <;> simp; done) | fail
   rintro m T D H' ⟨i, G, rfl, hi, rfl, rfl, t1, t45, t46, t47, t3⟩
   by_cases hlt : i < c.faces.length
   ·have hlt' : (i : Int) < c.faces.length := by omega
    have hw := any_take fcE hlt (fun f => !fcB f) w0
    obtain ⟨w1, hw1⟩ : ∃ w1, (w0 || (c.faces.take i).any fun f => !fcB f) = w1 := ⟨_, rfl⟩
    rw [hw1] at t3 hw
    have ld := fun H => ldF (H := H) hlt
    have hf := h107 i hlt
    have hy := True.intro
    repeat' (first | simp (disch := first | rfl | omega | exact lt_new _ | assumption | decide | (simp [dkS] <;> omega) | fail) only [l57_9, r57_5, r57_6, r57_7, r57_8, loadV_ptr, storeV_ptr, tkS, t1, t45, t46, t47, t3, hlt', ld, hf, go_sem, ↓reduceIte, Nat.reduceLT, Nat.reduceEqDiff, Nat.reduceAdd, Nat.reduceMul, Nat.reduceSub, Int.reduceAdd, Int.reduceSub, Nat.reduceLeDiff, Int.reduceLT, Int.reduceLE, Int.reduceEq, Int.reduceNeg, Int.reduceToNat, hy] | ((first | refine guardB_dec (fun hy => ?_) (fun hy => ?_) | refine guardB_bool (fun hy => ?_) (fun hy => ?_) | refine guardQ_ite (fun hy => ?_) (fun hy => ?_) | refine brQ_dec (fun hy => ?_) (fun hy => ?_) | refine brQ_bool (fun hy => ?_) (fun hy => ?_)) <;> (try simp only [Bool.not_eq_true', Bool.not_eq_false', Bool.and_eq_true, Bool.or_eq_false_iff, decide_eq_true_eq, decide_eq_false_iff_not] at hy)))
    all_goals exact ⟨_, by omega, i + 1, _, rfl, hlt, rfl, rfl, by rw [hw]; simp [hy]⟩
   ·obtain rfl : i = c.faces.length := by omega
    rw [List.take_length] at t3
    clear hy
    obtain ⟨v1, hv1⟩ : ∃ v, (w0 || c.faces.any fun f => !fcB f) = v := ⟨_, rfl⟩
    rw [hv1] at t3
    have hy := True.intro
    repeat' (first | simp (disch := first | rfl | omega | exact lt_new _ | assumption | decide | (simp [dkS] <;> omega) | fail) only [l57_9, r57_5, r57_10, loadV_ptr, storeV_ptr, tkS, t1, t45, t46, t47, t3, Int.lt_irrefl, go_sem, ↓reduceIte, Nat.reduceLT, Nat.reduceEqDiff, Nat.reduceAdd, Nat.reduceMul, Nat.reduceSub, Int.reduceAdd, Int.reduceSub, Nat.reduceLeDiff, Int.reduceLT, Int.reduceLE, Int.reduceEq, Int.reduceNeg, Int.reduceToNat, hy] | ((first | refine guardB_dec (fun hy => ?_) (fun hy => ?_) | refine guardB_bool (fun hy => ?_) (fun hy => ?_) | refine guardQ_ite (fun hy => ?_) (fun hy => ?_) | refine brQ_dec (fun hy => ?_) (fun hy => ?_) | refine brQ_bool (fun hy => ?_) (fun hy => ?_)) <;> (try simp only [Bool.not_eq_true', Bool.not_eq_false', Bool.and_eq_true, Bool.or_eq_false_iff, decide_eq_true_eq, decide_eq_false_iff_not] at hy)))
    refine Wp_loop (fun m T D H' => ∃ i G, m = c.names.length - i ∧ i ≤ c.names.length ∧ D = [] ∧ H' = H ++ .row 0 (cpE.f c) true :: G ∧ get T 1 = .ptr H.length 0 0 ∧ get T 59 = slV c.namesN nmE c.names ∧ get T 60 = .int .i64 c.names.length ∧ get T 61 = .int .i64 i ∧ get T 3 = .bool (v1 || (c.names.take i).any fun x => !nmB x)) ?_ c.names.length _ _ _ ?_
    case refine_2 =>
     refine ⟨0, _, rfl, by omega, rfl, rfl, ?_, ?_, ?_, ?_, ?_⟩
     all_goals simp (disch := first | rfl | omega | exact lt_new _ | assumption | decide | (simp [dkS] <;> omega) | fail) only [go_sem, ↓reduceIte, Nat.reduceLT, Nat.reduceEqDiff, Nat.reduceAdd, Nat.reduceMul, Nat.reduceSub, Int.reduceAdd, Int.reduceSub, Nat.reduceLeDiff, Int.reduceLT, Int.reduceLE, Int.reduceEq, Int.reduceNeg, Int.reduceToNat, t1, t3]
     all_goals first | rfl | (simp; done)
    clear t1 t3 t45 t46 t47
    rintro m T D H' ⟨i, G, rfl, hi, rfl, rfl, t1, t59, t60, t61, t3⟩
    by_cases hlt : i < c.names.length
    ·have hlt' : (i : Int) < c.names.length := by omega
     have hw := any_take nmE hlt (fun x => !nmB x) v1
     obtain ⟨w1, hw1⟩ : ∃ w1, (v1 || (c.names.take i).any fun x => !nmB x) = w1 := ⟨_, rfl⟩
     rw [hw1] at t3 hw
     have ld := fun H => ldN (H := H) hlt
     have hf := h108 i hlt
     have hy := True.intro
     repeat' (first | simp (disch := first | rfl | omega | exact lt_new _ | assumption | decide | (simp [dkS] <;> omega) | fail) only [l57_15, r57_11, r57_12, r57_13, r57_14, loadV_ptr, storeV_ptr, tkS, t1, t59, t60, t61, t3, hlt', ld, hf, go_sem, ↓reduceIte, Nat.reduceLT, Nat.reduceEqDiff, Nat.reduceAdd, Nat.reduceMul, Nat.reduceSub, Int.reduceAdd, Int.reduceSub, Nat.reduceLeDiff, Int.reduceLT, Int.reduceLE, Int.reduceEq, Int.reduceNeg, Int.reduceToNat, hy] | ((first | refine guardB_dec (fun hy => ?_) (fun hy => ?_) | refine guardB_bool (fun hy => ?_) (fun hy => ?_) | refine guardQ_ite (fun hy => ?_) (fun hy => ?_) | refine brQ_dec (fun hy => ?_) (fun hy => ?_) | refine brQ_bool (fun hy => ?_) (fun hy => ?_)) <;> (try simp only [Bool.not_eq_true', Bool.not_eq_false', Bool.and_eq_true, Bool.or_eq_false_iff, decide_eq_true_eq, decide_eq_false_iff_not] at hy)))
     all_goals exact ⟨_, by omega, i + 1, _, rfl, hlt, rfl, rfl, by rw [hw]; simp [hy]⟩
    ·obtain rfl : i = c.names.length := by omega
     rw [List.take_length] at t3
     obtain ⟨v2, hv2⟩ : ∃ v, (v1 || c.names.any fun x => !nmB x) = v := ⟨_, rfl⟩
     rw [hv2] at t3
     have hy := True.intro
     repeat' (first | simp (disch := first | rfl | omega | exact lt_new _ | assumption | decide | (simp [dkS] <;> omega) | fail) only [l57_15, r57_11, r57_16, loadV_ptr, storeV_ptr, tkS, t1, t59, t60, t61, t3, Int.lt_irrefl, go_sem, ↓reduceIte, Nat.reduceLT, Nat.reduceEqDiff, Nat.reduceAdd, Nat.reduceMul, Nat.reduceSub, Int.reduceAdd, Int.reduceSub, Nat.reduceLeDiff, Int.reduceLT, Int.reduceLE, Int.reduceEq, Int.reduceNeg, Int.reduceToNat, hy] | ((first | refine guardB_dec (fun hy => ?_) (fun hy => ?_) | refine guardB_bool (fun hy => ?_) (fun hy => ?_) | refine guardQ_ite (fun hy => ?_) (fun hy => ?_) | refine brQ_dec (fun hy => ?_) (fun hy => ?_) | refine brQ_bool (fun hy => ?_) (fun hy => ?_)) <;> (try simp only [Bool.not_eq_true', Bool.not_eq_false', Bool.and_eq_true, Bool.or_eq_false_iff, decide_eq_true_eq, decide_eq_false_iff_not] at hy)))
     refine Wp_loop (fun m T D H' => ∃ i G, m = c.secrets.length - i ∧ i ≤ c.secrets.length ∧ D = [] ∧ H' = H ++ .row 0 (cpE.f c) true :: G ∧ get T 1 = .ptr H.length 0 0 ∧ get T 73 = slV c.secretsN scE c.secrets ∧ get T 74 = .int .i64 c.secrets.length ∧ get T 75 = .int .i64 i ∧ get T 3 = .bool (v2 || (c.secrets.take i).any fun x => !scB x)) ?_ c.secrets.length _ _ _ ?_
     case refine_2 =>
      refine ⟨0, _, rfl, by omega, rfl, rfl, ?_, ?_, ?_, ?_, ?_⟩
      all_goals simp (disch := first | rfl | omega | exact lt_new _ | assumption | decide | (simp [dkS] <;> omega) | fail) only [go_sem, ↓reduceIte, Nat.reduceLT, Nat.reduceEqDiff, Nat.reduceAdd, Nat.reduceMul, Nat.reduceSub, Int.reduceAdd, Int.reduceSub, Nat.reduceLeDiff, Int.reduceLT, Int.reduceLE, Int.reduceEq, Int.reduceNeg, Int.reduceToNat, t1, t3]
      all_goals first | rfl | (simp; done)
     clear t1 t3 t59 t60 t61
     rintro m T D H' ⟨i, G, rfl, hi, rfl, rfl, t1, t73, t74, t75, t3⟩
     by_cases hlt : i < c.secrets.length
     ·have hlt' : (i : Int) < c.secrets.length := by omega
      have hw := any_take scE hlt (fun x => !scB x) v2
      obtain ⟨w1, hw1⟩ : ∃ w1, (v2 || (c.secrets.take i).any fun x => !scB x) = w1 := ⟨_, rfl⟩
      rw [hw1] at t3 hw
      have ld := fun H => ldS (H := H) hlt
      have hf := h109 i hlt
      have hy := True.intro
      repeat' (first | simp (disch := first | rfl | omega | exact lt_new _ | assumption | decide | (simp [dkS] <;> omega) | fail) only [l57_21, r57_17, r57_18, r57_19, r57_20, loadV_ptr, storeV_ptr, tkS, t1, t73, t74, t75, t3, hlt', ld, hf, go_sem, ↓reduceIte, Nat.reduceLT, Nat.reduceEqDiff, Nat.reduceAdd, Nat.reduceMul, Nat.reduceSub, Int.reduceAdd, Int.reduceSub, Nat.reduceLeDiff, Int.reduceLT, Int.reduceLE, Int.reduceEq, Int.reduceNeg, Int.reduceToNat, hy] | ((first | refine guardB_dec (fun hy => ?_) (fun hy => ?_) | refine guardB_bool (fun hy => ?_) (fun hy => ?_) | refine guardQ_ite (fun hy => ?_) (fun hy => ?_) | refine brQ_dec (fun hy => ?_) (fun hy => ?_) | refine brQ_bool (fun hy => ?_) (fun hy => ?_)) <;> (try simp only [Bool.not_eq_true', Bool.not_eq_false', Bool.and_eq_true, Bool.or_eq_false_iff, decide_eq_true_eq, decide_eq_false_iff_not] at hy)))
      all_goals exact ⟨_, by omega, i + 1, _, rfl, hlt, rfl, rfl, by rw [hw]; simp [hy]⟩
     ·obtain rfl : i = c.secrets.length := by omega
      rw [List.take_length] at t3
      obtain ⟨v3, hv3⟩ : ∃ v, (v2 || c.secrets.any fun x => !scB x) = v := ⟨_, rfl⟩
      rw [hv3] at t3
      have hy := True.intro
      repeat' (first | simp (disch := first | rfl | omega | exact lt_new _ | assumption | decide | (simp [dkS] <;> omega) | fail) only [l57_21, r57_17, r57_22, loadV_ptr, storeV_ptr, tkS, t1, t73, t74, t75, t3, Int.lt_irrefl, go_sem, ↓reduceIte, Nat.reduceLT, Nat.reduceEqDiff, Nat.reduceAdd, Nat.reduceMul, Nat.reduceSub, Int.reduceAdd, Int.reduceSub, Nat.reduceLeDiff, Int.reduceLT, Int.reduceLE, Int.reduceEq, Int.reduceNeg, Int.reduceToNat, hy] | ((first | refine guardB_dec (fun hy => ?_) (fun hy => ?_) | refine guardB_bool (fun hy => ?_) (fun hy => ?_) | refine guardQ_ite (fun hy => ?_) (fun hy => ?_) | refine brQ_dec (fun hy => ?_) (fun hy => ?_) | refine brQ_bool (fun hy => ?_) (fun hy => ?_)) <;> (try simp only [Bool.not_eq_true', Bool.not_eq_false', Bool.and_eq_true, Bool.or_eq_false_iff, decide_eq_true_eq, decide_eq_false_iff_not] at hy)))
      refine Wp_loop (fun m T D H' => ∃ i G, m = c.packets.length - i ∧ i ≤ c.packets.length ∧ D = [] ∧ H' = H ++ .row 0 (cpE.f c) true :: G ∧ get T 1 = .ptr H.length 0 0 ∧ get T 87 = slV c.packetsN pkE c.packets ∧ get T 88 = .int .i64 c.packets.length ∧ get T 89 = .int .i64 i ∧ get T 3 = .bool (v3 || (c.packets.take i).any fun x => !pfB x c.faces)) ?_ c.packets.length _ _ _ ?_
      case refine_2 =>
       refine ⟨0, _, rfl, by omega, rfl, rfl, ?_, ?_, ?_, ?_, ?_⟩
       all_goals simp (disch := first | rfl | omega | exact lt_new _ | assumption | decide | (simp [dkS] <;> omega) | fail) only [go_sem, ↓reduceIte, Nat.reduceLT, Nat.reduceEqDiff, Nat.reduceAdd, Nat.reduceMul, Nat.reduceSub, Int.reduceAdd, Int.reduceSub, Nat.reduceLeDiff, Int.reduceLT, Int.reduceLE, Int.reduceEq, Int.reduceNeg, Int.reduceToNat, t1, t3]
       all_goals first | rfl | (simp; done)
      clear t1 t3 t73 t74 t75
      rintro m T D H' ⟨i, G, rfl, hi, rfl, rfl, t1, t87, t88, t89, t3⟩
      by_cases hlt : i < c.packets.length
      ·have hlt' : (i : Int) < c.packets.length := by omega
       have hw := any_take pkE hlt (fun x => !pfB x c.faces) v3
       obtain ⟨w1, hw1⟩ : ∃ w1, (v3 || (c.packets.take i).any fun x => !pfB x c.faces) = w1 := ⟨_, rfl⟩
       rw [hw1] at t3 hw
       have ld := fun H => ldP (H := H) hlt
       have hf := h110 i hlt
       have hy := True.intro
       repeat' (first | simp (disch := first | rfl | omega | exact lt_new _ | assumption | decide | (simp [dkS] <;> omega) | fail) only [l57_27, r57_23, r57_24, r57_25, r57_26, loadV_ptr, storeV_ptr, tkS, t1, t87, t88, t89, t3, hlt', ld, hf, go_sem, ↓reduceIte, Nat.reduceLT, Nat.reduceEqDiff, Nat.reduceAdd, Nat.reduceMul, Nat.reduceSub, Int.reduceAdd, Int.reduceSub, Nat.reduceLeDiff, Int.reduceLT, Int.reduceLE, Int.reduceEq, Int.reduceNeg, Int.reduceToNat, hy] | ((first | refine guardB_dec (fun hy => ?_) (fun hy => ?_) | refine guardB_bool (fun hy => ?_) (fun hy => ?_) | refine guardQ_ite (fun hy => ?_) (fun hy => ?_) | refine brQ_dec (fun hy => ?_) (fun hy => ?_) | refine brQ_bool (fun hy => ?_) (fun hy => ?_)) <;> (try simp only [Bool.not_eq_true', Bool.not_eq_false', Bool.and_eq_true, Bool.or_eq_false_iff, decide_eq_true_eq, decide_eq_false_iff_not] at hy)))
       all_goals exact ⟨_, by omega, i + 1, _, rfl, hlt, rfl, rfl, by rw [hw]; simp [hy]⟩
      ·obtain rfl : i = c.packets.length := by omega
       rw [List.take_length] at t3
       obtain ⟨v4, hv4⟩ : ∃ v, (v3 || c.packets.any fun x => !pfB x c.faces) = v := ⟨_, rfl⟩
       have hwr : wrongB c = v4 := by unfold wrongB; rw [hw0, hv1, hv2, hv3, hv4]
       rw [hv4] at t3
       rw [hwr]
       have hy := True.intro
       repeat' (first | simp (disch := first | rfl | omega | exact lt_new _ | assumption | decide | (simp [dkS] <;> omega) | fail) only [l57_27, r57_23, r57_28, r57_29, r57_30, rs57, gc57, loadV_ptr, storeV_ptr, tkS, t1, t87, t88, t89, t3, Int.lt_irrefl, go_sem, ↓reduceIte, Nat.reduceLT, Nat.reduceEqDiff, Nat.reduceAdd, Nat.reduceMul, Nat.reduceSub, Int.reduceAdd, Int.reduceSub, Nat.reduceLeDiff, Int.reduceLT, Int.reduceLE, Int.reduceEq, Int.reduceNeg, Int.reduceToNat, hy] | ((first | refine guardB_dec (fun hy => ?_) (fun hy => ?_) | refine guardB_bool (fun hy => ?_) (fun hy => ?_) | refine guardQ_ite (fun hy => ?_) (fun hy => ?_) | refine brQ_dec (fun hy => ?_) (fun hy => ?_) | refine brQ_bool (fun hy => ?_) (fun hy => ?_)) <;> (try simp only [Bool.not_eq_true', Bool.not_eq_false', Bool.and_eq_true, Bool.or_eq_false_iff, decide_eq_true_eq, decide_eq_false_iff_not] at hy)))
       all_goals (refine finQ_app ?_; simp (disch := first | rfl | omega | exact lt_new _ | assumption | decide | (simp [dkS] <;> omega) | fail) only [go_sem, ↓reduceIte, Nat.reduceLT, Nat.reduceEqDiff, Nat.reduceAdd, Nat.reduceMul, Nat.reduceSub, Int.reduceAdd, Int.reduceSub, Nat.reduceLeDiff, Int.reduceLT, Int.reduceLE, Int.reduceEq, Int.reduceNeg, Int.reduceToNat, hy])
end Go.Proofs.Ytejkgnmjdaohdaa
