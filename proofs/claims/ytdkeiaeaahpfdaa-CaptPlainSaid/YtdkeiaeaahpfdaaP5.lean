/-
  Texts of this seat, laid together. No statement of the seat stands here.
-/
import Derived.Test.YtdkeiaeaahpfdaaP4
/-
  What this seat's program gives to the abstract machine: its types, its functions' code in short form (printed by a tool). No statement of the seat stands here.
-/
namespace Go.Proofs.Ytdkeiaeaahpfdaa
open Go Go.An

abbrev ExP (k n : Nat) (c : Cc) (rs : List ResultVar) : Prop := ∀ {args : List V} {H : Hp} {R : V × Hp → Prop}, args.length ≤ n → Wp Try.prog (callL Try.prog pr) n c args [] H (RetQ Try.prog rs fun v H' => R (pr.gc k H (v, H'))) → ∃ r, callL Try.prog pr k args H = some r ∧ R r
abbrev RunP (k n : Nat) (c : Cc) (rs : List ResultVar) : Prop := ∀ {args : List V} {H : Hp} {r : V × Hp}, args.length ≤ n → Wp Try.prog (callL Try.prog pr) n c args [] H (RetQ Try.prog rs fun v H' => pr.gc k H (v, H') = r) → callL Try.prog pr k args H = some r
theorem run_of {k n : Nat} {c : Cc} {rs : List ResultVar} (h : ExP k n c rs) : RunP k n c rs := @fun _ _ r ha hw => by
  obtain ⟨_, h1, rfl⟩ := h (R := fun x => x = r) ha hw
  exact h1
abbrev ExPD (k n : Nat) (c : Cc) (rs : List ResultVar) : Prop := ∀ {args : List V} {H : Hp} {R : V × Hp → Prop}, args.length ≤ n → Wp Try.prog (callL Try.prog pr) n c args [] H (RetD Try.prog pr rs fun v H' => R (pr.gc k H (v, H'))) → ∃ r, callL Try.prog pr k args H = some r ∧ R r
abbrev RunPD (k n : Nat) (c : Cc) (rs : List ResultVar) : Prop := ∀ {args : List V} {H : Hp} {r : V × Hp}, args.length ≤ n → Wp Try.prog (callL Try.prog pr) n c args [] H (RetD Try.prog pr rs fun v H' => pr.gc k H (v, H') = r) → callL Try.prog pr k args H = some r
theorem run_ofD {k n : Nat} {c : Cc} {rs : List ResultVar} (h : ExPD k n c rs) : RunPD k n c rs := @fun _ _ r ha hw => by
  obtain ⟨_, h1, rfl⟩ := h (R := fun x => x = r) ha hw
  exact h1
abbrev ExB (k n : Nat) (c : Cc) (rs : List ResultVar) : Prop := ∀ {args : List V} {H : Hp} {R : V × Hp → Prop}, args.length ≤ n → Wp Try.prog (callL Try.prog pr) n c args [] H (RetQ Try.prog rs fun v H' => R (pr.gc k H (v, H'))) → ∃ r, callB Try.prog pr k args H = some r ∧ R r
abbrev RunB (k n : Nat) (c : Cc) (rs : List ResultVar) : Prop := ∀ {args : List V} {H : Hp} {r : V × Hp}, args.length ≤ n → Wp Try.prog (callL Try.prog pr) n c args [] H (RetQ Try.prog rs fun v H' => pr.gc k H (v, H') = r) → callB Try.prog pr k args H = some r
theorem runB_of {k n : Nat} {c : Cc} {rs : List ResultVar} (h : ExB k n c rs) : RunB k n c rs := @fun _ _ r ha hw => by
  obtain ⟨_, h1, rfl⟩ := h (R := fun x => x = r) ha hw
  exact h1
def rngs : Code → List (Code × Code)
  | .rangeFunc _ _ a b => [(a, b)]
  | .seq a b | .cond _ a b => rngs a ++ rngs b
  | .block _ b | .loop b => rngs b
  | _ => []
theorem gcOne {k : Nat} (h : modeOf k = 1) (H : Hp) (r : V × Hp) : pr.gc k H r = gcF H r := (show pr.gc k H r = gcM modeOf k H r from rfl).trans (gcM_one h H r)
theorem gcZero {k : Nat} (h : modeOf k = 0) (H : Hp) (r : V × Hp) : pr.gc k H r = r := (show pr.gc k H r = gcM modeOf k H r from rfl).trans (gcM_zero h H r)
theorem gcTwo {k : Nat} (h : modeOf k = 2) (H : Hp) (r : V × Hp) : pr.gc k H r = gcC H r := (show pr.gc k H r = gcM modeOf k H r from rfl).trans (gcM_two h H r)
@[go_sem] theorem u3 : Try.prog.underlying 3 = some (.int .i64) := by kernel_rfl
@[go_sem] theorem z3 : szOf Try.prog 3 = some 1 := by kernel_rfl
@[go_sem] theorem y3 : bytesOf' Try.prog 3 = some 8 := by kernel_rfl
@[go_sem] theorem g3 : aggT Try.prog 3 = some false := by kernel_rfl
@[go_sem] theorem o3 : zeroV Try.prog 3 = some (.int .i64 0) := by kernel_rfl
@[go_sem] theorem u4 : Try.prog.underlying 4 = some (.bool) := by kernel_rfl
@[go_sem] theorem z4 : szOf Try.prog 4 = some 1 := by kernel_rfl
@[go_sem] theorem y4 : bytesOf' Try.prog 4 = some 1 := by kernel_rfl
@[go_sem] theorem g4 : aggT Try.prog 4 = some false := by kernel_rfl
@[go_sem] theorem o4 : zeroV Try.prog 4 = some (.bool false) := by kernel_rfl
@[go_sem] theorem u5 : Try.prog.underlying 5 = some (.int .u8) := by kernel_rfl
@[go_sem] theorem z5 : szOf Try.prog 5 = some 1 := by kernel_rfl
@[go_sem] theorem y5 : bytesOf' Try.prog 5 = some 1 := by kernel_rfl
@[go_sem] theorem g5 : aggT Try.prog 5 = some false := by kernel_rfl
@[go_sem] theorem o5 : zeroV Try.prog 5 = some (.int .u8 0) := by kernel_rfl
@[go_sem] theorem u9 : Try.prog.underlying 9 = some (.string) := by kernel_rfl
@[go_sem] theorem z9 : szOf Try.prog 9 = some 1 := by kernel_rfl
@[go_sem] theorem y9 : bytesOf' Try.prog 9 = some 16 := by kernel_rfl
@[go_sem] theorem g9 : aggT Try.prog 9 = some false := by kernel_rfl
@[go_sem] theorem o9 : zeroV Try.prog 9 = some (.str []) := by kernel_rfl
@[go_sem] theorem u22 : Try.prog.underlying 22 = some (.slice 46) := by kernel_rfl
@[go_sem] theorem z22 : szOf Try.prog 22 = some 1 := by kernel_rfl
@[go_sem] theorem y22 : bytesOf' Try.prog 22 = some 24 := by kernel_rfl
@[go_sem] theorem g22 : aggT Try.prog 22 = some false := by kernel_rfl
@[go_sem] theorem o22 : zeroV Try.prog 22 = some .nilslice := by kernel_rfl
theorem s22 : sliceT Try.prog 22 3 = true := by kernel_rfl
@[go_sem] theorem i22 {id g off n : Nat} {cp : Cap} {k : IntKind} {j : Int} (hj : 0 ≤ j ∧ j < n) : indexAddrV Try.prog 22 (.slice id g off n 3 cp) (.int k j) = some (.ptr id g (off + j.toNat * 3)) := ia_slice (by kernel_rfl) hj
@[go_sem] theorem n22 {H : Hp} (id g off n : Nat) (cp : Cap) : lenV Try.prog 22 H (.slice id g off n 3 cp) = some (.int .i64 n) := len_slice (sz := 3) (by kernel_rfl) id g off n 3 cp
@[go_sem] theorem is22 {α : Type} {E : Enc α} {l : List α} {b : Bool} {k : IntKind} {j : Int} (hw : E.w = 3) (hj : 0 ≤ j ∧ j < (l.length : Int)) : indexAddrV Try.prog 22 (slV b E l) (.int k j) = some (.ipt (flatE E l) (j.toNat * 3)) := idx_slV s22 hw hj
@[go_sem] theorem ns22 {α : Type} {H : Hp} (b : Bool) (E : Enc α) (l : List α) : lenV Try.prog 22 H (slV b E l) = some (.int .i64 l.length) := len_slV s22 b E l
@[go_sem] theorem nb22 {H : Hp} (n g w : Nat) (xs : List (List V)) : lenV Try.prog 22 H (blV n g w xs) = some (.int .i64 xs.length) := len_blV s22 n g w xs
@[go_sem] theorem lo22 {H : Hp} (x : V) (hi : Option V) : sliceV Try.prog 22 H x none hi = sliceV Try.prog 22 H x (some (.int .i64 0)) hi := lo_slV ⟨_, u22⟩
@[go_sem] theorem hi22 {α : Type} {E : Enc α} {l : List α} {b : Bool} {H : Hp} (lo : Option V) : sliceV Try.prog 22 H (slV b E l) lo none = sliceV Try.prog 22 H (slV b E l) lo (some (.int .i64 l.length)) := hi_slV s22
@[go_sem] theorem ct22 {α : Type} {E : Enc α} {l : List α} {b : Bool} {H : Hp} {k k' : IntKind} {lo hi : Int} (hw : E.w = 3) (h : 0 ≤ lo ∧ lo ≤ hi ∧ hi ≤ (l.length : Int)) : sliceV Try.prog 22 H (slV b E l) (some (.int k lo)) (some (.int k' hi)) = some (slV (b && decide (l.length = 0)) E ((l.drop lo.toNat).take (hi.toNat - lo.toNat))) := cut_slV s22 hw h
@[go_sem] theorem m22 {H : Hp} : lenV Try.prog 22 H .nilslice = some (.int .i64 0) := len_nilslice (sz := 3) (by kernel_rfl)
@[go_sem] theorem u23 : Try.prog.underlying 23 = some (.slice 41) := by kernel_rfl
@[go_sem] theorem z23 : szOf Try.prog 23 = some 1 := by kernel_rfl
@[go_sem] theorem y23 : bytesOf' Try.prog 23 = some 24 := by kernel_rfl
@[go_sem] theorem g23 : aggT Try.prog 23 = some false := by kernel_rfl
@[go_sem] theorem o23 : zeroV Try.prog 23 = some .nilslice := by kernel_rfl
theorem s23 : sliceT Try.prog 23 2 = true := by kernel_rfl
@[go_sem] theorem i23 {id g off n : Nat} {cp : Cap} {k : IntKind} {j : Int} (hj : 0 ≤ j ∧ j < n) : indexAddrV Try.prog 23 (.slice id g off n 2 cp) (.int k j) = some (.ptr id g (off + j.toNat * 2)) := ia_slice (by kernel_rfl) hj
@[go_sem] theorem n23 {H : Hp} (id g off n : Nat) (cp : Cap) : lenV Try.prog 23 H (.slice id g off n 2 cp) = some (.int .i64 n) := len_slice (sz := 2) (by kernel_rfl) id g off n 2 cp
@[go_sem] theorem is23 {α : Type} {E : Enc α} {l : List α} {b : Bool} {k : IntKind} {j : Int} (hw : E.w = 2) (hj : 0 ≤ j ∧ j < (l.length : Int)) : indexAddrV Try.prog 23 (slV b E l) (.int k j) = some (.ipt (flatE E l) (j.toNat * 2)) := idx_slV s23 hw hj
@[go_sem] theorem ns23 {α : Type} {H : Hp} (b : Bool) (E : Enc α) (l : List α) : lenV Try.prog 23 H (slV b E l) = some (.int .i64 l.length) := len_slV s23 b E l
@[go_sem] theorem nb23 {H : Hp} (n g w : Nat) (xs : List (List V)) : lenV Try.prog 23 H (blV n g w xs) = some (.int .i64 xs.length) := len_blV s23 n g w xs
@[go_sem] theorem lo23 {H : Hp} (x : V) (hi : Option V) : sliceV Try.prog 23 H x none hi = sliceV Try.prog 23 H x (some (.int .i64 0)) hi := lo_slV ⟨_, u23⟩
@[go_sem] theorem hi23 {α : Type} {E : Enc α} {l : List α} {b : Bool} {H : Hp} (lo : Option V) : sliceV Try.prog 23 H (slV b E l) lo none = sliceV Try.prog 23 H (slV b E l) lo (some (.int .i64 l.length)) := hi_slV s23
@[go_sem] theorem ct23 {α : Type} {E : Enc α} {l : List α} {b : Bool} {H : Hp} {k k' : IntKind} {lo hi : Int} (hw : E.w = 2) (h : 0 ≤ lo ∧ lo ≤ hi ∧ hi ≤ (l.length : Int)) : sliceV Try.prog 23 H (slV b E l) (some (.int k lo)) (some (.int k' hi)) = some (slV (b && decide (l.length = 0)) E ((l.drop lo.toNat).take (hi.toNat - lo.toNat))) := cut_slV s23 hw h
@[go_sem] theorem m23 {H : Hp} : lenV Try.prog 23 H .nilslice = some (.int .i64 0) := len_nilslice (sz := 2) (by kernel_rfl)
@[go_sem] theorem u24 : Try.prog.underlying 24 = some (.slice 51) := by kernel_rfl
@[go_sem] theorem z24 : szOf Try.prog 24 = some 1 := by kernel_rfl
@[go_sem] theorem y24 : bytesOf' Try.prog 24 = some 24 := by kernel_rfl
@[go_sem] theorem g24 : aggT Try.prog 24 = some false := by kernel_rfl
@[go_sem] theorem o24 : zeroV Try.prog 24 = some .nilslice := by kernel_rfl
theorem s24 : sliceT Try.prog 24 2 = true := by kernel_rfl
@[go_sem] theorem i24 {id g off n : Nat} {cp : Cap} {k : IntKind} {j : Int} (hj : 0 ≤ j ∧ j < n) : indexAddrV Try.prog 24 (.slice id g off n 2 cp) (.int k j) = some (.ptr id g (off + j.toNat * 2)) := ia_slice (by kernel_rfl) hj
@[go_sem] theorem n24 {H : Hp} (id g off n : Nat) (cp : Cap) : lenV Try.prog 24 H (.slice id g off n 2 cp) = some (.int .i64 n) := len_slice (sz := 2) (by kernel_rfl) id g off n 2 cp
@[go_sem] theorem is24 {α : Type} {E : Enc α} {l : List α} {b : Bool} {k : IntKind} {j : Int} (hw : E.w = 2) (hj : 0 ≤ j ∧ j < (l.length : Int)) : indexAddrV Try.prog 24 (slV b E l) (.int k j) = some (.ipt (flatE E l) (j.toNat * 2)) := idx_slV s24 hw hj
@[go_sem] theorem ns24 {α : Type} {H : Hp} (b : Bool) (E : Enc α) (l : List α) : lenV Try.prog 24 H (slV b E l) = some (.int .i64 l.length) := len_slV s24 b E l
@[go_sem] theorem nb24 {H : Hp} (n g w : Nat) (xs : List (List V)) : lenV Try.prog 24 H (blV n g w xs) = some (.int .i64 xs.length) := len_blV s24 n g w xs
@[go_sem] theorem lo24 {H : Hp} (x : V) (hi : Option V) : sliceV Try.prog 24 H x none hi = sliceV Try.prog 24 H x (some (.int .i64 0)) hi := lo_slV ⟨_, u24⟩
@[go_sem] theorem hi24 {α : Type} {E : Enc α} {l : List α} {b : Bool} {H : Hp} (lo : Option V) : sliceV Try.prog 24 H (slV b E l) lo none = sliceV Try.prog 24 H (slV b E l) lo (some (.int .i64 l.length)) := hi_slV s24
@[go_sem] theorem ct24 {α : Type} {E : Enc α} {l : List α} {b : Bool} {H : Hp} {k k' : IntKind} {lo hi : Int} (hw : E.w = 2) (h : 0 ≤ lo ∧ lo ≤ hi ∧ hi ≤ (l.length : Int)) : sliceV Try.prog 24 H (slV b E l) (some (.int k lo)) (some (.int k' hi)) = some (slV (b && decide (l.length = 0)) E ((l.drop lo.toNat).take (hi.toNat - lo.toNat))) := cut_slV s24 hw h
@[go_sem] theorem m24 {H : Hp} : lenV Try.prog 24 H .nilslice = some (.int .i64 0) := len_nilslice (sz := 2) (by kernel_rfl)
@[go_sem] theorem u25 : Try.prog.underlying 25 = some (.slice 39) := by kernel_rfl
@[go_sem] theorem z25 : szOf Try.prog 25 = some 1 := by kernel_rfl
@[go_sem] theorem y25 : bytesOf' Try.prog 25 = some 24 := by kernel_rfl
@[go_sem] theorem g25 : aggT Try.prog 25 = some false := by kernel_rfl
@[go_sem] theorem o25 : zeroV Try.prog 25 = some .nilslice := by kernel_rfl
theorem s25 : sliceT Try.prog 25 5 = true := by kernel_rfl
@[go_sem] theorem i25 {id g off n : Nat} {cp : Cap} {k : IntKind} {j : Int} (hj : 0 ≤ j ∧ j < n) : indexAddrV Try.prog 25 (.slice id g off n 5 cp) (.int k j) = some (.ptr id g (off + j.toNat * 5)) := ia_slice (by kernel_rfl) hj
@[go_sem] theorem n25 {H : Hp} (id g off n : Nat) (cp : Cap) : lenV Try.prog 25 H (.slice id g off n 5 cp) = some (.int .i64 n) := len_slice (sz := 5) (by kernel_rfl) id g off n 5 cp
@[go_sem] theorem is25 {α : Type} {E : Enc α} {l : List α} {b : Bool} {k : IntKind} {j : Int} (hw : E.w = 5) (hj : 0 ≤ j ∧ j < (l.length : Int)) : indexAddrV Try.prog 25 (slV b E l) (.int k j) = some (.ipt (flatE E l) (j.toNat * 5)) := idx_slV s25 hw hj
@[go_sem] theorem ns25 {α : Type} {H : Hp} (b : Bool) (E : Enc α) (l : List α) : lenV Try.prog 25 H (slV b E l) = some (.int .i64 l.length) := len_slV s25 b E l
@[go_sem] theorem nb25 {H : Hp} (n g w : Nat) (xs : List (List V)) : lenV Try.prog 25 H (blV n g w xs) = some (.int .i64 xs.length) := len_blV s25 n g w xs
@[go_sem] theorem lo25 {H : Hp} (x : V) (hi : Option V) : sliceV Try.prog 25 H x none hi = sliceV Try.prog 25 H x (some (.int .i64 0)) hi := lo_slV ⟨_, u25⟩
@[go_sem] theorem hi25 {α : Type} {E : Enc α} {l : List α} {b : Bool} {H : Hp} (lo : Option V) : sliceV Try.prog 25 H (slV b E l) lo none = sliceV Try.prog 25 H (slV b E l) lo (some (.int .i64 l.length)) := hi_slV s25
@[go_sem] theorem ct25 {α : Type} {E : Enc α} {l : List α} {b : Bool} {H : Hp} {k k' : IntKind} {lo hi : Int} (hw : E.w = 5) (h : 0 ≤ lo ∧ lo ≤ hi ∧ hi ≤ (l.length : Int)) : sliceV Try.prog 25 H (slV b E l) (some (.int k lo)) (some (.int k' hi)) = some (slV (b && decide (l.length = 0)) E ((l.drop lo.toNat).take (hi.toNat - lo.toNat))) := cut_slV s25 hw h
@[go_sem] theorem m25 {H : Hp} : lenV Try.prog 25 H .nilslice = some (.int .i64 0) := len_nilslice (sz := 5) (by kernel_rfl)
@[go_sem] theorem z27 : szOf Try.prog 27 = some 5 := by kernel_rfl
@[go_sem] theorem y27 : bytesOf' Try.prog 27 = some 112 := by kernel_rfl
@[go_sem] theorem g27 : aggT Try.prog 27 = some true := by kernel_rfl
@[go_sem] theorem o27 : zeroV Try.prog 27 = some (.agg [.str [], .nilslice, .nilslice, .nilslice, .nilslice]) := by kernel_rfl
@[go_sem] theorem ai27 (cs : List V) (off i : Nat) : fieldAddrV Try.prog 27 (.ipt cs off) i = fieldAtI [0, 1, 2, 3, 4] cs off i := fieldAtI_eq (by kernel_rfl) cs off i
@[go_sem] theorem a27 (id g off i : Nat) : fieldAddrV Try.prog 27 (.ptr id g off) i = fieldAt [0, 1, 2, 3, 4] id g off i := fieldAt_eq (by kernel_rfl) id g off i
@[go_sem] theorem p27 (cs : List V) (i : Nat) : fieldV Try.prog 27 (.agg cs) i = fieldOf Try.prog [(9, 0), (22, 1), (23, 2), (24, 3), (25, 4)] cs i := fieldOf_eq (by kernel_rfl) cs i
@[go_sem] theorem h27 (ps : List (Nat × V)) : buildV Try.prog 27 ps = buildOf [.str [], .nilslice, .nilslice, .nilslice, .nilslice] [(0, 1), (1, 1), (2, 1), (3, 1), (4, 1)] ps := buildOf_eq (by kernel_rfl) (by kernel_rfl) ps
@[go_sem] theorem u30 : Try.prog.underlying 30 = some (.int .i64) := by kernel_rfl
@[go_sem] theorem z30 : szOf Try.prog 30 = some 1 := by kernel_rfl
@[go_sem] theorem y30 : bytesOf' Try.prog 30 = some 8 := by kernel_rfl
@[go_sem] theorem g30 : aggT Try.prog 30 = some false := by kernel_rfl
@[go_sem] theorem o30 : zeroV Try.prog 30 = some (.int .i64 0) := by kernel_rfl
@[go_sem] theorem u34 : Try.prog.underlying 34 = some (.slice 5) := by kernel_rfl
@[go_sem] theorem z34 : szOf Try.prog 34 = some 1 := by kernel_rfl
@[go_sem] theorem y34 : bytesOf' Try.prog 34 = some 24 := by kernel_rfl
@[go_sem] theorem g34 : aggT Try.prog 34 = some false := by kernel_rfl
@[go_sem] theorem o34 : zeroV Try.prog 34 = some .nilslice := by kernel_rfl
theorem s34 : sliceT Try.prog 34 1 = true := by kernel_rfl
@[go_sem] theorem i34 {id g off n : Nat} {cp : Cap} {k : IntKind} {j : Int} (hj : 0 ≤ j ∧ j < n) : indexAddrV Try.prog 34 (.slice id g off n 1 cp) (.int k j) = some (.ptr id g (off + j.toNat * 1)) := ia_slice (by kernel_rfl) hj
@[go_sem] theorem n34 {H : Hp} (id g off n : Nat) (cp : Cap) : lenV Try.prog 34 H (.slice id g off n 1 cp) = some (.int .i64 n) := len_slice (sz := 1) (by kernel_rfl) id g off n 1 cp
@[go_sem] theorem is34 {α : Type} {E : Enc α} {l : List α} {b : Bool} {k : IntKind} {j : Int} (hw : E.w = 1) (hj : 0 ≤ j ∧ j < (l.length : Int)) : indexAddrV Try.prog 34 (slV b E l) (.int k j) = some (.ipt (flatE E l) (j.toNat * 1)) := idx_slV s34 hw hj
@[go_sem] theorem ns34 {α : Type} {H : Hp} (b : Bool) (E : Enc α) (l : List α) : lenV Try.prog 34 H (slV b E l) = some (.int .i64 l.length) := len_slV s34 b E l
@[go_sem] theorem nb34 {H : Hp} (n g w : Nat) (xs : List (List V)) : lenV Try.prog 34 H (blV n g w xs) = some (.int .i64 xs.length) := len_blV s34 n g w xs
@[go_sem] theorem lo34 {H : Hp} (x : V) (hi : Option V) : sliceV Try.prog 34 H x none hi = sliceV Try.prog 34 H x (some (.int .i64 0)) hi := lo_slV ⟨_, u34⟩
@[go_sem] theorem hi34 {α : Type} {E : Enc α} {l : List α} {b : Bool} {H : Hp} (lo : Option V) : sliceV Try.prog 34 H (slV b E l) lo none = sliceV Try.prog 34 H (slV b E l) lo (some (.int .i64 l.length)) := hi_slV s34
@[go_sem] theorem ct34 {α : Type} {E : Enc α} {l : List α} {b : Bool} {H : Hp} {k k' : IntKind} {lo hi : Int} (hw : E.w = 1) (h : 0 ≤ lo ∧ lo ≤ hi ∧ hi ≤ (l.length : Int)) : sliceV Try.prog 34 H (slV b E l) (some (.int k lo)) (some (.int k' hi)) = some (slV (b && decide (l.length = 0)) E ((l.drop lo.toNat).take (hi.toNat - lo.toNat))) := cut_slV s34 hw h
@[go_sem] theorem m34 {H : Hp} : lenV Try.prog 34 H .nilslice = some (.int .i64 0) := len_nilslice (sz := 1) (by kernel_rfl)
@[go_sem] theorem z39 : szOf Try.prog 39 = some 5 := by kernel_rfl
@[go_sem] theorem y39 : bytesOf' Try.prog 39 = some 64 := by kernel_rfl
@[go_sem] theorem g39 : aggT Try.prog 39 = some true := by kernel_rfl
@[go_sem] theorem o39 : zeroV Try.prog 39 = some (.agg [.int .i64 0, .int .i64 0, .int .i64 0, .nilslice, .str []]) := by kernel_rfl
@[go_sem] theorem ai39 (cs : List V) (off i : Nat) : fieldAddrV Try.prog 39 (.ipt cs off) i = fieldAtI [0, 1, 2, 3, 4] cs off i := fieldAtI_eq (by kernel_rfl) cs off i
@[go_sem] theorem a39 (id g off i : Nat) : fieldAddrV Try.prog 39 (.ptr id g off) i = fieldAt [0, 1, 2, 3, 4] id g off i := fieldAt_eq (by kernel_rfl) id g off i
@[go_sem] theorem p39 (cs : List V) (i : Nat) : fieldV Try.prog 39 (.agg cs) i = fieldOf Try.prog [(3, 0), (3, 1), (3, 2), (34, 3), (9, 4)] cs i := fieldOf_eq (by kernel_rfl) cs i
@[go_sem] theorem h39 (ps : List (Nat × V)) : buildV Try.prog 39 ps = buildOf [.int .i64 0, .int .i64 0, .int .i64 0, .nilslice, .str []] [(0, 1), (1, 1), (2, 1), (3, 1), (4, 1)] ps := buildOf_eq (by kernel_rfl) (by kernel_rfl) ps
@[go_sem] theorem z41 : szOf Try.prog 41 = some 2 := by kernel_rfl
@[go_sem] theorem y41 : bytesOf' Try.prog 41 = some 40 := by kernel_rfl
@[go_sem] theorem g41 : aggT Try.prog 41 = some true := by kernel_rfl
@[go_sem] theorem o41 : zeroV Try.prog 41 = some (.agg [.nilslice, .str []]) := by kernel_rfl
@[go_sem] theorem ai41 (cs : List V) (off i : Nat) : fieldAddrV Try.prog 41 (.ipt cs off) i = fieldAtI [0, 1] cs off i := fieldAtI_eq (by kernel_rfl) cs off i
@[go_sem] theorem a41 (id g off i : Nat) : fieldAddrV Try.prog 41 (.ptr id g off) i = fieldAt [0, 1] id g off i := fieldAt_eq (by kernel_rfl) id g off i
@[go_sem] theorem p41 (cs : List V) (i : Nat) : fieldV Try.prog 41 (.agg cs) i = fieldOf Try.prog [(34, 0), (9, 1)] cs i := fieldOf_eq (by kernel_rfl) cs i
@[go_sem] theorem h41 (ps : List (Nat × V)) : buildV Try.prog 41 ps = buildOf [.nilslice, .str []] [(0, 1), (1, 1)] ps := buildOf_eq (by kernel_rfl) (by kernel_rfl) ps
@[go_sem] theorem z46 : szOf Try.prog 46 = some 3 := by kernel_rfl
@[go_sem] theorem y46 : bytesOf' Try.prog 46 = some 32 := by kernel_rfl
@[go_sem] theorem g46 : aggT Try.prog 46 = some true := by kernel_rfl
@[go_sem] theorem o46 : zeroV Try.prog 46 = some (.agg [.str [], .int .i64 0, .int .i64 0]) := by kernel_rfl
@[go_sem] theorem ai46 (cs : List V) (off i : Nat) : fieldAddrV Try.prog 46 (.ipt cs off) i = fieldAtI [0, 1, 2] cs off i := fieldAtI_eq (by kernel_rfl) cs off i
@[go_sem] theorem a46 (id g off i : Nat) : fieldAddrV Try.prog 46 (.ptr id g off) i = fieldAt [0, 1, 2] id g off i := fieldAt_eq (by kernel_rfl) id g off i
@[go_sem] theorem p46 (cs : List V) (i : Nat) : fieldV Try.prog 46 (.agg cs) i = fieldOf Try.prog [(9, 0), (3, 1), (3, 2)] cs i := fieldOf_eq (by kernel_rfl) cs i
@[go_sem] theorem h46 (ps : List (Nat × V)) : buildV Try.prog 46 ps = buildOf [.str [], .int .i64 0, .int .i64 0] [(0, 1), (1, 1), (2, 1)] ps := buildOf_eq (by kernel_rfl) (by kernel_rfl) ps
@[go_sem] theorem z51 : szOf Try.prog 51 = some 2 := by kernel_rfl
@[go_sem] theorem y51 : bytesOf' Try.prog 51 = some 40 := by kernel_rfl
@[go_sem] theorem g51 : aggT Try.prog 51 = some true := by kernel_rfl
@[go_sem] theorem o51 : zeroV Try.prog 51 = some (.agg [.str [], .nilslice]) := by kernel_rfl
@[go_sem] theorem ai51 (cs : List V) (off i : Nat) : fieldAddrV Try.prog 51 (.ipt cs off) i = fieldAtI [0, 1] cs off i := fieldAtI_eq (by kernel_rfl) cs off i
@[go_sem] theorem a51 (id g off i : Nat) : fieldAddrV Try.prog 51 (.ptr id g off) i = fieldAt [0, 1] id g off i := fieldAt_eq (by kernel_rfl) id g off i
@[go_sem] theorem p51 (cs : List V) (i : Nat) : fieldV Try.prog 51 (.agg cs) i = fieldOf Try.prog [(9, 0), (34, 1)] cs i := fieldOf_eq (by kernel_rfl) cs i
@[go_sem] theorem h51 (ps : List (Nat × V)) : buildV Try.prog 51 ps = buildOf [.str [], .nilslice] [(0, 1), (1, 1)] ps := buildOf_eq (by kernel_rfl) (by kernel_rfl) ps
@[go_sem] theorem z52 : szOf Try.prog 52 = some 1 := by kernel_rfl
@[go_sem] theorem y52 : bytesOf' Try.prog 52 = some 8 := by kernel_rfl
@[go_sem] theorem g52 : aggT Try.prog 52 = some false := by kernel_rfl
@[go_sem] theorem o52 : zeroV Try.prog 52 = some .nilfn := by kernel_rfl
@[go_sem] theorem u53 : Try.prog.underlying 53 = some (.pointer 58) := by kernel_rfl
@[go_sem] theorem z53 : szOf Try.prog 53 = some 1 := by kernel_rfl
@[go_sem] theorem y53 : bytesOf' Try.prog 53 = some 8 := by kernel_rfl
@[go_sem] theorem g53 : aggT Try.prog 53 = some false := by kernel_rfl
@[go_sem] theorem o53 : zeroV Try.prog 53 = some .nilptr := by kernel_rfl
@[go_sem] theorem z55 : szOf Try.prog 55 = some 1 := by kernel_rfl
@[go_sem] theorem y55 : bytesOf' Try.prog 55 = some 16 := by kernel_rfl
@[go_sem] theorem g55 : aggT Try.prog 55 = some false := by kernel_rfl
@[go_sem] theorem o55 : zeroV Try.prog 55 = some .nilif := by kernel_rfl
@[go_sem] theorem z58 : szOf Try.prog 58 = some 2 := by kernel_rfl
@[go_sem] theorem y58 : bytesOf' Try.prog 58 = some 40 := by kernel_rfl
@[go_sem] theorem g58 : aggT Try.prog 58 = some true := by kernel_rfl
@[go_sem] theorem o58 : zeroV Try.prog 58 = some (.agg [.nilif, .nilslice]) := by kernel_rfl
@[go_sem] theorem ai58 (cs : List V) (off i : Nat) : fieldAddrV Try.prog 58 (.ipt cs off) i = fieldAtI [0, 1] cs off i := fieldAtI_eq (by kernel_rfl) cs off i
@[go_sem] theorem a58 (id g off i : Nat) : fieldAddrV Try.prog 58 (.ptr id g off) i = fieldAt [0, 1] id g off i := fieldAt_eq (by kernel_rfl) id g off i
@[go_sem] theorem p58 (cs : List V) (i : Nat) : fieldV Try.prog 58 (.agg cs) i = fieldOf Try.prog [(55, 0), (34, 1)] cs i := fieldOf_eq (by kernel_rfl) cs i
@[go_sem] theorem h58 (ps : List (Nat × V)) : buildV Try.prog 58 ps = buildOf [.nilif, .nilslice] [(0, 1), (1, 1)] ps := buildOf_eq (by kernel_rfl) (by kernel_rfl) ps
@[go_sem] theorem z61 : szOf Try.prog 61 = some 1 := by kernel_rfl
@[go_sem] theorem y61 : bytesOf' Try.prog 61 = some 8 := by kernel_rfl
@[go_sem] theorem g61 : aggT Try.prog 61 = some false := by kernel_rfl
@[go_sem] theorem o61 : zeroV Try.prog 61 = some .nilfn := by kernel_rfl
@[go_sem] theorem z63 : szOf Try.prog 63 = some 1 := by kernel_rfl
@[go_sem] theorem y63 : bytesOf' Try.prog 63 = some 8 := by kernel_rfl
@[go_sem] theorem g63 : aggT Try.prog 63 = some false := by kernel_rfl
@[go_sem] theorem o63 : zeroV Try.prog 63 = some .nilfn := by kernel_rfl
@[go_sem] theorem z77 : szOf Try.prog 77 = some 0 := by kernel_rfl
@[go_sem] theorem y77 : bytesOf' Try.prog 77 = some 0 := by kernel_rfl
@[go_sem] theorem g77 : aggT Try.prog 77 = some true := by kernel_rfl
@[go_sem] theorem o77 : zeroV Try.prog 77 = some (.agg []) := by kernel_rfl
@[go_sem] theorem ai77 (cs : List V) (off i : Nat) : fieldAddrV Try.prog 77 (.ipt cs off) i = fieldAtI [] cs off i := fieldAtI_eq (by kernel_rfl) cs off i
@[go_sem] theorem a77 (id g off i : Nat) : fieldAddrV Try.prog 77 (.ptr id g off) i = fieldAt [] id g off i := fieldAt_eq (by kernel_rfl) id g off i
@[go_sem] theorem p77 (cs : List V) (i : Nat) : fieldV Try.prog 77 (.agg cs) i = fieldOf Try.prog [] cs i := fieldOf_eq (by kernel_rfl) cs i
@[go_sem] theorem h77 (ps : List (Nat × V)) : buildV Try.prog 77 ps = buildOf [] [] ps := buildOf_eq (by kernel_rfl) (by kernel_rfl) ps
@[go_sem] theorem z78 : szOf Try.prog 78 = some 0 := by kernel_rfl
@[go_sem] theorem y78 : bytesOf' Try.prog 78 = some 0 := by kernel_rfl
@[go_sem] theorem g78 : aggT Try.prog 78 = some true := by kernel_rfl
@[go_sem] theorem o78 : zeroV Try.prog 78 = some (.agg []) := by kernel_rfl
@[go_sem] theorem ai78 (cs : List V) (off i : Nat) : fieldAddrV Try.prog 78 (.ipt cs off) i = fieldAtI [] cs off i := fieldAtI_eq (by kernel_rfl) cs off i
@[go_sem] theorem a78 (id g off i : Nat) : fieldAddrV Try.prog 78 (.ptr id g off) i = fieldAt [] id g off i := fieldAt_eq (by kernel_rfl) id g off i
@[go_sem] theorem p78 (cs : List V) (i : Nat) : fieldV Try.prog 78 (.agg cs) i = fieldOf Try.prog [] cs i := fieldOf_eq (by kernel_rfl) cs i
@[go_sem] theorem h78 (ps : List (Nat × V)) : buildV Try.prog 78 ps = buildOf [] [] ps := buildOf_eq (by kernel_rfl) (by kernel_rfl) ps
@[go_sem] theorem z87 : szOf Try.prog 87 = some 1 := by kernel_rfl
@[go_sem] theorem y87 : bytesOf' Try.prog 87 = some 8 := by kernel_rfl
@[go_sem] theorem g87 : aggT Try.prog 87 = some false := by kernel_rfl
@[go_sem] theorem o87 : zeroV Try.prog 87 = some .nilfn := by kernel_rfl
@[go_sem] theorem u89 : Try.prog.underlying 89 = some (.slice 3) := by kernel_rfl
@[go_sem] theorem z89 : szOf Try.prog 89 = some 1 := by kernel_rfl
@[go_sem] theorem y89 : bytesOf' Try.prog 89 = some 24 := by kernel_rfl
@[go_sem] theorem g89 : aggT Try.prog 89 = some false := by kernel_rfl
@[go_sem] theorem o89 : zeroV Try.prog 89 = some .nilslice := by kernel_rfl
theorem s89 : sliceT Try.prog 89 1 = true := by kernel_rfl
@[go_sem] theorem i89 {id g off n : Nat} {cp : Cap} {k : IntKind} {j : Int} (hj : 0 ≤ j ∧ j < n) : indexAddrV Try.prog 89 (.slice id g off n 1 cp) (.int k j) = some (.ptr id g (off + j.toNat * 1)) := ia_slice (by kernel_rfl) hj
@[go_sem] theorem n89 {H : Hp} (id g off n : Nat) (cp : Cap) : lenV Try.prog 89 H (.slice id g off n 1 cp) = some (.int .i64 n) := len_slice (sz := 1) (by kernel_rfl) id g off n 1 cp
@[go_sem] theorem is89 {α : Type} {E : Enc α} {l : List α} {b : Bool} {k : IntKind} {j : Int} (hw : E.w = 1) (hj : 0 ≤ j ∧ j < (l.length : Int)) : indexAddrV Try.prog 89 (slV b E l) (.int k j) = some (.ipt (flatE E l) (j.toNat * 1)) := idx_slV s89 hw hj
@[go_sem] theorem ns89 {α : Type} {H : Hp} (b : Bool) (E : Enc α) (l : List α) : lenV Try.prog 89 H (slV b E l) = some (.int .i64 l.length) := len_slV s89 b E l
@[go_sem] theorem nb89 {H : Hp} (n g w : Nat) (xs : List (List V)) : lenV Try.prog 89 H (blV n g w xs) = some (.int .i64 xs.length) := len_blV s89 n g w xs
@[go_sem] theorem lo89 {H : Hp} (x : V) (hi : Option V) : sliceV Try.prog 89 H x none hi = sliceV Try.prog 89 H x (some (.int .i64 0)) hi := lo_slV ⟨_, u89⟩
@[go_sem] theorem hi89 {α : Type} {E : Enc α} {l : List α} {b : Bool} {H : Hp} (lo : Option V) : sliceV Try.prog 89 H (slV b E l) lo none = sliceV Try.prog 89 H (slV b E l) lo (some (.int .i64 l.length)) := hi_slV s89
@[go_sem] theorem ct89 {α : Type} {E : Enc α} {l : List α} {b : Bool} {H : Hp} {k k' : IntKind} {lo hi : Int} (hw : E.w = 1) (h : 0 ≤ lo ∧ lo ≤ hi ∧ hi ≤ (l.length : Int)) : sliceV Try.prog 89 H (slV b E l) (some (.int k lo)) (some (.int k' hi)) = some (slV (b && decide (l.length = 0)) E ((l.drop lo.toNat).take (hi.toNat - lo.toNat))) := cut_slV s89 hw h
@[go_sem] theorem m89 {H : Hp} : lenV Try.prog 89 H .nilslice = some (.int .i64 0) := len_nilslice (sz := 1) (by kernel_rfl)
@[go_sem] theorem x34_9 {H : Hp} (c : Bool) (l : List UInt8) : convV Try.prog 34 9 H (slV c byE l) = some (.str l, H) := str_slV (by kernel_rfl) c l
@[go_sem] theorem xi9_34 {m : List UInt8} (hm : m.length ≤ 2 ^ 40) : immCv Try.prog 9 34 (.str m) = some (slV false byE m) := ic_slV (by kernel_rfl) hm
@[go_sem] theorem x3_5 {H : Hp} (k : IntKind) (n : Int) : convV Try.prog 3 5 H (.int k n) = some (.int .u8 (IntKind.wrap .u8 n), H) := by
  simp only [convV, u3, u5]
@[go_sem] theorem e46 (xs ys : List V) : binV Try.prog .eql 46 (.agg xs) (.agg ys) = if ckOks [.str, .int .i64, .int .i64] xs = true ∧ ckOks [.str, .int .i64, .int .i64] ys = true then some (.bool (eqCells xs ys)) else none := agg_eq (ks := [.str, .int .i64, .int .i64]) (by kernel_rfl) g46 z46 xs ys
@[go_sem] theorem ne46 (xs ys : List V) : binV Try.prog .neq 46 (.agg xs) (.agg ys) = if ckOks [.str, .int .i64, .int .i64] xs = true ∧ ckOks [.str, .int .i64, .int .i64] ys = true then some (.bool (!eqCells xs ys)) else none := agg_ne (ks := [.str, .int .i64, .int .i64]) (by kernel_rfl) g46 z46 xs ys
@[go_sem] theorem v22s {α : Type} (b : Bool) (E : Enc α) (l : List α) : binV Try.prog .eql 22 (slV b E l) .nilslice = some (.bool (b && decide (l.length = 0))) := (nil_slV (by kernel_rfl) b E l).1
@[go_sem] theorem v22t {α : Type} (b : Bool) (E : Enc α) (l : List α) : binV Try.prog .neq 22 (slV b E l) .nilslice = some (.bool (!(b && decide (l.length = 0)))) := (nil_slV (by kernel_rfl) b E l).2
@[go_sem] theorem v22a (a b c d e : Nat) (cp : Cap) : binV Try.prog .eql 22 (.slice a b c d e cp) .nilslice = some (.bool false) := (sl_nil (by kernel_rfl) a b c d e cp).1
@[go_sem] theorem v22b (a b c d e : Nat) (cp : Cap) : binV Try.prog .neq 22 (.slice a b c d e cp) .nilslice = some (.bool true) := (sl_nil (by kernel_rfl) a b c d e cp).2.1
@[go_sem] theorem v22c : binV Try.prog .eql 22 .nilslice .nilslice = some (.bool true) := (sl_nil (by kernel_rfl) 0 0 0 0 0 .full).2.2.1
@[go_sem] theorem v22d : binV Try.prog .neq 22 .nilslice .nilslice = some (.bool false) := (sl_nil (by kernel_rfl) 0 0 0 0 0 .full).2.2.2
@[go_sem] theorem v23s {α : Type} (b : Bool) (E : Enc α) (l : List α) : binV Try.prog .eql 23 (slV b E l) .nilslice = some (.bool (b && decide (l.length = 0))) := (nil_slV (by kernel_rfl) b E l).1
@[go_sem] theorem v23t {α : Type} (b : Bool) (E : Enc α) (l : List α) : binV Try.prog .neq 23 (slV b E l) .nilslice = some (.bool (!(b && decide (l.length = 0)))) := (nil_slV (by kernel_rfl) b E l).2
@[go_sem] theorem v23a (a b c d e : Nat) (cp : Cap) : binV Try.prog .eql 23 (.slice a b c d e cp) .nilslice = some (.bool false) := (sl_nil (by kernel_rfl) a b c d e cp).1
@[go_sem] theorem v23b (a b c d e : Nat) (cp : Cap) : binV Try.prog .neq 23 (.slice a b c d e cp) .nilslice = some (.bool true) := (sl_nil (by kernel_rfl) a b c d e cp).2.1
@[go_sem] theorem v23c : binV Try.prog .eql 23 .nilslice .nilslice = some (.bool true) := (sl_nil (by kernel_rfl) 0 0 0 0 0 .full).2.2.1
@[go_sem] theorem v23d : binV Try.prog .neq 23 .nilslice .nilslice = some (.bool false) := (sl_nil (by kernel_rfl) 0 0 0 0 0 .full).2.2.2
@[go_sem] theorem v34s {α : Type} (b : Bool) (E : Enc α) (l : List α) : binV Try.prog .eql 34 (slV b E l) .nilslice = some (.bool (b && decide (l.length = 0))) := (nil_slV (by kernel_rfl) b E l).1
@[go_sem] theorem v34t {α : Type} (b : Bool) (E : Enc α) (l : List α) : binV Try.prog .neq 34 (slV b E l) .nilslice = some (.bool (!(b && decide (l.length = 0)))) := (nil_slV (by kernel_rfl) b E l).2
@[go_sem] theorem v34a (a b c d e : Nat) (cp : Cap) : binV Try.prog .eql 34 (.slice a b c d e cp) .nilslice = some (.bool false) := (sl_nil (by kernel_rfl) a b c d e cp).1
@[go_sem] theorem v34b (a b c d e : Nat) (cp : Cap) : binV Try.prog .neq 34 (.slice a b c d e cp) .nilslice = some (.bool true) := (sl_nil (by kernel_rfl) a b c d e cp).2.1
@[go_sem] theorem v34c : binV Try.prog .eql 34 .nilslice .nilslice = some (.bool true) := (sl_nil (by kernel_rfl) 0 0 0 0 0 .full).2.2.1
@[go_sem] theorem v34d : binV Try.prog .neq 34 .nilslice .nilslice = some (.bool false) := (sl_nil (by kernel_rfl) 0 0 0 0 0 .full).2.2.2
@[go_sem] theorem v24s {α : Type} (b : Bool) (E : Enc α) (l : List α) : binV Try.prog .eql 24 (slV b E l) .nilslice = some (.bool (b && decide (l.length = 0))) := (nil_slV (by kernel_rfl) b E l).1
@[go_sem] theorem v24t {α : Type} (b : Bool) (E : Enc α) (l : List α) : binV Try.prog .neq 24 (slV b E l) .nilslice = some (.bool (!(b && decide (l.length = 0)))) := (nil_slV (by kernel_rfl) b E l).2
@[go_sem] theorem v24a (a b c d e : Nat) (cp : Cap) : binV Try.prog .eql 24 (.slice a b c d e cp) .nilslice = some (.bool false) := (sl_nil (by kernel_rfl) a b c d e cp).1
@[go_sem] theorem v24b (a b c d e : Nat) (cp : Cap) : binV Try.prog .neq 24 (.slice a b c d e cp) .nilslice = some (.bool true) := (sl_nil (by kernel_rfl) a b c d e cp).2.1
@[go_sem] theorem v24c : binV Try.prog .eql 24 .nilslice .nilslice = some (.bool true) := (sl_nil (by kernel_rfl) 0 0 0 0 0 .full).2.2.1
@[go_sem] theorem v24d : binV Try.prog .neq 24 .nilslice .nilslice = some (.bool false) := (sl_nil (by kernel_rfl) 0 0 0 0 0 .full).2.2.2
@[go_sem] theorem v25s {α : Type} (b : Bool) (E : Enc α) (l : List α) : binV Try.prog .eql 25 (slV b E l) .nilslice = some (.bool (b && decide (l.length = 0))) := (nil_slV (by kernel_rfl) b E l).1
@[go_sem] theorem v25t {α : Type} (b : Bool) (E : Enc α) (l : List α) : binV Try.prog .neq 25 (slV b E l) .nilslice = some (.bool (!(b && decide (l.length = 0)))) := (nil_slV (by kernel_rfl) b E l).2
@[go_sem] theorem v25a (a b c d e : Nat) (cp : Cap) : binV Try.prog .eql 25 (.slice a b c d e cp) .nilslice = some (.bool false) := (sl_nil (by kernel_rfl) a b c d e cp).1
@[go_sem] theorem v25b (a b c d e : Nat) (cp : Cap) : binV Try.prog .neq 25 (.slice a b c d e cp) .nilslice = some (.bool true) := (sl_nil (by kernel_rfl) a b c d e cp).2.1
@[go_sem] theorem v25c : binV Try.prog .eql 25 .nilslice .nilslice = some (.bool true) := (sl_nil (by kernel_rfl) 0 0 0 0 0 .full).2.2.1
@[go_sem] theorem v25d : binV Try.prog .neq 25 .nilslice .nilslice = some (.bool false) := (sl_nil (by kernel_rfl) 0 0 0 0 0 .full).2.2.2
@[go_sem] theorem ga34_34 {α : Type} {E : Enc α} {l : List α} {b : Bool} (hw : E.w = 1) (h1 : l.length * 1 ≤ 2 ^ 40) (h2 : l.length ≤ 2 ^ 40) : immApp Try.prog 34 34 .nilslice (slV b E l) = some (slV true E l) := ia_slV (by kernel_rfl) hw h1 h2
@[go_sem] theorem w25_25 {H : Hp} (s x : V) : builtinV Try.prog .append #[25, 25] [s, x] H = appOf 5 64 H s x.dem1 := app_eq (by kernel_rfl) s x
@[go_sem] theorem w22_22 {H : Hp} (s x : V) : builtinV Try.prog .append #[22, 22] [s, x] H = appOf 3 32 H s x.dem1 := app_eq (by kernel_rfl) s x
@[go_sem] theorem w34_34 {H : Hp} (s x : V) : builtinV Try.prog .append #[34, 34] [s, x] H = appOf 1 1 H s x.dem1 := app_eq (by kernel_rfl) s x
@[go_sem] theorem w23_23 {H : Hp} (s x : V) : builtinV Try.prog .append #[23, 23] [s, x] H = appOf 2 40 H s x.dem1 := app_eq (by kernel_rfl) s x
@[go_sem] theorem w24_24 {H : Hp} (s x : V) : builtinV Try.prog .append #[24, 24] [s, x] H = appOf 2 40 H s x.dem1 := app_eq (by kernel_rfl) s x
@[go_sem] theorem bb4e (x y : Bool) : binV Try.prog .eql 4 (.bool x) (.bool y) = some (.bool (x == y)) := b_beql 4 x y u4
@[go_sem] theorem bb4n (x y : Bool) : binV Try.prog .neq 4 (.bool x) (.bool y) = some (.bool (!(x == y))) := b_bneq 4 x y u4
@[go_sem] theorem q22 {H : Hp} (v : V) : buildSliceV Try.prog 22 1 [(0, v)] H = if v.cells.all V.isCell = true ∧ v.cells.length = 3 then some (.slice H.length 0 0 1 3 .full, H ++ [.row 0 v.cells true]) else none := bs_if u22 z46 o46 rfl (by decide) (by decide) v
@[go_sem] theorem qi23 (v : V) : immSl Try.prog 23 1 [(0, v)] = if immL v.cells = true ∧ v.cells.length = 2 then some (.isl v.cells 1 2) else none := is_one u23 z41 o41 rfl (by decide) (by decide) v
@[go_sem] theorem q23 {H : Hp} (v : V) : buildSliceV Try.prog 23 1 [(0, v)] H = if v.cells.all V.isCell = true ∧ v.cells.length = 2 then some (.slice H.length 0 0 1 2 .full, H ++ [.row 0 v.cells true]) else none := bs_if u23 z41 o41 rfl (by decide) (by decide) v
@[go_sem] theorem qi24 (v : V) : immSl Try.prog 24 1 [(0, v)] = if immL v.cells = true ∧ v.cells.length = 2 then some (.isl v.cells 1 2) else none := is_one u24 z51 o51 rfl (by decide) (by decide) v
@[go_sem] theorem q24 {H : Hp} (v : V) : buildSliceV Try.prog 24 1 [(0, v)] H = if v.cells.all V.isCell = true ∧ v.cells.length = 2 then some (.slice H.length 0 0 1 2 .full, H ++ [.row 0 v.cells true]) else none := bs_if u24 z51 o51 rfl (by decide) (by decide) v
@[go_sem] theorem qi25 (v : V) : immSl Try.prog 25 1 [(0, v)] = if immL v.cells = true ∧ v.cells.length = 5 then some (.isl v.cells 1 5) else none := is_one u25 z39 o39 rfl (by decide) (by decide) v
@[go_sem] theorem q25 {H : Hp} (v : V) : buildSliceV Try.prog 25 1 [(0, v)] H = if v.cells.all V.isCell = true ∧ v.cells.length = 5 then some (.slice H.length 0 0 1 5 .full, H ++ [.row 0 v.cells true]) else none := bs_if u25 z39 o39 rfl (by decide) (by decide) v
@[go_sem] theorem qi89 (v : V) : immSl Try.prog 89 1 [(0, v)] = if immL v.cells = true ∧ v.cells.length = 1 then some (.isl v.cells 1 1) else none := is_one u89 z3 o3 rfl (by decide) (by decide) v
@[go_sem] theorem qn89_2 (ps : List (Nat × V)) : immSl Try.prog 89 2 ps = (fillV (fun i => some (i * 1, 1)) (repeatV (V.cells (.int .i64 0)) 2) ps).bind fun cs => if immL cs = true then some (.isl cs 2 1) else none := is_gen u89 z3 o3 rfl (by decide) (by decide) ps
@[go_sem] theorem qn89_4 (ps : List (Nat × V)) : immSl Try.prog 89 4 ps = (fillV (fun i => some (i * 1, 1)) (repeatV (V.cells (.int .i64 0)) 4) ps).bind fun cs => if immL cs = true then some (.isl cs 4 1) else none := is_gen u89 z3 o3 rfl (by decide) (by decide) ps
@[go_sem] theorem q89 {H : Hp} (v : V) : buildSliceV Try.prog 89 1 [(0, v)] H = if v.cells.all V.isCell = true ∧ v.cells.length = 1 then some (.slice H.length 0 0 1 1 .full, H ++ [.row 0 v.cells true]) else none := bs_if u89 z3 o3 rfl (by decide) (by decide) v
@[go_sem] theorem qz22 {H : Hp} : buildSliceV Try.prog 22 0 [] H = some (.slice H.length 0 0 0 3 .full, H ++ [.row 0 [] true]) := bs_zero u22 z46 o46 rfl (by decide)
@[go_sem] theorem qz23 {H : Hp} : buildSliceV Try.prog 23 0 [] H = some (.slice H.length 0 0 0 2 .full, H ++ [.row 0 [] true]) := bs_zero u23 z41 o41 rfl (by decide)
@[go_sem] theorem qz34 {H : Hp} : buildSliceV Try.prog 34 0 [] H = some (.slice H.length 0 0 0 1 .full, H ++ [.row 0 [] true]) := bs_zero u34 z5 o5 rfl (by decide)
@[go_sem] theorem qz24 {H : Hp} : buildSliceV Try.prog 24 0 [] H = some (.slice H.length 0 0 0 2 .full, H ++ [.row 0 [] true]) := bs_zero u24 z51 o51 rfl (by decide)
@[go_sem] theorem qz25 {H : Hp} : buildSliceV Try.prog 25 0 [] H = some (.slice H.length 0 0 0 5 .full, H ++ [.row 0 [] true]) := bs_zero u25 z39 o39 rfl (by decide)
@[go_sem] theorem qm89_2 {H : Hp} (ps : List (Nat × V)) : buildSliceV Try.prog 89 2 ps H = (fillV (fun i => some (i * 1, 1)) (repeatV (V.cells (.int .i64 0)) 2) ps).bind fun cs => if cs.all V.isCell = true then some (.slice H.length 0 0 2 1 .full, H ++ [.row 0 cs true]) else none := bs_gen u89 z3 o3 rfl (by decide) (by decide) ps
@[go_sem] theorem qm89_4 {H : Hp} (ps : List (Nat × V)) : buildSliceV Try.prog 89 4 ps H = (fillV (fun i => some (i * 1, 1)) (repeatV (V.cells (.int .i64 0)) 4) ps).bind fun cs => if cs.all V.isCell = true then some (.slice H.length 0 0 4 1 .full, H ++ [.row 0 cs true]) else none := bs_gen u89 z3 o3 rfl (by decide) (by decide) ps
def r3_0 : List Co := [
  co 1 (.box 27 (tm 0)),
  co 2 (.assign (.const (.bool false)))]
def r3_1 : List Co := [
  co 11 (.load 27 (tm 1)),
  co 12 (.call ⟨.value (.func 6), #[(tm 11)], #[27]⟩)]
def r3_2 : List Co := [
  co 13 (.call ⟨.value (.func 7), #[], #[]⟩),
  co 2 (.assign (tm 13))]
def r3_3 : List Co := [
  co 15 (.load 27 (tm 1)),
  co 16 (.call ⟨.value (.func 8), #[(tm 15)], #[27]⟩),
  co 14 (.move (tm 16)),
  co 17 (.extract (tm 14) 0),
  co 18 (.extract (tm 14) 1),
  co 3 (.alloc 27),
  coz (.store 27 (tm 3) (tm 17)),
  co 4 (.assign (tm 18))]
def r3_4 : List Co := [
  co 20 (.load 27 (tm 1)),
  co 21 (.call ⟨.value (.func 9), #[(tm 20)], #[27]⟩),
  co 19 (.move (tm 21)),
  co 22 (.extract (tm 19) 0),
  co 23 (.extract (tm 19) 1),
  co 5 (.alloc 27),
  coz (.store 27 (tm 5) (tm 22)),
  co 6 (.assign (tm 23))]
def r3_5 : List Co := [
  co 24 (.load 27 (tm 3)),
  co 25 (.load 27 (tm 5)),
  co 26 (.call ⟨.value (.func 10), #[(tm 24), (tm 25)], #[27, 27]⟩),
  co 27 (.unOp .not 4 (tm 26)),
  co 28 (.move (tm 27)),
  cog 29 (.move (tm 4)) 28 false,
  cog 30 (.move (tm 6)) 28 false,
  cog 31 (.binOp .neq 30 (tm 29) (tm 30) 30) 28 false,
  co 32 (.pick (tm 28) (.const (.bool true)) (tm 31))]
def r3_6 : List Co := [
  co 2 (.assign (.const (.bool false)))]
def r3_7 : List Co := [
  co 33 (.move (tm 4)),
  co 34 (.binOp .neq 30 (tm 33) (.const (.int .i64 0)) 30)]
def r3_8 : List Co := [
  co 35 (.call ⟨.value (.func 7), #[], #[]⟩),
  co 2 (.assign (tm 35))]
def r3_9 : List Co := [
  co 37 (.load 27 (tm 3)),
  co 38 (.call ⟨.value (.func 11), #[(tm 37), (.const (.bool true)), (.const (.bool false))], #[27, 4, 4]⟩),
  co 36 (.move (tm 38)),
  co 39 (.extract (tm 36) 0),
  co 40 (.extract (tm 36) 1),
  co 7 (.assign (tm 39)),
  co 8 (.assign (tm 40))]
def r3_10 : List Co := [
  co 42 (.load 27 (tm 3)),
  co 43 (.call ⟨.value (.func 8), #[(tm 42)], #[27]⟩),
  co 41 (.move (tm 43)),
  co 44 (.extract (tm 41) 0),
  co 45 (.extract (tm 41) 1),
  co 9 (.alloc 27),
  coz (.store 27 (tm 9) (tm 44)),
  co 10 (.assign (tm 45))]
def r3_11 : List Co := [
  co 46 (.move (tm 8)),
  co 47 (.binOp .eql 30 (tm 46) (.const (.int .i64 0)) 30),
  co 48 (.move (tm 47)),
  cog 49 (.load 27 (tm 9)) 48 true,
  cog 50 (.load 27 (tm 3)) 48 true,
  cog 51 (.call ⟨.value (.func 10), #[(tm 49), (tm 50)], #[27, 27]⟩) 48 true,
  co 52 (.pick (tm 48) (tm 51) (.const (.bool false))),
  co 53 (.move (tm 52)),
  cog 54 (.move (tm 10)) 53 true,
  cog 55 (.binOp .eql 30 (tm 54) (.const (.int .i64 0)) 30) 53 true,
  co 56 (.pick (tm 53) (tm 55) (.const (.bool false))),
  co 57 (.move (tm 56)),
  cog 58 (.call ⟨.value (.func 7), #[], #[]⟩) 57 true,
  co 59 (.pick (tm 57) (tm 58) (.const (.bool false))),
  co 2 (.assign (tm 59))]
/-- wireglass/wireglasslaw02.CaptPlain -/
def c3 : Cc := (.seq (.reg r3_0) (.seq (.seq (.reg r3_1) (.cond (tm 12) (.seq (.reg r3_2) .ret) .skip)) (.seq (.reg r3_3) (.seq (.reg r3_4) (.seq (.seq (.reg r3_5) (.cond (tm 32) (.seq (.reg r3_6) .ret) .skip)) (.seq (.seq (.reg r3_7) (.cond (tm 34) (.seq (.reg r3_8) .ret) .skip)) (.seq (.reg r3_9) (.seq (.reg r3_10) (.seq (.reg r3_11) .ret)))))))))
def r5_0 : List Co := [
  coi 2 (.box 27 (tm 0)),
  co 4 (.assign (.const (.bool false)))]
def r5_1 : List Co := [
  co 9 (.load 27 (tm 2)),
  co 10 (.call ⟨.value (.func 6), #[(tm 9)], #[27]⟩)]
def r5_2 : List Co := [
  co 11 (.call ⟨.value (.func 7), #[], #[]⟩),
  co 4 (.assign (tm 11))]
def r5_3 : List Co := [
  co 13 (.load 27 (tm 2)),
  co 14 (.move (tm 1)),
  co 15 (.call ⟨.value (.func 15), #[(tm 13), (tm 14)], #[27, 3]⟩),
  co 12 (.move (tm 15)),
  co 16 (.extract (tm 12) 0),
  co 17 (.extract (tm 12) 1),
  co 5 (.alloc 27),
  coz (.store 27 (tm 5) (tm 16)),
  co 6 (.assign (tm 17))]
def r5_4 : List Co := [
  co 19 (.load 27 (tm 2)),
  co 20 (.move (tm 1)),
  co 21 (.call ⟨.value (.func 16), #[(tm 19), (tm 20)], #[27, 3]⟩),
  co 18 (.move (tm 21)),
  co 22 (.extract (tm 18) 0),
  co 23 (.extract (tm 18) 1),
  co 7 (.alloc 27),
  coz (.store 27 (tm 7) (tm 22)),
  co 8 (.assign (tm 23))]
def r5_5 : List Co := [
  co 24 (.load 27 (tm 5)),
  co 25 (.load 27 (tm 7)),
  co 26 (.call ⟨.value (.func 10), #[(tm 24), (tm 25)], #[27, 27]⟩),
  co 27 (.move (tm 26)),
  cog 28 (.move (tm 6)) 27 true,
  cog 29 (.move (tm 8)) 27 true,
  cog 30 (.binOp .eql 30 (tm 28) (tm 29) 30) 27 true,
  co 31 (.pick (tm 27) (tm 30) (.const (.bool false))),
  co 32 (.move (tm 31)),
  cog 33 (.call ⟨.value (.func 7), #[], #[]⟩) 32 true,
  co 34 (.pick (tm 32) (tm 33) (.const (.bool false))),
  co 4 (.assign (tm 34))]
/-- wireglass/wireglasslaw02.CaptCuts -/
def c5 : Cc := (.seq (.reg r5_0) (.seq (.seq (.reg r5_1) (.cond (tm 10) (.seq (.reg r5_2) .ret) .skip)) (.seq (.reg r5_3) (.seq (.reg r5_4) (.seq (.reg r5_5) .ret)))))
def r6_0 : List Co := [
  co 1 (.box 27 (tm 0)),
  co 2 (.assign (.const (.bool false)))]
def r6_1 : List Co := [
  co 3 (.load 27 (tm 1)),
  co 4 (.call ⟨.value (.func 17), #[(tm 3)], #[27]⟩),
  co 5 (.binOp .gtr 3 (tm 4) (.const (.int .i64 524288)) 3),
  co 2 (.assign (tm 5))]
/-- wireglass/wireglasslaw02.over -/
def c6 : Cc := (.seq (.reg r6_0) (.seq (.reg r6_1) .ret))
def r8_0 : List Co := [
  co 1 (.box 27 (tm 0)),
  co 2 (.alloc 27),
  co 3 (.assign (.const (.int .i64 0)))]
def r8_1 : List Co := [
  co 8 (.load 27 (tm 1)),
  co 9 (.call ⟨.value (.func 18), #[(tm 8)], #[27]⟩),
  co 4 (.assign (tm 9))]
def r8_2 : List Co := [
  co 10 (.move (tm 4)),
  co 11 (.binOp .neq 30 (tm 10) (.const (.int .i64 0)) 30)]
def r8_3 : List Co := [
  co 12 (.build 27 #[]),
  co 13 (.move (tm 4)),
  coz (.store 27 (tm 2) (tm 12)),
  co 3 (.assign (tm 13))]
def r8_4 : List Co := [
  co 14 (.fieldAddr 27 (tm 1) 1),
  co 15 (.load 22 (tm 14)),
  co 16 (.indexAddr 22 (tm 15) (.const (.int .i64 0))),
  co 17 (.load 46 (tm 16)),
  co 18 (.buildSlice 22 1 #[(0, (tm 17))]),
  co 19 (.build 27 #[(1, (tm 18))]),
  co 5 (.alloc 27),
  coz (.store 27 (tm 5) (tm 19))]
def r8_5 : List Co := [
  co 20 (.fieldAddr 27 (tm 5) 1),
  co 21 (.load 22 (tm 20)),
  co 22 (.indexAddr 22 (tm 21) (.const (.int .i64 0))),
  co 23 (.fieldAddr 46 (tm 22) 0),
  coz (.store 9 (tm 23) (.const (.string ⟨#[]⟩)))]
def r8_6 : List Co := [
  co 24 (.fieldAddr 27 (tm 1) 4),
  co 25 (.load 25 (tm 24)),
  co 26 (.call ⟨.builtin .len, #[(tm 25)], #[25]⟩),
  co 27 (.move (.const (.int .i64 0)))]
def r8_7 : List Co := [
  co 28 (.binOp .lss 3 (tm 27) (tm 26) 3)]
def r8_8 : List Co := [
  co 29 (.indexAddr 25 (tm 25) (tm 27)),
  co 30 (.load 39 (tm 29)),
  co 7 (.alloc 39),
  coz (.store 39 (tm 7) (tm 30))]
def r8_9 : List Co := [
  co 31 (.fieldAddr 39 (tm 7) 1),
  co 32 (.load 3 (tm 31)),
  co 33 (.binOp .eql 3 (tm 32) (.const (.int .i64 0)) 3),
  co 34 (.move (tm 33)),
  cog 35 (.fieldAddr 39 (tm 7) 0) 34 true,
  cog 36 (.load 3 (tm 35)) 34 true,
  cog 37 (.binOp .lss 3 (tm 36) (.const (.int .i64 4294967296000000)) 3) 34 true,
  co 38 (.pick (tm 34) (tm 37) (.const (.bool false)))]
def r8_10 : List Co := [
  co 39 (.fieldAddr 39 (tm 7) 4),
  coz (.store 9 (tm 39) (.const (.string ⟨#[]⟩)))]
def r8_11 : List Co := [
  co 40 (.fieldAddr 27 (tm 5) 4),
  co 41 (.load 25 (tm 40)),
  co 42 (.load 39 (tm 7)),
  coi 43 (.buildSlice 25 1 #[(0, (tm 42))]),
  co 44 (.call ⟨.builtin .append, #[(tm 41), (tm 43)], #[25, 25]⟩),
  co 45 (.fieldAddr 27 (tm 5) 4),
  coz (.store 25 (tm 45) (tm 44))]
def r8_12 : List Co := [
  co 46 (.binOp .add 3 (tm 27) (.const (.int .i64 1)) 3),
  co 27 (.move (tm 46))]
def l8_13 : Cc := (.seq (.reg r8_7) (.seq (.cond (tm 28) .skip (.exit 0)) (.seq (.block 1 (.seq (.reg r8_8) (.seq (.reg r8_9) (.cond (tm 38) (.seq (.reg r8_10) (.reg r8_11)) .skip)))) (.reg r8_12))))
def r8_14 : List Co := [
  co 47 (.load 27 (tm 5)),
  co 48 (.call ⟨.value (.func 13), #[(tm 47)], #[27]⟩),
  coz (.store 27 (tm 2) (tm 48)),
  co 3 (.assign (.const (.int .i64 0)))]
/-- wireglass/capt.Plain -/
def c8 : Cc := (.seq (.reg r8_0) (.seq (.seq (.reg r8_1) (.seq (.reg r8_2) (.cond (tm 11) (.seq (.reg r8_3) .ret) .skip))) (.seq (.reg r8_4) (.seq (.reg r8_5) (.seq (.seq (.reg r8_6) (.block 0 (.loop l8_13))) (.seq (.reg r8_14) .ret))))))
def r9_0 : List Co := [
  co 1 (.box 27 (tm 0)),
  co 2 (.alloc 27),
  co 3 (.assign (.const (.int .i64 0)))]
def r9_1 : List Co := [
  co 9 (.load 27 (tm 1)),
  co 10 (.call ⟨.value (.func 19), #[(tm 9)], #[27]⟩),
  co 4 (.assign (tm 10))]
def r9_2 : List Co := [
  co 11 (.move (tm 4)),
  co 12 (.binOp .neq 30 (tm 11) (.const (.int .i64 0)) 30)]
def r9_3 : List Co := [
  co 13 (.build 27 #[]),
  co 14 (.move (tm 4)),
  coz (.store 27 (tm 2) (tm 13)),
  co 3 (.assign (tm 14))]
def r9_4 : List Co := [
  co 15 (.fieldAddr 27 (tm 1) 1),
  co 16 (.load 22 (tm 15)),
  co 17 (.indexAddr 22 (tm 16) (.const (.int .i64 0))),
  co 18 (.load 46 (tm 17)),
  co 5 (.alloc 46),
  coz (.store 46 (tm 5) (tm 18))]
def r9_5 : List Co := [
  co 19 (.fieldAddr 46 (tm 5) 0),
  coz (.store 9 (tm 19) (.const (.string ⟨#[]⟩)))]
def r9_6 : List Co := [
  co 20 (.load 46 (tm 5)),
  co 21 (.buildSlice 22 1 #[(0, (tm 20))]),
  co 22 (.build 27 #[(1, (tm 21))]),
  co 6 (.alloc 27),
  coz (.store 27 (tm 6) (tm 22))]
def r9_7 : List Co := [
  co 7 (.assign (.const (.int .i64 0)))]
def r9_8 : List Co := [
  co 23 (.move (tm 7)),
  co 24 (.fieldAddr 27 (tm 1) 4),
  co 25 (.load 25 (tm 24)),
  co 26 (.call ⟨.builtin .len, #[(tm 25)], #[25]⟩),
  co 27 (.binOp .lss 3 (tm 23) (tm 26) 3)]
def r9_9 : List Co := [
  co 30 (.fieldAddr 27 (tm 1) 4),
  co 31 (.load 25 (tm 30)),
  co 32 (.move (tm 7)),
  co 33 (.indexAddr 25 (tm 31) (tm 32)),
  co 34 (.load 39 (tm 33)),
  co 35 (.call ⟨.value (.func 20), #[(tm 34)], #[39]⟩),
  co 8 (.alloc 39),
  coz (.store 39 (tm 8) (tm 35))]
def r9_10 : List Co := [
  co 36 (.fieldAddr 39 (tm 8) 4),
  coz (.store 9 (tm 36) (.const (.string ⟨#[]⟩)))]
def r9_11 : List Co := [
  co 37 (.fieldAddr 39 (tm 8) 1),
  co 38 (.load 3 (tm 37)),
  co 39 (.binOp .eql 3 (tm 38) (.const (.int .i64 0)) 3),
  co 40 (.move (tm 39)),
  cog 41 (.fieldAddr 39 (tm 8) 0) 40 true,
  cog 42 (.load 3 (tm 41)) 40 true,
  cog 43 (.binOp .quo 3 (tm 42) (.const (.int .i64 1000000)) 3) 40 true,
  cog 44 (.binOp .lss 3 (tm 43) (.const (.int .i64 4294967296)) 3) 40 true,
  co 45 (.pick (tm 40) (tm 44) (.const (.bool false)))]
def r9_12 : List Co := [
  co 46 (.fieldAddr 27 (tm 6) 4),
  co 47 (.load 25 (tm 46)),
  co 48 (.load 39 (tm 8)),
  coi 49 (.buildSlice 25 1 #[(0, (tm 48))]),
  co 50 (.call ⟨.builtin .append, #[(tm 47), (tm 49)], #[25, 25]⟩),
  co 51 (.fieldAddr 27 (tm 6) 4),
  coz (.store 25 (tm 51) (tm 50))]
def r9_13 : List Co := [
  co 28 (.move (tm 7)),
  co 29 (.binOp .add 3 (tm 28) (.const (.int .i64 1)) 3),
  co 7 (.assign (tm 29))]
def l9_14 : Cc := (.seq (.seq (.reg r9_8) (.cond (tm 27) .skip (.exit 0))) (.seq (.block 1 (.seq (.reg r9_9) (.seq (.reg r9_10) (.seq (.reg r9_11) (.cond (tm 45) (.reg r9_12) .skip))))) (.reg r9_13)))
def r9_15 : List Co := [
  co 52 (.load 27 (tm 6)),
  coz (.store 27 (tm 2) (tm 52)),
  co 3 (.assign (.const (.int .i64 0)))]
/-- wireglass/wireglassref02.Plain -/
def c9 : Cc := (.seq (.reg r9_0) (.seq (.seq (.reg r9_1) (.seq (.reg r9_2) (.cond (tm 12) (.seq (.reg r9_3) .ret) .skip))) (.seq (.reg r9_4) (.seq (.reg r9_5) (.seq (.reg r9_6) (.seq (.seq (.reg r9_7) (.block 0 (.loop l9_14))) (.seq (.reg r9_15) .ret)))))))
def r10_0 : List Co := [
  coi 2 (.box 27 (tm 0)),
  coi 3 (.box 27 (tm 1)),
  co 4 (.assign (.const (.bool false)))]
def r10_1 : List Co := [
  co 9 (.fieldAddr 27 (tm 2) 0),
  co 10 (.load 9 (tm 9)),
  co 11 (.fieldAddr 27 (tm 3) 0),
  co 12 (.load 9 (tm 11)),
  co 13 (.binOp .neq 9 (tm 10) (tm 12) 9),
  co 14 (.move (tm 13)),
  cog 15 (.fieldAddr 27 (tm 2) 1) 14 false,
  cog 16 (.load 22 (tm 15)) 14 false,
  cog 17 (.call ⟨.builtin .len, #[(tm 16)], #[22]⟩) 14 false,
  cog 18 (.fieldAddr 27 (tm 3) 1) 14 false,
  cog 19 (.load 22 (tm 18)) 14 false,
  cog 20 (.call ⟨.builtin .len, #[(tm 19)], #[22]⟩) 14 false,
  cog 21 (.binOp .neq 3 (tm 17) (tm 20) 3) 14 false,
  co 22 (.pick (tm 14) (.const (.bool true)) (tm 21)),
  co 23 (.move (tm 22)),
  cog 24 (.fieldAddr 27 (tm 2) 2) 23 false,
  cog 25 (.load 23 (tm 24)) 23 false,
  cog 26 (.call ⟨.builtin .len, #[(tm 25)], #[23]⟩) 23 false,
  cog 27 (.fieldAddr 27 (tm 3) 2) 23 false,
  cog 28 (.load 23 (tm 27)) 23 false,
  cog 29 (.call ⟨.builtin .len, #[(tm 28)], #[23]⟩) 23 false,
  cog 30 (.binOp .neq 3 (tm 26) (tm 29) 3) 23 false,
  co 31 (.pick (tm 23) (.const (.bool true)) (tm 30)),
  co 32 (.move (tm 31)),
  cog 33 (.fieldAddr 27 (tm 2) 3) 32 false,
  cog 34 (.load 24 (tm 33)) 32 false,
  cog 35 (.call ⟨.builtin .len, #[(tm 34)], #[24]⟩) 32 false,
  cog 36 (.fieldAddr 27 (tm 3) 3) 32 false,
  cog 37 (.load 24 (tm 36)) 32 false,
  cog 38 (.call ⟨.builtin .len, #[(tm 37)], #[24]⟩) 32 false,
  cog 39 (.binOp .neq 3 (tm 35) (tm 38) 3) 32 false,
  co 40 (.pick (tm 32) (.const (.bool true)) (tm 39)),
  co 41 (.move (tm 40)),
  cog 42 (.fieldAddr 27 (tm 2) 4) 41 false,
  cog 43 (.load 25 (tm 42)) 41 false,
  cog 44 (.call ⟨.builtin .len, #[(tm 43)], #[25]⟩) 41 false,
  cog 45 (.fieldAddr 27 (tm 3) 4) 41 false,
  cog 46 (.load 25 (tm 45)) 41 false,
  cog 47 (.call ⟨.builtin .len, #[(tm 46)], #[25]⟩) 41 false,
  cog 48 (.binOp .neq 3 (tm 44) (tm 47) 3) 41 false,
  co 49 (.pick (tm 41) (.const (.bool true)) (tm 48))]
def r10_2 : List Co := [
  co 4 (.assign (.const (.bool false)))]
def r10_3 : List Co := [
  co 5 (.assign (.const (.int .i64 0)))]
def r10_4 : List Co := [
  co 50 (.move (tm 5)),
  co 51 (.fieldAddr 27 (tm 2) 1),
  co 52 (.load 22 (tm 51)),
  co 53 (.call ⟨.builtin .len, #[(tm 52)], #[22]⟩),
  co 54 (.binOp .lss 3 (tm 50) (tm 53) 3)]
def r10_5 : List Co := [
  co 57 (.fieldAddr 27 (tm 2) 1),
  co 58 (.load 22 (tm 57)),
  co 59 (.move (tm 5)),
  co 60 (.indexAddr 22 (tm 58) (tm 59)),
  co 61 (.load 46 (tm 60)),
  co 62 (.fieldAddr 27 (tm 3) 1),
  co 63 (.load 22 (tm 62)),
  co 64 (.move (tm 5)),
  co 65 (.indexAddr 22 (tm 63) (tm 64)),
  co 66 (.load 46 (tm 65)),
  co 67 (.binOp .neq 46 (tm 61) (tm 66) 46)]
def r10_6 : List Co := [
  co 4 (.assign (.const (.bool false)))]
def r10_7 : List Co := [
  co 55 (.move (tm 5)),
  co 56 (.binOp .add 3 (tm 55) (.const (.int .i64 1)) 3),
  co 5 (.assign (tm 56))]
def l10_8 : Cc := (.seq (.seq (.reg r10_4) (.cond (tm 54) .skip (.exit 0))) (.seq (.block 1 (.seq (.reg r10_5) (.cond (tm 67) (.seq (.reg r10_6) .ret) .skip))) (.reg r10_7)))
def r10_9 : List Co := [
  co 6 (.assign (.const (.int .i64 0)))]
def r10_10 : List Co := [
  co 68 (.move (tm 6)),
  co 69 (.fieldAddr 27 (tm 2) 2),
  co 70 (.load 23 (tm 69)),
  co 71 (.call ⟨.builtin .len, #[(tm 70)], #[23]⟩),
  co 72 (.binOp .lss 3 (tm 68) (tm 71) 3)]
def r10_11 : List Co := [
  co 75 (.fieldAddr 27 (tm 2) 2),
  co 76 (.load 23 (tm 75)),
  co 77 (.move (tm 6)),
  co 78 (.indexAddr 23 (tm 76) (tm 77)),
  co 79 (.fieldAddr 41 (tm 78) 1),
  co 80 (.load 9 (tm 79)),
  co 81 (.fieldAddr 27 (tm 3) 2),
  co 82 (.load 23 (tm 81)),
  co 83 (.move (tm 6)),
  co 84 (.indexAddr 23 (tm 82) (tm 83)),
  co 85 (.fieldAddr 41 (tm 84) 1),
  co 86 (.load 9 (tm 85)),
  co 87 (.binOp .neq 9 (tm 80) (tm 86) 9),
  co 88 (.move (tm 87)),
  cog 89 (.fieldAddr 27 (tm 2) 2) 88 false,
  cog 90 (.load 23 (tm 89)) 88 false,
  cog 91 (.move (tm 6)) 88 false,
  cog 92 (.indexAddr 23 (tm 90) (tm 91)) 88 false,
  cog 93 (.fieldAddr 41 (tm 92) 0) 88 false,
  cog 94 (.load 34 (tm 93)) 88 false,
  cog 95 (.fieldAddr 27 (tm 3) 2) 88 false,
  cog 96 (.load 23 (tm 95)) 88 false,
  cog 97 (.move (tm 6)) 88 false,
  cog 98 (.indexAddr 23 (tm 96) (tm 97)) 88 false,
  cog 99 (.fieldAddr 41 (tm 98) 0) 88 false,
  cog 100 (.load 34 (tm 99)) 88 false,
  cog 101 (.call ⟨.value (.func 21), #[(tm 94), (tm 100)], #[34, 34]⟩) 88 false,
  cog 102 (.unOp .not 4 (tm 101)) 88 false,
  co 103 (.pick (tm 88) (.const (.bool true)) (tm 102))]
def r10_12 : List Co := [
  co 4 (.assign (.const (.bool false)))]
def r10_13 : List Co := [
  co 73 (.move (tm 6)),
  co 74 (.binOp .add 3 (tm 73) (.const (.int .i64 1)) 3),
  co 6 (.assign (tm 74))]
def l10_14 : Cc := (.seq (.seq (.reg r10_10) (.cond (tm 72) .skip (.exit 2))) (.seq (.block 3 (.seq (.reg r10_11) (.cond (tm 103) (.seq (.reg r10_12) .ret) .skip))) (.reg r10_13)))
def r10_15 : List Co := [
  co 7 (.assign (.const (.int .i64 0)))]
def r10_16 : List Co := [
  co 104 (.move (tm 7)),
  co 105 (.fieldAddr 27 (tm 2) 3),
  co 106 (.load 24 (tm 105)),
  co 107 (.call ⟨.builtin .len, #[(tm 106)], #[24]⟩),
  co 108 (.binOp .lss 3 (tm 104) (tm 107) 3)]
def r10_17 : List Co := [
  co 111 (.fieldAddr 27 (tm 2) 3),
  co 112 (.load 24 (tm 111)),
  co 113 (.move (tm 7)),
  co 114 (.indexAddr 24 (tm 112) (tm 113)),
  co 115 (.fieldAddr 51 (tm 114) 0),
  co 116 (.load 9 (tm 115)),
  co 117 (.fieldAddr 27 (tm 3) 3),
  co 118 (.load 24 (tm 117)),
  co 119 (.move (tm 7)),
  co 120 (.indexAddr 24 (tm 118) (tm 119)),
  co 121 (.fieldAddr 51 (tm 120) 0),
  co 122 (.load 9 (tm 121)),
  co 123 (.binOp .neq 9 (tm 116) (tm 122) 9),
  co 124 (.move (tm 123)),
  cog 125 (.fieldAddr 27 (tm 2) 3) 124 false,
  cog 126 (.load 24 (tm 125)) 124 false,
  cog 127 (.move (tm 7)) 124 false,
  cog 128 (.indexAddr 24 (tm 126) (tm 127)) 124 false,
  cog 129 (.fieldAddr 51 (tm 128) 1) 124 false,
  cog 130 (.load 34 (tm 129)) 124 false,
  cog 131 (.fieldAddr 27 (tm 3) 3) 124 false,
  cog 132 (.load 24 (tm 131)) 124 false,
  cog 133 (.move (tm 7)) 124 false,
  cog 134 (.indexAddr 24 (tm 132) (tm 133)) 124 false,
  cog 135 (.fieldAddr 51 (tm 134) 1) 124 false,
  cog 136 (.load 34 (tm 135)) 124 false,
  cog 137 (.call ⟨.value (.func 21), #[(tm 130), (tm 136)], #[34, 34]⟩) 124 false,
  cog 138 (.unOp .not 4 (tm 137)) 124 false,
  co 139 (.pick (tm 124) (.const (.bool true)) (tm 138))]
def r10_18 : List Co := [
  co 4 (.assign (.const (.bool false)))]
def r10_19 : List Co := [
  co 109 (.move (tm 7)),
  co 110 (.binOp .add 3 (tm 109) (.const (.int .i64 1)) 3),
  co 7 (.assign (tm 110))]
def l10_20 : Cc := (.seq (.seq (.reg r10_16) (.cond (tm 108) .skip (.exit 4))) (.seq (.block 5 (.seq (.reg r10_17) (.cond (tm 139) (.seq (.reg r10_18) .ret) .skip))) (.reg r10_19)))
def r10_21 : List Co := [
  co 8 (.assign (.const (.int .i64 0)))]
def r10_22 : List Co := [
  co 140 (.move (tm 8)),
  co 141 (.fieldAddr 27 (tm 2) 4),
  co 142 (.load 25 (tm 141)),
  co 143 (.call ⟨.builtin .len, #[(tm 142)], #[25]⟩),
  co 144 (.binOp .lss 3 (tm 140) (tm 143) 3)]
def r10_23 : List Co := [
  co 147 (.fieldAddr 27 (tm 2) 4),
  co 148 (.load 25 (tm 147)),
  co 149 (.move (tm 8)),
  co 150 (.indexAddr 25 (tm 148) (tm 149)),
  co 151 (.load 39 (tm 150)),
  co 152 (.fieldAddr 27 (tm 3) 4),
  co 153 (.load 25 (tm 152)),
  co 154 (.move (tm 8)),
  co 155 (.indexAddr 25 (tm 153) (tm 154)),
  co 156 (.load 39 (tm 155)),
  co 157 (.call ⟨.value (.func 22), #[(tm 151), (tm 156)], #[39, 39]⟩),
  co 158 (.unOp .not 4 (tm 157))]
def r10_24 : List Co := [
  co 4 (.assign (.const (.bool false)))]
def r10_25 : List Co := [
  co 145 (.move (tm 8)),
  co 146 (.binOp .add 3 (tm 145) (.const (.int .i64 1)) 3),
  co 8 (.assign (tm 146))]
def l10_26 : Cc := (.seq (.seq (.reg r10_22) (.cond (tm 144) .skip (.exit 6))) (.seq (.block 7 (.seq (.reg r10_23) (.cond (tm 158) (.seq (.reg r10_24) .ret) .skip))) (.reg r10_25)))
def r10_27 : List Co := [
  co 4 (.assign (.const (.bool true)))]
/-- wireglass/wireglassref02.Same -/
def c10 : Cc := (.seq (.reg r10_0) (.seq (.seq (.reg r10_1) (.cond (tm 49) (.seq (.reg r10_2) .ret) .skip)) (.seq (.seq (.reg r10_3) (.block 0 (.loop l10_8))) (.seq (.seq (.reg r10_9) (.block 2 (.loop l10_14))) (.seq (.seq (.reg r10_15) (.block 4 (.loop l10_20))) (.seq (.seq (.reg r10_21) (.block 6 (.loop l10_26))) (.seq (.reg r10_27) .ret)))))))
def r11_0 : List Co := [
  coi 3 (.box 27 (tm 0)),
  co 6 (.assign (.const (.slice none 0 0))),
  co 7 (.assign (.const (.int .i64 0)))]
def r11_1 : List Co := [
  co 12 (.load 27 (tm 3)),
  co 13 (.call ⟨.value (.func 18), #[(tm 12)], #[27]⟩),
  co 8 (.assign (tm 13))]
def r11_2 : List Co := [
  co 14 (.move (tm 8)),
  co 15 (.binOp .neq 30 (tm 14) (.const (.int .i64 0)) 30)]
def r11_3 : List Co := [
  co 16 (.move (tm 8)),
  co 6 (.assign (.const (.slice none 0 0))),
  co 7 (.assign (tm 16))]
def r11_4 : List Co := [
  co 17 (.move (tm 2)),
  co 18 (.call ⟨.value (.func 23), #[(tm 17)], #[4]⟩),
  co 19 (.build 58 #[(0, (tm 18))]),
  co 20 (.box 58 (tm 19)),
  co 9 (.assign (tm 20))]
def r11_5 : List Co := [
  co 21 (.move (tm 1))]
def r11_6 : List Co := [
  co 23 (.load 27 (tm 3)),
  co 24 (.call ⟨.value (.func 8), #[(tm 23)], #[27]⟩),
  co 22 (.move (tm 24)),
  co 25 (.extract (tm 22) 0),
  co 26 (.extract (tm 22) 1),
  co 10 (.alloc 27),
  coz (.store 27 (tm 10) (tm 25)),
  co 11 (.assign (tm 26))]
def r11_7 : List Co := [
  co 27 (.load 27 (tm 10)),
  co 28 (.load 27 (tm 3)),
  co 29 (.call ⟨.value (.func 12), #[(tm 27), (tm 28)], #[27, 27]⟩),
  co 30 (.unOp .not 4 (tm 29))]
def r11_8 : List Co := [
  co 6 (.assign (.const (.slice none 0 0))),
  co 7 (.assign (.const (.int .i64 10)))]
def r11_9 : List Co := [
  co 31 (.move (tm 9)),
  co 32 (.load 27 (tm 3)),
  co 33 (.call ⟨.value (.func 24), #[(tm 31), (tm 32)], #[53, 27]⟩)]
def r11_10 : List Co := [
  co 34 (.move (tm 9)),
  co 35 (.nilCheck (tm 34)),
  co 36 (.fieldAddr 58 (tm 35) 1),
  co 37 (.load 34 (tm 36)),
  co 6 (.assign (tm 37)),
  co 7 (.assign (.const (.int .i64 0)))]
def r11_11 : List Co := [
  co 38 (.move (tm 9)),
  co 39 (.load 27 (tm 3)),
  co 40 (.call ⟨.value (.func 25), #[(tm 38), (tm 39)], #[53, 27]⟩)]
def r11_12 : List Co := [
  co 41 (.move (tm 9)),
  co 42 (.nilCheck (tm 41)),
  co 43 (.fieldAddr 58 (tm 42) 1),
  co 44 (.load 34 (tm 43)),
  co 6 (.assign (tm 44)),
  co 7 (.assign (.const (.int .i64 0)))]
/-- wireglass/capt.Write -/
def c11 : Cc := (.seq (.reg r11_0) (.seq (.seq (.reg r11_1) (.seq (.reg r11_2) (.cond (tm 15) (.seq (.reg r11_3) .ret) .skip))) (.seq (.reg r11_4) (.seq (.seq (.reg r11_5) (.cond (tm 21) (.seq (.seq (.reg r11_6) (.seq (.reg r11_7) (.cond (tm 30) (.seq (.reg r11_8) .ret) .skip))) (.seq (.reg r11_9) (.seq (.reg r11_10) .ret))) .skip)) (.seq (.reg r11_11) (.seq (.reg r11_12) .ret))))))
def r12_0 : List Co := [
  coi 2 (.box 27 (tm 0)),
  coi 3 (.box 27 (tm 1)),
  co 4 (.assign (.const (.bool false)))]
def r12_1 : List Co := [
  co 8 (.fieldAddr 27 (tm 2) 2),
  co 9 (.load 23 (tm 8)),
  co 10 (.fieldAddr 27 (tm 3) 2),
  co 11 (.load 23 (tm 10)),
  co 12 (.call ⟨.value (.func 26), #[(tm 9), (tm 11), (.func 27)], #[23, 23, 61]⟩),
  co 5 (.assign (tm 12))]
def r12_2 : List Co := [
  co 13 (.fieldAddr 27 (tm 2) 3),
  co 14 (.load 24 (tm 13)),
  co 15 (.fieldAddr 27 (tm 3) 3),
  co 16 (.load 24 (tm 15)),
  co 17 (.call ⟨.value (.func 29), #[(tm 14), (tm 16), (.func 30)], #[24, 24, 63]⟩),
  co 6 (.assign (tm 17))]
def r12_3 : List Co := [
  co 18 (.fieldAddr 27 (tm 2) 4),
  co 19 (.load 25 (tm 18)),
  co 20 (.fieldAddr 27 (tm 3) 4),
  co 21 (.load 25 (tm 20)),
  co 22 (.call ⟨.value (.func 31), #[(tm 19), (tm 21), (.func 32)], #[25, 25, 52]⟩),
  co 7 (.assign (tm 22))]
def r12_4 : List Co := [
  co 23 (.fieldAddr 27 (tm 2) 0),
  co 24 (.load 9 (tm 23)),
  co 25 (.fieldAddr 27 (tm 3) 0),
  co 26 (.load 9 (tm 25)),
  co 27 (.binOp .eql 9 (tm 24) (tm 26) 9),
  co 28 (.move (tm 27)),
  cog 29 (.fieldAddr 27 (tm 2) 1) 28 true,
  cog 30 (.load 22 (tm 29)) 28 true,
  cog 31 (.fieldAddr 27 (tm 3) 1) 28 true,
  cog 32 (.load 22 (tm 31)) 28 true,
  cog 33 (.call ⟨.value (.func 33), #[(tm 30), (tm 32)], #[22, 22]⟩) 28 true,
  co 34 (.pick (tm 28) (tm 33) (.const (.bool false))),
  co 35 (.move (tm 34)),
  cog 36 (.move (tm 5)) 35 true,
  co 37 (.pick (tm 35) (tm 36) (.const (.bool false))),
  co 38 (.move (tm 37)),
  cog 39 (.move (tm 6)) 38 true,
  co 40 (.pick (tm 38) (tm 39) (.const (.bool false))),
  co 41 (.move (tm 40)),
  cog 42 (.move (tm 7)) 41 true,
  co 43 (.pick (tm 41) (tm 42) (.const (.bool false))),
  co 4 (.assign (tm 43))]
/-- wireglass/capt.Same -/
def c12 : Cc := (.seq (.reg r12_0) (.seq (.reg r12_1) (.seq (.reg r12_2) (.seq (.reg r12_3) (.seq (.reg r12_4) .ret)))))
def r13_0 : List Co := [
  co 1 (.box 27 (tm 0)),
  co 2 (.alloc 27)]
def r13_1 : List Co := [
  co 9 (.fieldAddr 27 (tm 1) 1),
  co 10 (.load 22 (tm 9)),
  co 11 (.call ⟨.value (.func 34), #[(tm 10)], #[22]⟩),
  co 12 (.fieldAddr 27 (tm 1) 1),
  coz (.store 22 (tm 12) (tm 11))]
def r13_2 : List Co := [
  co 13 (.fieldAddr 27 (tm 1) 2),
  co 14 (.load 23 (tm 13)),
  co 15 (.call ⟨.value (.func 35), #[(tm 14)], #[23]⟩),
  co 16 (.fieldAddr 27 (tm 1) 2),
  coz (.store 23 (tm 16) (tm 15))]
def r13_3 : List Co := [
  co 17 (.fieldAddr 27 (tm 1) 2),
  co 18 (.load 23 (tm 17)),
  co 19 (.call ⟨.builtin .len, #[(tm 18)], #[23]⟩),
  co 20 (.move (.const (.int .i64 0)))]
def r13_4 : List Co := [
  co 21 (.binOp .lss 3 (tm 20) (tm 19) 3)]
def r13_5 : List Co := [
  co 22 (.move (tm 20)),
  co 23 (.indexAddr 23 (tm 18) (tm 20)),
  co 24 (.load 41 (tm 23)),
  co 4 (.alloc 41),
  co 3 (.assign (tm 22)),
  coz (.store 41 (tm 4) (tm 24))]
def r13_6 : List Co := [
  co 25 (.fieldAddr 27 (tm 1) 2),
  co 26 (.load 23 (tm 25)),
  co 27 (.move (tm 3)),
  co 28 (.fieldAddr 41 (tm 4) 0),
  co 29 (.load 34 (tm 28)),
  ⟨some 30, .call ⟨.value (.func 36), #[(tm 29)], #[34]⟩, false, none, false, false, [(none, .load 23 (tm 25))]⟩,
  co 31 (.indexAddr 23 (tm 26) (tm 27)),
  co 32 (.fieldAddr 41 (tm 31) 0),
  coz (.store 34 (tm 32) (tm 30))]
def r13_7 : List Co := [
  co 33 (.binOp .add 3 (tm 20) (.const (.int .i64 1)) 3),
  co 20 (.move (tm 33))]
def l13_8 : Cc := (.seq (.reg r13_4) (.seq (.cond (tm 21) .skip (.exit 0)) (.seq (.block 1 (.seq (.reg r13_5) (.reg r13_6))) (.reg r13_7))))
def r13_9 : List Co := [
  co 34 (.fieldAddr 27 (tm 1) 3),
  co 35 (.load 24 (tm 34)),
  co 36 (.call ⟨.value (.func 37), #[(tm 35)], #[24]⟩),
  co 37 (.fieldAddr 27 (tm 1) 3),
  coz (.store 24 (tm 37) (tm 36))]
def r13_10 : List Co := [
  co 38 (.fieldAddr 27 (tm 1) 3),
  co 39 (.load 24 (tm 38)),
  co 40 (.call ⟨.builtin .len, #[(tm 39)], #[24]⟩),
  co 41 (.move (.const (.int .i64 0)))]
def r13_11 : List Co := [
  co 42 (.binOp .lss 3 (tm 41) (tm 40) 3)]
def r13_12 : List Co := [
  co 43 (.move (tm 41)),
  co 44 (.indexAddr 24 (tm 39) (tm 41)),
  co 45 (.load 51 (tm 44)),
  co 6 (.alloc 51),
  co 5 (.assign (tm 43)),
  coz (.store 51 (tm 6) (tm 45))]
def r13_13 : List Co := [
  co 46 (.fieldAddr 27 (tm 1) 3),
  co 47 (.load 24 (tm 46)),
  co 48 (.move (tm 5)),
  co 49 (.fieldAddr 51 (tm 6) 1),
  co 50 (.load 34 (tm 49)),
  ⟨some 51, .call ⟨.value (.func 36), #[(tm 50)], #[34]⟩, false, none, false, false, [(none, .load 24 (tm 46))]⟩,
  co 52 (.indexAddr 24 (tm 47) (tm 48)),
  co 53 (.fieldAddr 51 (tm 52) 1),
  coz (.store 34 (tm 53) (tm 51))]
def r13_14 : List Co := [
  co 54 (.binOp .add 3 (tm 41) (.const (.int .i64 1)) 3),
  co 41 (.move (tm 54))]
def l13_15 : Cc := (.seq (.reg r13_11) (.seq (.cond (tm 42) .skip (.exit 2)) (.seq (.block 3 (.seq (.reg r13_12) (.reg r13_13))) (.reg r13_14))))
def r13_16 : List Co := [
  co 55 (.fieldAddr 27 (tm 1) 4),
  co 56 (.load 25 (tm 55)),
  co 57 (.call ⟨.value (.func 38), #[(tm 56)], #[25]⟩),
  co 58 (.fieldAddr 27 (tm 1) 4),
  coz (.store 25 (tm 58) (tm 57))]
def r13_17 : List Co := [
  co 59 (.fieldAddr 27 (tm 1) 4),
  co 60 (.load 25 (tm 59)),
  co 61 (.call ⟨.builtin .len, #[(tm 60)], #[25]⟩),
  co 62 (.move (.const (.int .i64 0)))]
def r13_18 : List Co := [
  co 63 (.binOp .lss 3 (tm 62) (tm 61) 3)]
def r13_19 : List Co := [
  co 64 (.move (tm 62)),
  co 65 (.indexAddr 25 (tm 60) (tm 62)),
  co 66 (.load 39 (tm 65)),
  co 8 (.alloc 39),
  co 7 (.assign (tm 64)),
  coz (.store 39 (tm 8) (tm 66))]
def r13_20 : List Co := [
  co 67 (.fieldAddr 27 (tm 1) 4),
  co 68 (.load 25 (tm 67)),
  co 69 (.move (tm 7)),
  co 70 (.fieldAddr 39 (tm 8) 3),
  co 71 (.load 34 (tm 70)),
  ⟨some 72, .call ⟨.value (.func 36), #[(tm 71)], #[34]⟩, false, none, false, false, [(none, .load 25 (tm 67))]⟩,
  co 73 (.indexAddr 25 (tm 68) (tm 69)),
  co 74 (.fieldAddr 39 (tm 73) 3),
  coz (.store 34 (tm 74) (tm 72))]
def r13_21 : List Co := [
  co 75 (.binOp .add 3 (tm 62) (.const (.int .i64 1)) 3),
  co 62 (.move (tm 75))]
def l13_22 : Cc := (.seq (.reg r13_18) (.seq (.cond (tm 63) .skip (.exit 4)) (.seq (.block 5 (.seq (.reg r13_19) (.reg r13_20))) (.reg r13_21))))
def r13_23 : List Co := [
  co 76 (.load 27 (tm 1)),
  coz (.store 27 (tm 2) (tm 76))]
/-- wireglass/capt.Copy -/
def c13 : Cc := (.seq (.reg r13_0) (.seq (.reg r13_1) (.seq (.reg r13_2) (.seq (.seq (.reg r13_3) (.block 0 (.loop l13_8))) (.seq (.reg r13_9) (.seq (.seq (.reg r13_10) (.block 2 (.loop l13_15))) (.seq (.reg r13_16) (.seq (.seq (.reg r13_17) (.block 4 (.loop l13_22))) (.seq (.reg r13_23) .ret)))))))))
def r14_0 : List Co := [
  co 1 (.box 27 (tm 0)),
  co 2 (.alloc 27)]
def r14_1 : List Co := [
  co 7 (.fieldAddr 27 (tm 1) 0),
  co 8 (.load 9 (tm 7)),
  co 9 (.fieldAddr 27 (tm 1) 1),
  co 10 (.load 22 (tm 9)),
  ⟨some 11, .call ⟨.builtin .append, #[(.const (.slice none 0 0)), (tm 10)], #[22, 22]⟩, false, none, false, false, [(none, .load 9 (tm 7))]⟩,
  co 12 (.build 27 #[(0, (tm 8)), (1, (tm 11))]),
  co 3 (.alloc 27),
  coz (.store 27 (tm 3) (tm 12))]
def r14_2 : List Co := [
  co 4 (.assign (.const (.int .i64 0)))]
def r14_3 : List Co := [
  co 13 (.move (tm 4)),
  co 14 (.fieldAddr 27 (tm 1) 2),
  co 15 (.load 23 (tm 14)),
  co 16 (.call ⟨.builtin .len, #[(tm 15)], #[23]⟩),
  co 17 (.binOp .lss 3 (tm 13) (tm 16) 3)]
def r14_4 : List Co := [
  co 20 (.fieldAddr 27 (tm 3) 2),
  co 21 (.load 23 (tm 20)),
  co 22 (.fieldAddr 27 (tm 1) 2),
  co 23 (.load 23 (tm 22)),
  co 24 (.move (tm 4)),
  co 25 (.indexAddr 23 (tm 23) (tm 24)),
  co 26 (.fieldAddr 41 (tm 25) 0),
  co 27 (.load 34 (tm 26)),
  coi 28 (.call ⟨.builtin .append, #[(.const (.slice none 0 0)), (tm 27)], #[34, 34]⟩),
  co 29 (.fieldAddr 27 (tm 1) 2),
  co 30 (.load 23 (tm 29)),
  co 31 (.move (tm 4)),
  co 32 (.indexAddr 23 (tm 30) (tm 31)),
  co 33 (.fieldAddr 41 (tm 32) 1),
  co 34 (.load 9 (tm 33)),
  co 35 (.build 41 #[(0, (tm 28)), (1, (tm 34))]),
  coi 36 (.buildSlice 23 1 #[(0, (tm 35))]),
  co 37 (.call ⟨.builtin .append, #[(tm 21), (tm 36)], #[23, 23]⟩),
  co 38 (.fieldAddr 27 (tm 3) 2),
  coz (.store 23 (tm 38) (tm 37))]
def r14_5 : List Co := [
  co 18 (.move (tm 4)),
  co 19 (.binOp .add 3 (tm 18) (.const (.int .i64 1)) 3),
  co 4 (.assign (tm 19))]
def l14_6 : Cc := (.seq (.seq (.reg r14_3) (.cond (tm 17) .skip (.exit 0))) (.seq (.block 1 (.reg r14_4)) (.reg r14_5)))
def r14_7 : List Co := [
  co 5 (.assign (.const (.int .i64 0)))]
def r14_8 : List Co := [
  co 39 (.move (tm 5)),
  co 40 (.fieldAddr 27 (tm 1) 3),
  co 41 (.load 24 (tm 40)),
  co 42 (.call ⟨.builtin .len, #[(tm 41)], #[24]⟩),
  co 43 (.binOp .lss 3 (tm 39) (tm 42) 3)]
def r14_9 : List Co := [
  co 46 (.fieldAddr 27 (tm 3) 3),
  co 47 (.load 24 (tm 46)),
  co 48 (.fieldAddr 27 (tm 1) 3),
  co 49 (.load 24 (tm 48)),
  co 50 (.move (tm 5)),
  co 51 (.indexAddr 24 (tm 49) (tm 50)),
  co 52 (.fieldAddr 51 (tm 51) 0),
  co 53 (.load 9 (tm 52)),
  co 54 (.fieldAddr 27 (tm 1) 3),
  co 55 (.load 24 (tm 54)),
  co 56 (.move (tm 5)),
  co 57 (.indexAddr 24 (tm 55) (tm 56)),
  co 58 (.fieldAddr 51 (tm 57) 1),
  co 59 (.load 34 (tm 58)),
  coi 60 (.call ⟨.builtin .append, #[(.const (.slice none 0 0)), (tm 59)], #[34, 34]⟩),
  co 61 (.build 51 #[(0, (tm 53)), (1, (tm 60))]),
  coi 62 (.buildSlice 24 1 #[(0, (tm 61))]),
  co 63 (.call ⟨.builtin .append, #[(tm 47), (tm 62)], #[24, 24]⟩),
  co 64 (.fieldAddr 27 (tm 3) 3),
  coz (.store 24 (tm 64) (tm 63))]
def r14_10 : List Co := [
  co 44 (.move (tm 5)),
  co 45 (.binOp .add 3 (tm 44) (.const (.int .i64 1)) 3),
  co 5 (.assign (tm 45))]
def l14_11 : Cc := (.seq (.seq (.reg r14_8) (.cond (tm 43) .skip (.exit 2))) (.seq (.block 3 (.reg r14_9)) (.reg r14_10)))
def r14_12 : List Co := [
  co 6 (.assign (.const (.int .i64 0)))]
def r14_13 : List Co := [
  co 65 (.move (tm 6)),
  co 66 (.fieldAddr 27 (tm 1) 4),
  co 67 (.load 25 (tm 66)),
  co 68 (.call ⟨.builtin .len, #[(tm 67)], #[25]⟩),
  co 69 (.binOp .lss 3 (tm 65) (tm 68) 3)]
def r14_14 : List Co := [
  co 72 (.fieldAddr 27 (tm 3) 4),
  co 73 (.load 25 (tm 72)),
  co 74 (.fieldAddr 27 (tm 1) 4),
  co 75 (.load 25 (tm 74)),
  co 76 (.move (tm 6)),
  co 77 (.indexAddr 25 (tm 75) (tm 76)),
  co 78 (.load 39 (tm 77)),
  ⟨some 79, .call ⟨.value (.func 20), #[(tm 78)], #[39]⟩, false, none, false, false, [(none, .load 25 (tm 72))]⟩,
  coi 80 (.buildSlice 25 1 #[(0, (tm 79))]),
  co 81 (.call ⟨.builtin .append, #[(tm 73), (tm 80)], #[25, 25]⟩),
  co 82 (.fieldAddr 27 (tm 3) 4),
  coz (.store 25 (tm 82) (tm 81))]
def r14_15 : List Co := [
  co 70 (.move (tm 6)),
  co 71 (.binOp .add 3 (tm 70) (.const (.int .i64 1)) 3),
  co 6 (.assign (tm 71))]
def l14_16 : Cc := (.seq (.seq (.reg r14_13) (.cond (tm 69) .skip (.exit 4))) (.seq (.block 5 (.reg r14_14)) (.reg r14_15)))
def r14_17 : List Co := [
  co 83 (.load 27 (tm 3)),
  coz (.store 27 (tm 2) (tm 83))]
/-- wireglass/wireglassref02.Copy -/
def c14 : Cc := (.seq (.reg r14_0) (.seq (.reg r14_1) (.seq (.seq (.reg r14_2) (.block 0 (.loop l14_6))) (.seq (.seq (.reg r14_7) (.block 2 (.loop l14_11))) (.seq (.seq (.reg r14_12) (.block 4 (.loop l14_16))) (.seq (.reg r14_17) .ret))))))
def r15_0 : List Co := [
  coi 2 (.box 27 (tm 0)),
  co 4 (.alloc 27),
  co 5 (.assign (.const (.int .i64 0)))]
def r15_1 : List Co := [
  co 12 (.load 27 (tm 2)),
  co 13 (.call ⟨.value (.func 18), #[(tm 12)], #[27]⟩),
  co 6 (.assign (tm 13))]
def r15_2 : List Co := [
  co 14 (.move (tm 6)),
  co 15 (.binOp .neq 30 (tm 14) (.const (.int .i64 0)) 30)]
def r15_3 : List Co := [
  co 16 (.build 27 #[]),
  co 17 (.move (tm 6)),
  coz (.store 27 (tm 4) (tm 16)),
  co 5 (.assign (tm 17))]
def r15_4 : List Co := [
  co 18 (.move (tm 1)),
  co 19 (.binOp .lss 3 (tm 18) (.const (.int .i64 0)) 3),
  co 20 (.move (tm 19)),
  cog 21 (.move (tm 1)) 20 false,
  cog 22 (.binOp .gtr 3 (tm 21) (.const (.int .i64 400)) 3) 20 false,
  co 23 (.pick (tm 20) (.const (.bool true)) (tm 22))]
def r15_5 : List Co := [
  co 24 (.build 27 #[]),
  coz (.store 27 (tm 4) (tm 24)),
  co 5 (.assign (.const (.int .i64 1)))]
def r15_6 : List Co := [
  co 25 (.load 27 (tm 2)),
  co 26 (.call ⟨.value (.func 13), #[(tm 25)], #[27]⟩),
  co 7 (.alloc 27),
  coz (.store 27 (tm 7) (tm 26))]
def r15_7 : List Co := [
  co 27 (.fieldAddr 27 (tm 7) 1),
  co 28 (.load 22 (tm 27)),
  co 29 (.call ⟨.builtin .len, #[(tm 28)], #[22]⟩),
  co 30 (.move (.const (.int .i64 0)))]
def r15_8 : List Co := [
  co 31 (.binOp .lss 3 (tm 30) (tm 29) 3)]
def r15_9 : List Co := [
  co 32 (.move (tm 30)),
  co 33 (.indexAddr 22 (tm 28) (tm 30)),
  co 34 (.load 46 (tm 33)),
  co 9 (.alloc 46),
  co 8 (.assign (tm 32)),
  coz (.store 46 (tm 9) (tm 34))]
def r15_10 : List Co := [
  co 35 (.fieldAddr 46 (tm 9) 2),
  co 36 (.load 3 (tm 35)),
  co 37 (.binOp .eql 3 (tm 36) (.const (.int .i64 0)) 3),
  co 38 (.move (tm 37)),
  cog 39 (.fieldAddr 46 (tm 9) 2) 38 false,
  cog 40 (.load 3 (tm 39)) 38 false,
  cog 41 (.move (tm 1)) 38 false,
  cog 42 (.binOp .gtr 3 (tm 40) (tm 41) 3) 38 false,
  co 43 (.pick (tm 38) (.const (.bool true)) (tm 42))]
def r15_11 : List Co := [
  co 44 (.fieldAddr 27 (tm 7) 1),
  co 45 (.load 22 (tm 44)),
  co 46 (.move (tm 8)),
  co 47 (.move (tm 1)),
  co 48 (.indexAddr 22 (tm 45) (tm 46)),
  co 49 (.fieldAddr 46 (tm 48) 2),
  coz (.store 3 (tm 49) (tm 47))]
def r15_12 : List Co := [
  co 50 (.binOp .add 3 (tm 30) (.const (.int .i64 1)) 3),
  co 30 (.move (tm 50))]
def l15_13 : Cc := (.seq (.reg r15_8) (.seq (.cond (tm 31) .skip (.exit 0)) (.seq (.block 1 (.seq (.reg r15_9) (.seq (.reg r15_10) (.cond (tm 43) (.reg r15_11) .skip)))) (.reg r15_12))))
def r15_14 : List Co := [
  co 51 (.fieldAddr 27 (tm 7) 4),
  co 52 (.load 25 (tm 51)),
  co 53 (.call ⟨.builtin .len, #[(tm 52)], #[25]⟩),
  co 54 (.move (.const (.int .i64 0)))]
def r15_15 : List Co := [
  co 55 (.binOp .lss 3 (tm 54) (tm 53) 3)]
def r15_16 : List Co := [
  co 56 (.move (tm 54)),
  co 57 (.indexAddr 25 (tm 52) (tm 54)),
  co 58 (.load 39 (tm 57)),
  co 11 (.alloc 39),
  co 10 (.assign (tm 56)),
  coz (.store 39 (tm 11) (tm 58))]
def r15_17 : List Co := [
  co 59 (.fieldAddr 27 (tm 7) 4),
  co 60 (.load 25 (tm 59)),
  co 61 (.move (tm 10)),
  co 62 (.fieldAddr 39 (tm 11) 3),
  co 63 (.load 34 (tm 62)),
  co 64 (.move (tm 1)),
  co 65 (.fieldAddr 39 (tm 11) 3),
  co 66 (.load 34 (tm 65)),
  co 67 (.call ⟨.builtin .len, #[(tm 66)], #[34]⟩),
  co 68 (.call ⟨.builtin .min, #[(tm 64), (tm 67)], #[3, 3]⟩),
  co 69 (.slice 34 (tm 63) none (some (tm 68)) none),
  co 70 (.indexAddr 25 (tm 60) (tm 61)),
  co 71 (.fieldAddr 39 (tm 70) 3),
  coz (.store 34 (tm 71) (tm 69))]
def r15_18 : List Co := [
  co 72 (.binOp .add 3 (tm 54) (.const (.int .i64 1)) 3),
  co 54 (.move (tm 72))]
def l15_19 : Cc := (.seq (.reg r15_15) (.seq (.cond (tm 55) .skip (.exit 2)) (.seq (.block 3 (.seq (.reg r15_16) (.reg r15_17))) (.reg r15_18))))
def r15_20 : List Co := [
  co 73 (.load 27 (tm 7)),
  coz (.store 27 (tm 4) (tm 73)),
  co 5 (.assign (.const (.int .i64 0)))]
/-- wireglass/capt.Cut -/
def c15 : Cc := (.seq (.reg r15_0) (.seq (.seq (.reg r15_1) (.seq (.reg r15_2) (.cond (tm 15) (.seq (.reg r15_3) .ret) .skip))) (.seq (.seq (.reg r15_4) (.cond (tm 23) (.seq (.reg r15_5) .ret) .skip)) (.seq (.reg r15_6) (.seq (.seq (.reg r15_7) (.block 0 (.loop l15_13))) (.seq (.seq (.reg r15_14) (.block 2 (.loop l15_19))) (.seq (.reg r15_20) .ret)))))))
def r16_0 : List Co := [
  coi 2 (.box 27 (tm 0)),
  co 4 (.alloc 27),
  co 5 (.assign (.const (.int .i64 0)))]
def r16_1 : List Co := [
  co 10 (.load 27 (tm 2)),
  co 11 (.call ⟨.value (.func 19), #[(tm 10)], #[27]⟩),
  co 6 (.assign (tm 11))]
def r16_2 : List Co := [
  co 12 (.move (tm 6)),
  co 13 (.binOp .neq 30 (tm 12) (.const (.int .i64 0)) 30)]
def r16_3 : List Co := [
  co 14 (.build 27 #[]),
  co 15 (.move (tm 6)),
  coz (.store 27 (tm 4) (tm 14)),
  co 5 (.assign (tm 15))]
def r16_4 : List Co := [
  co 16 (.move (tm 1)),
  co 17 (.binOp .lss 3 (tm 16) (.const (.int .i64 0)) 3),
  co 18 (.move (tm 17)),
  cog 19 (.move (tm 1)) 18 false,
  cog 20 (.binOp .gtr 3 (tm 19) (.const (.int .i64 400)) 3) 18 false,
  co 21 (.pick (tm 18) (.const (.bool true)) (tm 20))]
def r16_5 : List Co := [
  co 22 (.build 27 #[]),
  coz (.store 27 (tm 4) (tm 22)),
  co 5 (.assign (.const (.int .i64 1)))]
def r16_6 : List Co := [
  co 23 (.load 27 (tm 2)),
  co 24 (.call ⟨.value (.func 14), #[(tm 23)], #[27]⟩),
  co 7 (.alloc 27),
  coz (.store 27 (tm 7) (tm 24))]
def r16_7 : List Co := [
  co 8 (.assign (.const (.int .i64 0)))]
def r16_8 : List Co := [
  co 25 (.move (tm 8)),
  co 26 (.fieldAddr 27 (tm 7) 1),
  co 27 (.load 22 (tm 26)),
  co 28 (.call ⟨.builtin .len, #[(tm 27)], #[22]⟩),
  co 29 (.binOp .lss 3 (tm 25) (tm 28) 3)]
def r16_9 : List Co := [
  co 32 (.fieldAddr 27 (tm 7) 1),
  co 33 (.load 22 (tm 32)),
  co 34 (.move (tm 8)),
  co 35 (.indexAddr 22 (tm 33) (tm 34)),
  co 36 (.fieldAddr 46 (tm 35) 2),
  co 37 (.load 3 (tm 36)),
  co 38 (.binOp .eql 3 (tm 37) (.const (.int .i64 0)) 3),
  co 39 (.move (tm 38)),
  cog 40 (.fieldAddr 27 (tm 7) 1) 39 false,
  cog 41 (.load 22 (tm 40)) 39 false,
  cog 42 (.move (tm 8)) 39 false,
  cog 43 (.indexAddr 22 (tm 41) (tm 42)) 39 false,
  cog 44 (.fieldAddr 46 (tm 43) 2) 39 false,
  cog 45 (.load 3 (tm 44)) 39 false,
  cog 46 (.move (tm 1)) 39 false,
  cog 47 (.binOp .gtr 3 (tm 45) (tm 46) 3) 39 false,
  co 48 (.pick (tm 39) (.const (.bool true)) (tm 47))]
def r16_10 : List Co := [
  co 49 (.fieldAddr 27 (tm 7) 1),
  co 50 (.load 22 (tm 49)),
  co 51 (.move (tm 8)),
  co 52 (.move (tm 1)),
  co 53 (.indexAddr 22 (tm 50) (tm 51)),
  co 54 (.fieldAddr 46 (tm 53) 2),
  coz (.store 3 (tm 54) (tm 52))]
def r16_11 : List Co := [
  co 30 (.move (tm 8)),
  co 31 (.binOp .add 3 (tm 30) (.const (.int .i64 1)) 3),
  co 8 (.assign (tm 31))]
def l16_12 : Cc := (.seq (.seq (.reg r16_8) (.cond (tm 29) .skip (.exit 0))) (.seq (.block 1 (.seq (.reg r16_9) (.cond (tm 48) (.reg r16_10) .skip))) (.reg r16_11)))
def r16_13 : List Co := [
  co 9 (.assign (.const (.int .i64 0)))]
def r16_14 : List Co := [
  co 55 (.move (tm 9)),
  co 56 (.fieldAddr 27 (tm 7) 4),
  co 57 (.load 25 (tm 56)),
  co 58 (.call ⟨.builtin .len, #[(tm 57)], #[25]⟩),
  co 59 (.binOp .lss 3 (tm 55) (tm 58) 3)]
def r16_15 : List Co := [
  co 62 (.fieldAddr 27 (tm 7) 4),
  co 63 (.load 25 (tm 62)),
  co 64 (.move (tm 9)),
  co 65 (.fieldAddr 27 (tm 7) 4),
  co 66 (.load 25 (tm 65)),
  co 67 (.move (tm 9)),
  co 68 (.indexAddr 25 (tm 66) (tm 67)),
  co 69 (.fieldAddr 39 (tm 68) 3),
  co 70 (.load 34 (tm 69)),
  co 71 (.move (tm 1)),
  co 72 (.fieldAddr 27 (tm 7) 4),
  co 73 (.load 25 (tm 72)),
  co 74 (.move (tm 9)),
  co 75 (.indexAddr 25 (tm 73) (tm 74)),
  co 76 (.fieldAddr 39 (tm 75) 3),
  co 77 (.load 34 (tm 76)),
  co 78 (.call ⟨.builtin .len, #[(tm 77)], #[34]⟩),
  co 79 (.call ⟨.builtin .min, #[(tm 71), (tm 78)], #[3, 3]⟩),
  co 80 (.slice 34 (tm 70) none (some (tm 79)) none),
  co 81 (.indexAddr 25 (tm 63) (tm 64)),
  co 82 (.fieldAddr 39 (tm 81) 3),
  coz (.store 34 (tm 82) (tm 80))]
def r16_16 : List Co := [
  co 60 (.move (tm 9)),
  co 61 (.binOp .add 3 (tm 60) (.const (.int .i64 1)) 3),
  co 9 (.assign (tm 61))]
def l16_17 : Cc := (.seq (.seq (.reg r16_14) (.cond (tm 59) .skip (.exit 2))) (.seq (.block 3 (.reg r16_15)) (.reg r16_16)))
def r16_18 : List Co := [
  co 83 (.load 27 (tm 7)),
  coz (.store 27 (tm 4) (tm 83)),
  co 5 (.assign (.const (.int .i64 0)))]
/-- wireglass/wireglassref02.Cut -/
def c16 : Cc := (.seq (.reg r16_0) (.seq (.seq (.reg r16_1) (.seq (.reg r16_2) (.cond (tm 13) (.seq (.reg r16_3) .ret) .skip))) (.seq (.seq (.reg r16_4) (.cond (tm 21) (.seq (.reg r16_5) .ret) .skip)) (.seq (.reg r16_6) (.seq (.seq (.reg r16_7) (.block 0 (.loop l16_12))) (.seq (.seq (.reg r16_13) (.block 2 (.loop l16_17))) (.seq (.reg r16_18) .ret)))))))
def r17_0 : List Co := [
  co 1 (.box 27 (tm 0)),
  co 2 (.assign (.const (.int .i64 0)))]
def r17_1 : List Co := [
  co 8 (.fieldAddr 27 (tm 1) 0),
  co 9 (.load 9 (tm 8)),
  co 10 (.call ⟨.builtin .len, #[(tm 9)], #[9]⟩),
  co 11 (.fieldAddr 27 (tm 1) 1),
  co 12 (.load 22 (tm 11)),
  co 13 (.call ⟨.builtin .len, #[(tm 12)], #[22]⟩),
  co 14 (.binOp .mul 3 (.const (.int .i64 4)) (tm 13) 3),
  co 15 (.binOp .add 3 (tm 10) (tm 14) 3),
  co 16 (.fieldAddr 27 (tm 1) 2),
  co 17 (.load 23 (tm 16)),
  co 18 (.call ⟨.builtin .len, #[(tm 17)], #[23]⟩),
  co 19 (.binOp .mul 3 (.const (.int .i64 4)) (tm 18) 3),
  co 20 (.binOp .add 3 (tm 15) (tm 19) 3),
  co 21 (.fieldAddr 27 (tm 1) 3),
  co 22 (.load 24 (tm 21)),
  co 23 (.call ⟨.builtin .len, #[(tm 22)], #[24]⟩),
  co 24 (.binOp .mul 3 (.const (.int .i64 4)) (tm 23) 3),
  co 25 (.binOp .add 3 (tm 20) (tm 24) 3),
  co 26 (.fieldAddr 27 (tm 1) 4),
  co 27 (.load 25 (tm 26)),
  co 28 (.call ⟨.builtin .len, #[(tm 27)], #[25]⟩),
  co 29 (.binOp .mul 3 (.const (.int .i64 8)) (tm 28) 3),
  co 30 (.binOp .add 3 (tm 25) (tm 29) 3),
  co 3 (.assign (tm 30))]
def r17_2 : List Co := [
  co 4 (.assign (.const (.int .i64 0)))]
def r17_3 : List Co := [
  co 31 (.move (tm 4)),
  co 32 (.fieldAddr 27 (tm 1) 1),
  co 33 (.load 22 (tm 32)),
  co 34 (.call ⟨.builtin .len, #[(tm 33)], #[22]⟩),
  co 35 (.binOp .lss 3 (tm 31) (tm 34) 3)]
def r17_4 : List Co := [
  co 38 (.move (tm 3)),
  co 39 (.fieldAddr 27 (tm 1) 1),
  co 40 (.load 22 (tm 39)),
  co 41 (.move (tm 4)),
  co 42 (.indexAddr 22 (tm 40) (tm 41)),
  co 43 (.fieldAddr 46 (tm 42) 0),
  co 44 (.load 9 (tm 43)),
  co 45 (.call ⟨.builtin .len, #[(tm 44)], #[9]⟩),
  co 46 (.binOp .add 3 (tm 38) (tm 45) 3),
  co 3 (.assign (tm 46))]
def r17_5 : List Co := [
  co 36 (.move (tm 4)),
  co 37 (.binOp .add 3 (tm 36) (.const (.int .i64 1)) 3),
  co 4 (.assign (tm 37))]
def l17_6 : Cc := (.seq (.seq (.reg r17_3) (.cond (tm 35) .skip (.exit 0))) (.seq (.block 1 (.reg r17_4)) (.reg r17_5)))
def r17_7 : List Co := [
  co 5 (.assign (.const (.int .i64 0)))]
def r17_8 : List Co := [
  co 47 (.move (tm 5)),
  co 48 (.fieldAddr 27 (tm 1) 2),
  co 49 (.load 23 (tm 48)),
  co 50 (.call ⟨.builtin .len, #[(tm 49)], #[23]⟩),
  co 51 (.binOp .lss 3 (tm 47) (tm 50) 3)]
def r17_9 : List Co := [
  co 54 (.move (tm 3)),
  co 55 (.fieldAddr 27 (tm 1) 2),
  co 56 (.load 23 (tm 55)),
  co 57 (.move (tm 5)),
  co 58 (.indexAddr 23 (tm 56) (tm 57)),
  co 59 (.fieldAddr 41 (tm 58) 0),
  co 60 (.load 34 (tm 59)),
  co 61 (.call ⟨.builtin .len, #[(tm 60)], #[34]⟩),
  co 62 (.fieldAddr 27 (tm 1) 2),
  co 63 (.load 23 (tm 62)),
  co 64 (.move (tm 5)),
  co 65 (.indexAddr 23 (tm 63) (tm 64)),
  co 66 (.fieldAddr 41 (tm 65) 1),
  co 67 (.load 9 (tm 66)),
  co 68 (.call ⟨.builtin .len, #[(tm 67)], #[9]⟩),
  co 69 (.binOp .add 3 (tm 61) (tm 68) 3),
  co 70 (.binOp .add 3 (tm 54) (tm 69) 3),
  co 3 (.assign (tm 70))]
def r17_10 : List Co := [
  co 52 (.move (tm 5)),
  co 53 (.binOp .add 3 (tm 52) (.const (.int .i64 1)) 3),
  co 5 (.assign (tm 53))]
def l17_11 : Cc := (.seq (.seq (.reg r17_8) (.cond (tm 51) .skip (.exit 2))) (.seq (.block 3 (.reg r17_9)) (.reg r17_10)))
def r17_12 : List Co := [
  co 6 (.assign (.const (.int .i64 0)))]
def r17_13 : List Co := [
  co 71 (.move (tm 6)),
  co 72 (.fieldAddr 27 (tm 1) 3),
  co 73 (.load 24 (tm 72)),
  co 74 (.call ⟨.builtin .len, #[(tm 73)], #[24]⟩),
  co 75 (.binOp .lss 3 (tm 71) (tm 74) 3)]
def r17_14 : List Co := [
  co 78 (.move (tm 3)),
  co 79 (.fieldAddr 27 (tm 1) 3),
  co 80 (.load 24 (tm 79)),
  co 81 (.move (tm 6)),
  co 82 (.indexAddr 24 (tm 80) (tm 81)),
  co 83 (.fieldAddr 51 (tm 82) 0),
  co 84 (.load 9 (tm 83)),
  co 85 (.call ⟨.builtin .len, #[(tm 84)], #[9]⟩),
  co 86 (.fieldAddr 27 (tm 1) 3),
  co 87 (.load 24 (tm 86)),
  co 88 (.move (tm 6)),
  co 89 (.indexAddr 24 (tm 87) (tm 88)),
  co 90 (.fieldAddr 51 (tm 89) 1),
  co 91 (.load 34 (tm 90)),
  co 92 (.call ⟨.builtin .len, #[(tm 91)], #[34]⟩),
  co 93 (.binOp .add 3 (tm 85) (tm 92) 3),
  co 94 (.binOp .add 3 (tm 78) (tm 93) 3),
  co 3 (.assign (tm 94))]
def r17_15 : List Co := [
  co 76 (.move (tm 6)),
  co 77 (.binOp .add 3 (tm 76) (.const (.int .i64 1)) 3),
  co 6 (.assign (tm 77))]
def l17_16 : Cc := (.seq (.seq (.reg r17_13) (.cond (tm 75) .skip (.exit 4))) (.seq (.block 5 (.reg r17_14)) (.reg r17_15)))
def r17_17 : List Co := [
  co 7 (.assign (.const (.int .i64 0)))]
def r17_18 : List Co := [
  co 95 (.move (tm 7)),
  co 96 (.fieldAddr 27 (tm 1) 4),
  co 97 (.load 25 (tm 96)),
  co 98 (.call ⟨.builtin .len, #[(tm 97)], #[25]⟩),
  co 99 (.binOp .lss 3 (tm 95) (tm 98) 3)]
def r17_19 : List Co := [
  co 102 (.move (tm 3)),
  co 103 (.fieldAddr 27 (tm 1) 4),
  co 104 (.load 25 (tm 103)),
  co 105 (.move (tm 7)),
  co 106 (.indexAddr 25 (tm 104) (tm 105)),
  co 107 (.fieldAddr 39 (tm 106) 3),
  co 108 (.load 34 (tm 107)),
  co 109 (.call ⟨.builtin .len, #[(tm 108)], #[34]⟩),
  co 110 (.fieldAddr 27 (tm 1) 4),
  co 111 (.load 25 (tm 110)),
  co 112 (.move (tm 7)),
  co 113 (.indexAddr 25 (tm 111) (tm 112)),
  co 114 (.fieldAddr 39 (tm 113) 4),
  co 115 (.load 9 (tm 114)),
  co 116 (.call ⟨.builtin .len, #[(tm 115)], #[9]⟩),
  co 117 (.binOp .add 3 (tm 109) (tm 116) 3),
  co 118 (.binOp .add 3 (tm 102) (tm 117) 3),
  co 3 (.assign (tm 118))]
def r17_20 : List Co := [
  co 100 (.move (tm 7)),
  co 101 (.binOp .add 3 (tm 100) (.const (.int .i64 1)) 3),
  co 7 (.assign (tm 101))]
def l17_21 : Cc := (.seq (.seq (.reg r17_18) (.cond (tm 99) .skip (.exit 6))) (.seq (.block 7 (.reg r17_19)) (.reg r17_20)))
def r17_22 : List Co := [
  co 119 (.move (tm 3)),
  co 2 (.assign (tm 119))]
/-- wireglass/wireglassref02.Weight -/
def c17 : Cc := (.seq (.reg r17_0) (.seq (.reg r17_1) (.seq (.seq (.reg r17_2) (.block 0 (.loop l17_6))) (.seq (.seq (.reg r17_7) (.block 2 (.loop l17_11))) (.seq (.seq (.reg r17_12) (.block 4 (.loop l17_16))) (.seq (.seq (.reg r17_17) (.block 6 (.loop l17_21))) (.seq (.reg r17_22) .ret)))))))
def r18_0 : List Co := [
  co 1 (.box 27 (tm 0)),
  co 2 (.assign (.const (.int .i64 0)))]
def r18_1 : List Co := [
  co 12 (.fieldAddr 27 (tm 1) 1),
  co 13 (.load 22 (tm 12)),
  co 14 (.call ⟨.builtin .len, #[(tm 13)], #[22]⟩),
  co 15 (.binOp .gtr 3 (tm 14) (.const (.int .i64 4)) 3),
  co 16 (.move (tm 15)),
  cog 17 (.fieldAddr 27 (tm 1) 2) 16 false,
  cog 18 (.load 23 (tm 17)) 16 false,
  cog 19 (.call ⟨.builtin .len, #[(tm 18)], #[23]⟩) 16 false,
  cog 20 (.binOp .gtr 3 (tm 19) (.const (.int .i64 60)) 3) 16 false,
  co 21 (.pick (tm 16) (.const (.bool true)) (tm 20)),
  co 22 (.move (tm 21)),
  cog 23 (.fieldAddr 27 (tm 1) 3) 22 false,
  cog 24 (.load 24 (tm 23)) 22 false,
  cog 25 (.call ⟨.builtin .len, #[(tm 24)], #[24]⟩) 22 false,
  cog 26 (.binOp .gtr 3 (tm 25) (.const (.int .i64 60)) 3) 22 false,
  co 27 (.pick (tm 22) (.const (.bool true)) (tm 26)),
  co 28 (.move (tm 27)),
  cog 29 (.fieldAddr 27 (tm 1) 4) 28 false,
  cog 30 (.load 25 (tm 29)) 28 false,
  cog 31 (.call ⟨.builtin .len, #[(tm 30)], #[25]⟩) 28 false,
  cog 32 (.binOp .gtr 3 (tm 31) (.const (.int .i64 100)) 3) 28 false,
  co 33 (.pick (tm 28) (.const (.bool true)) (tm 32))]
def r18_2 : List Co := [
  co 2 (.assign (.const (.int .i64 3)))]
def r18_3 : List Co := [
  co 34 (.fieldAddr 27 (tm 1) 1),
  co 35 (.load 22 (tm 34)),
  co 36 (.call ⟨.builtin .len, #[(tm 35)], #[22]⟩),
  co 37 (.binOp .eql 3 (tm 36) (.const (.int .i64 0)) 3),
  co 38 (.move (tm 37)),
  cog 39 (.fieldAddr 27 (tm 1) 0) 38 false,
  cog 40 (.load 9 (tm 39)) 38 false,
  cog 41 (.call ⟨.value (.func 39), #[(tm 40)], #[9]⟩) 38 false,
  cog 42 (.unOp .not 4 (tm 41)) 38 false,
  co 43 (.pick (tm 38) (.const (.bool true)) (tm 42)),
  co 3 (.assign (tm 43))]
def r18_4 : List Co := [
  co 44 (.fieldAddr 27 (tm 1) 1),
  co 45 (.load 22 (tm 44)),
  co 46 (.call ⟨.builtin .len, #[(tm 45)], #[22]⟩),
  co 47 (.move (.const (.int .i64 0)))]
def r18_5 : List Co := [
  co 48 (.binOp .lss 3 (tm 47) (tm 46) 3)]
def r18_6 : List Co := [
  co 49 (.indexAddr 22 (tm 45) (tm 47)),
  co 50 (.load 46 (tm 49)),
  co 5 (.alloc 46),
  coz (.store 46 (tm 5) (tm 50))]
def r18_7 : List Co := [
  co 51 (.move (tm 3)),
  co 52 (.move (tm 51)),
  cog 53 (.load 46 (tm 5)) 52 false,
  cog 54 (.call ⟨.value (.func 40), #[(tm 53)], #[46]⟩) 52 false,
  cog 55 (.unOp .not 4 (tm 54)) 52 false,
  co 56 (.pick (tm 52) (.const (.bool true)) (tm 55)),
  co 3 (.assign (tm 56))]
def r18_8 : List Co := [
  co 57 (.binOp .add 3 (tm 47) (.const (.int .i64 1)) 3),
  co 47 (.move (tm 57))]
def l18_9 : Cc := (.seq (.reg r18_5) (.seq (.cond (tm 48) .skip (.exit 0)) (.seq (.block 1 (.seq (.reg r18_6) (.reg r18_7))) (.reg r18_8))))
def r18_10 : List Co := [
  co 58 (.fieldAddr 27 (tm 1) 2),
  co 59 (.load 23 (tm 58)),
  co 60 (.call ⟨.builtin .len, #[(tm 59)], #[23]⟩),
  co 61 (.move (.const (.int .i64 0)))]
def r18_11 : List Co := [
  co 62 (.binOp .lss 3 (tm 61) (tm 60) 3)]
def r18_12 : List Co := [
  co 63 (.indexAddr 23 (tm 59) (tm 61)),
  co 64 (.load 41 (tm 63)),
  co 7 (.alloc 41),
  coz (.store 41 (tm 7) (tm 64))]
def r18_13 : List Co := [
  co 65 (.move (tm 3)),
  co 66 (.move (tm 65)),
  cog 67 (.load 41 (tm 7)) 66 false,
  cog 68 (.call ⟨.value (.func 41), #[(tm 67)], #[41]⟩) 66 false,
  cog 69 (.unOp .not 4 (tm 68)) 66 false,
  co 70 (.pick (tm 66) (.const (.bool true)) (tm 69)),
  co 3 (.assign (tm 70))]
def r18_14 : List Co := [
  co 71 (.binOp .add 3 (tm 61) (.const (.int .i64 1)) 3),
  co 61 (.move (tm 71))]
def l18_15 : Cc := (.seq (.reg r18_11) (.seq (.cond (tm 62) .skip (.exit 2)) (.seq (.block 3 (.seq (.reg r18_12) (.reg r18_13))) (.reg r18_14))))
def r18_16 : List Co := [
  co 72 (.fieldAddr 27 (tm 1) 3),
  co 73 (.load 24 (tm 72)),
  co 74 (.call ⟨.builtin .len, #[(tm 73)], #[24]⟩),
  co 75 (.move (.const (.int .i64 0)))]
def r18_17 : List Co := [
  co 76 (.binOp .lss 3 (tm 75) (tm 74) 3)]
def r18_18 : List Co := [
  co 77 (.indexAddr 24 (tm 73) (tm 75)),
  co 78 (.load 51 (tm 77)),
  co 9 (.alloc 51),
  coz (.store 51 (tm 9) (tm 78))]
def r18_19 : List Co := [
  co 79 (.move (tm 3)),
  co 80 (.move (tm 79)),
  cog 81 (.load 51 (tm 9)) 80 false,
  cog 82 (.call ⟨.value (.func 42), #[(tm 81)], #[51]⟩) 80 false,
  cog 83 (.unOp .not 4 (tm 82)) 80 false,
  co 84 (.pick (tm 80) (.const (.bool true)) (tm 83)),
  co 3 (.assign (tm 84))]
def r18_20 : List Co := [
  co 85 (.binOp .add 3 (tm 75) (.const (.int .i64 1)) 3),
  co 75 (.move (tm 85))]
def l18_21 : Cc := (.seq (.reg r18_17) (.seq (.cond (tm 76) .skip (.exit 4)) (.seq (.block 5 (.seq (.reg r18_18) (.reg r18_19))) (.reg r18_20))))
def r18_22 : List Co := [
  co 86 (.fieldAddr 27 (tm 1) 4),
  co 87 (.load 25 (tm 86)),
  co 88 (.call ⟨.builtin .len, #[(tm 87)], #[25]⟩),
  co 89 (.move (.const (.int .i64 0)))]
def r18_23 : List Co := [
  co 90 (.binOp .lss 3 (tm 89) (tm 88) 3)]
def r18_24 : List Co := [
  co 91 (.indexAddr 25 (tm 87) (tm 89)),
  co 92 (.load 39 (tm 91)),
  co 11 (.alloc 39),
  coz (.store 39 (tm 11) (tm 92))]
def r18_25 : List Co := [
  co 93 (.move (tm 3)),
  co 94 (.move (tm 93)),
  cog 95 (.load 39 (tm 11)) 94 false,
  cog 96 (.fieldAddr 27 (tm 1) 1) 94 false,
  cog 97 (.load 22 (tm 96)) 94 false,
  cog 98 (.call ⟨.value (.func 43), #[(tm 95), (tm 97)], #[39, 22]⟩) 94 false,
  cog 99 (.unOp .not 4 (tm 98)) 94 false,
  co 100 (.pick (tm 94) (.const (.bool true)) (tm 99)),
  co 3 (.assign (tm 100))]
def r18_26 : List Co := [
  co 101 (.binOp .add 3 (tm 89) (.const (.int .i64 1)) 3),
  co 89 (.move (tm 101))]
def l18_27 : Cc := (.seq (.reg r18_23) (.seq (.cond (tm 90) .skip (.exit 6)) (.seq (.block 7 (.seq (.reg r18_24) (.reg r18_25))) (.reg r18_26))))
def r18_28 : List Co := [
  co 102 (.move (tm 3))]
def r18_29 : List Co := [
  co 2 (.assign (.const (.int .i64 1)))]
def r18_30 : List Co := [
  co 2 (.assign (.const (.int .i64 0)))]
/-- wireglass/capt.Validate -/
def c18 : Cc := (.seq (.reg r18_0) (.seq (.seq (.reg r18_1) (.cond (tm 33) (.seq (.reg r18_2) .ret) .skip)) (.seq (.reg r18_3) (.seq (.seq (.reg r18_4) (.block 0 (.loop l18_9))) (.seq (.seq (.reg r18_10) (.block 2 (.loop l18_15))) (.seq (.seq (.reg r18_16) (.block 4 (.loop l18_21))) (.seq (.seq (.reg r18_22) (.block 6 (.loop l18_27))) (.seq (.seq (.reg r18_28) (.cond (tm 102) (.seq (.reg r18_29) .ret) .skip)) (.seq (.reg r18_30) .ret)))))))))
def r19_0 : List Co := [
  co 1 (.box 27 (tm 0)),
  co 2 (.assign (.const (.int .i64 0)))]
def r19_1 : List Co := [
  co 3 (.fieldAddr 27 (tm 1) 1),
  co 4 (.load 22 (tm 3)),
  co 5 (.call ⟨.builtin .len, #[(tm 4)], #[22]⟩),
  co 6 (.binOp .gtr 3 (tm 5) (.const (.int .i64 4)) 3),
  co 7 (.move (tm 6)),
  cog 8 (.fieldAddr 27 (tm 1) 2) 7 false,
  cog 9 (.load 23 (tm 8)) 7 false,
  cog 10 (.call ⟨.builtin .len, #[(tm 9)], #[23]⟩) 7 false,
  cog 11 (.binOp .gtr 3 (tm 10) (.const (.int .i64 60)) 3) 7 false,
  co 12 (.pick (tm 7) (.const (.bool true)) (tm 11)),
  co 13 (.move (tm 12)),
  cog 14 (.fieldAddr 27 (tm 1) 3) 13 false,
  cog 15 (.load 24 (tm 14)) 13 false,
  cog 16 (.call ⟨.builtin .len, #[(tm 15)], #[24]⟩) 13 false,
  cog 17 (.binOp .gtr 3 (tm 16) (.const (.int .i64 60)) 3) 13 false,
  co 18 (.pick (tm 13) (.const (.bool true)) (tm 17)),
  co 19 (.move (tm 18)),
  cog 20 (.fieldAddr 27 (tm 1) 4) 19 false,
  cog 21 (.load 25 (tm 20)) 19 false,
  cog 22 (.call ⟨.builtin .len, #[(tm 21)], #[25]⟩) 19 false,
  cog 23 (.binOp .gtr 3 (tm 22) (.const (.int .i64 100)) 3) 19 false,
  co 24 (.pick (tm 19) (.const (.bool true)) (tm 23))]
def r19_2 : List Co := [
  co 2 (.assign (.const (.int .i64 3)))]
def r19_3 : List Co := [
  co 25 (.load 27 (tm 1)),
  co 26 (.call ⟨.value (.func 44), #[(tm 25)], #[27]⟩),
  co 27 (.unOp .not 4 (tm 26))]
def r19_4 : List Co := [
  co 2 (.assign (.const (.int .i64 1)))]
def r19_5 : List Co := [
  co 2 (.assign (.const (.int .i64 0)))]
/-- wireglass/wireglassref02.Validate -/
def c19 : Cc := (.seq (.reg r19_0) (.seq (.seq (.reg r19_1) (.cond (tm 24) (.seq (.reg r19_2) .ret) .skip)) (.seq (.seq (.reg r19_3) (.cond (tm 27) (.seq (.reg r19_4) .ret) .skip)) (.seq (.reg r19_5) .ret))))
def r20_0 : List Co := [
  co 1 (.box 39 (tm 0)),
  co 2 (.alloc 39)]
def r20_1 : List Co := [
  co 3 (.fieldAddr 39 (tm 1) 3),
  co 4 (.load 34 (tm 3)),
  coi 5 (.call ⟨.builtin .append, #[(.const (.slice none 0 0)), (tm 4)], #[34, 34]⟩),
  co 6 (.fieldAddr 39 (tm 1) 3),
  coz (.store 34 (tm 6) (tm 5))]
def r20_2 : List Co := [
  co 7 (.load 39 (tm 1)),
  coz (.store 39 (tm 2) (tm 7))]
/-- wireglass/wireglassref02.CopyPacket -/
def c20 : Cc := (.seq (.reg r20_0) (.seq (.reg r20_1) (.seq (.reg r20_2) .ret)))
def r21_0 : List Co := [
  co 4 (.assign (.const (.bool false)))]
def r21_1 : List Co := [
  co 5 (.move (tm 0)),
  co 6 (.convert 34 9 (tm 5)),
  co 7 (.move (tm 1)),
  co 8 (.convert 34 9 (tm 7)),
  co 9 (.binOp .eql 9 (tm 6) (tm 8) 9),
  co 4 (.assign (tm 9))]
/-- wireglass/wireglassref02.SameBytes -/
def c21 : Cc := (.seq (.reg r21_0) (.seq (.reg r21_1) .ret))
def r22_0 : List Co := [
  coi 2 (.box 39 (tm 0)),
  coi 3 (.box 39 (tm 1)),
  co 4 (.assign (.const (.bool false)))]
def r22_1 : List Co := [
  co 5 (.fieldAddr 39 (tm 2) 0),
  co 6 (.load 3 (tm 5)),
  co 7 (.fieldAddr 39 (tm 3) 0),
  co 8 (.load 3 (tm 7)),
  co 9 (.binOp .eql 3 (tm 6) (tm 8) 3),
  co 10 (.move (tm 9)),
  cog 11 (.fieldAddr 39 (tm 2) 1) 10 true,
  cog 12 (.load 3 (tm 11)) 10 true,
  cog 13 (.fieldAddr 39 (tm 3) 1) 10 true,
  cog 14 (.load 3 (tm 13)) 10 true,
  cog 15 (.binOp .eql 3 (tm 12) (tm 14) 3) 10 true,
  co 16 (.pick (tm 10) (tm 15) (.const (.bool false))),
  co 17 (.move (tm 16)),
  cog 18 (.fieldAddr 39 (tm 2) 2) 17 true,
  cog 19 (.load 3 (tm 18)) 17 true,
  cog 20 (.fieldAddr 39 (tm 3) 2) 17 true,
  cog 21 (.load 3 (tm 20)) 17 true,
  cog 22 (.binOp .eql 3 (tm 19) (tm 21) 3) 17 true,
  co 23 (.pick (tm 17) (tm 22) (.const (.bool false))),
  co 24 (.move (tm 23)),
  cog 25 (.fieldAddr 39 (tm 2) 4) 24 true,
  cog 26 (.load 9 (tm 25)) 24 true,
  cog 27 (.fieldAddr 39 (tm 3) 4) 24 true,
  cog 28 (.load 9 (tm 27)) 24 true,
  cog 29 (.binOp .eql 9 (tm 26) (tm 28) 9) 24 true,
  co 30 (.pick (tm 24) (tm 29) (.const (.bool false))),
  co 31 (.move (tm 30)),
  cog 32 (.fieldAddr 39 (tm 2) 3) 31 true,
  cog 33 (.load 34 (tm 32)) 31 true,
  cog 34 (.fieldAddr 39 (tm 3) 3) 31 true,
  cog 35 (.load 34 (tm 34)) 31 true,
  cog 36 (.call ⟨.value (.func 21), #[(tm 33), (tm 35)], #[34, 34]⟩) 31 true,
  co 37 (.pick (tm 31) (tm 36) (.const (.bool false))),
  co 4 (.assign (tm 37))]
/-- wireglass/wireglassref02.SamePacket -/
def c22 : Cc := (.seq (.reg r22_0) (.seq (.reg r22_1) .ret))
def r23_0 : List Co := [
  co 2 (.assign (.const .nilIface))]
def r23_1 : List Co := [
  co 3 (.move (tm 0))]
def r23_2 : List Co := [
  co 4 (.build 77 #[]),
  co 5 (.makeInterface 77 (tm 4)),
  co 2 (.assign (tm 5))]
def r23_3 : List Co := [
  co 6 (.build 78 #[]),
  co 7 (.makeInterface 78 (tm 6)),
  co 2 (.assign (tm 7))]
/-- wireglass/capt.orderOf -/
def c23 : Cc := (.seq (.reg r23_0) (.seq (.seq (.reg r23_1) (.cond (tm 3) (.seq (.reg r23_2) .ret) .skip)) (.seq (.reg r23_3) .ret)))
def r24_0 : List Co := [
  coi 3 (.box 27 (tm 1))]
def r24_1 : List Co := [
  co 6 (.move (tm 0)),
  coi 7 (.buildSlice 89 1 #[(0, (.const (.int .i64 2712847316)))]),
  co 8 (.call ⟨.value (.func 45), #[(tm 6), (.const (.int .i64 4)), (tm 7)], #[53, 3, 89]⟩)]
def r24_2 : List Co := [
  co 9 (.move (tm 0)),
  coi 10 (.buildSlice 89 2 #[(0, (.const (.int .i64 2))), (1, (.const (.int .i64 4)))]),
  co 11 (.call ⟨.value (.func 45), #[(tm 9), (.const (.int .i64 2)), (tm 10)], #[53, 3, 89]⟩)]
def r24_3 : List Co := [
  co 12 (.move (tm 0)),
  co 13 (.fieldAddr 27 (tm 3) 1),
  co 14 (.load 22 (tm 13)),
  co 15 (.indexAddr 22 (tm 14) (.const (.int .i64 0))),
  co 16 (.fieldAddr 46 (tm 15) 2),
  co 17 (.load 3 (tm 16)),
  co 18 (.fieldAddr 27 (tm 3) 1),
  co 19 (.load 22 (tm 18)),
  co 20 (.indexAddr 22 (tm 19) (.const (.int .i64 0))),
  co 21 (.fieldAddr 46 (tm 20) 1),
  co 22 (.load 3 (tm 21)),
  coi 23 (.buildSlice 89 4 #[(0, (.const (.int .i64 0))), (1, (.const (.int .i64 0))), (2, (tm 17)), (3, (tm 22))]),
  co 24 (.call ⟨.value (.func 45), #[(tm 12), (.const (.int .i64 4)), (tm 23)], #[53, 3, 89]⟩)]
def r24_4 : List Co := [
  co 25 (.fieldAddr 27 (tm 3) 4),
  co 26 (.load 25 (tm 25)),
  co 27 (.call ⟨.builtin .len, #[(tm 26)], #[25]⟩),
  co 28 (.move (.const (.int .i64 0)))]
def r24_5 : List Co := [
  co 29 (.binOp .lss 3 (tm 28) (tm 27) 3)]
def r24_6 : List Co := [
  co 30 (.indexAddr 25 (tm 26) (tm 28)),
  co 31 (.load 39 (tm 30)),
  co 5 (.alloc 39),
  coz (.store 39 (tm 5) (tm 31))]
def r24_7 : List Co := [
  co 32 (.move (tm 0)),
  co 33 (.fieldAddr 39 (tm 5) 0),
  co 34 (.load 3 (tm 33)),
  co 35 (.binOp .quo 3 (tm 34) (.const (.int .i64 1000000)) 3),
  co 36 (.fieldAddr 39 (tm 5) 0),
  co 37 (.load 3 (tm 36)),
  co 38 (.binOp .rem 3 (tm 37) (.const (.int .i64 1000000)) 3),
  co 39 (.fieldAddr 39 (tm 5) 3),
  co 40 (.load 34 (tm 39)),
  co 41 (.call ⟨.builtin .len, #[(tm 40)], #[34]⟩),
  co 42 (.fieldAddr 39 (tm 5) 2),
  co 43 (.load 3 (tm 42)),
  coi 44 (.buildSlice 89 4 #[(0, (tm 35)), (1, (tm 38)), (2, (tm 41)), (3, (tm 43))]),
  co 45 (.call ⟨.value (.func 45), #[(tm 32), (.const (.int .i64 4)), (tm 44)], #[53, 3, 89]⟩)]
def r24_8 : List Co := [
  co 46 (.move (tm 0)),
  co 47 (.move (tm 0)),
  co 48 (.nilCheck (tm 47)),
  co 49 (.fieldAddr 58 (tm 48) 1),
  co 50 (.load 34 (tm 49)),
  co 51 (.fieldAddr 39 (tm 5) 3),
  co 52 (.load 34 (tm 51)),
  co 53 (.call ⟨.builtin .append, #[(tm 50), (tm 52)], #[34, 34]⟩),
  co 54 (.nilCheck (tm 46)),
  co 55 (.fieldAddr 58 (tm 54) 1),
  coz (.store 34 (tm 55) (tm 53))]
def r24_9 : List Co := [
  co 56 (.binOp .add 3 (tm 28) (.const (.int .i64 1)) 3),
  co 28 (.move (tm 56))]
def l24_10 : Cc := (.seq (.reg r24_5) (.seq (.cond (tm 29) .skip (.exit 0)) (.seq (.block 1 (.seq (.reg r24_6) (.seq (.reg r24_7) (.reg r24_8)))) (.reg r24_9))))
/-- (*wireglass/capt.writer).old -/
def c24 : Cc := (.seq (.reg r24_0) (.seq (.reg r24_1) (.seq (.reg r24_2) (.seq (.reg r24_3) (.seq (.reg r24_4) (.block 0 (.loop l24_10)))))))
def r26_0 : List Co := [
  co 6 (.assign (.const (.bool false)))]
def r26_1 : List Co := [
  co 10 (.move (tm 0)),
  co 11 (.call ⟨.builtin .len, #[(tm 10)], #[23]⟩),
  co 12 (.move (tm 1)),
  co 13 (.call ⟨.builtin .len, #[(tm 12)], #[23]⟩),
  co 14 (.binOp .neq 3 (tm 11) (tm 13) 3)]
def r26_2 : List Co := [
  co 6 (.assign (.const (.bool false)))]
def r26_3 : List Co := [
  co 15 (.move (tm 0)),
  co 16 (.call ⟨.builtin .len, #[(tm 15)], #[23]⟩),
  co 17 (.move (.const (.int .i64 0)))]
def r26_4 : List Co := [
  co 18 (.binOp .lss 3 (tm 17) (tm 16) 3)]
def r26_5 : List Co := [
  co 19 (.move (tm 17)),
  co 20 (.indexAddr 23 (tm 15) (tm 17)),
  co 21 (.load 41 (tm 20)),
  co 8 (.alloc 41),
  co 7 (.assign (tm 19)),
  coz (.store 41 (tm 8) (tm 21))]
def r26_6 : List Co := [
  co 22 (.move (tm 1)),
  co 23 (.move (tm 7)),
  co 24 (.indexAddr 23 (tm 22) (tm 23)),
  co 25 (.load 41 (tm 24)),
  co 9 (.alloc 41),
  coz (.store 41 (tm 9) (tm 25))]
def r26_7 : List Co := [
  co 26 (.move (tm 2)),
  co 27 (.load 41 (tm 8)),
  co 28 (.load 41 (tm 9)),
  co 29 (.call ⟨.value (tm 26), #[(tm 27), (tm 28)], #[41, 41]⟩),
  co 30 (.unOp .not 4 (tm 29))]
def r26_8 : List Co := [
  co 6 (.assign (.const (.bool false)))]
def r26_9 : List Co := [
  co 31 (.binOp .add 3 (tm 17) (.const (.int .i64 1)) 3),
  co 17 (.move (tm 31))]
def l26_10 : Cc := (.seq (.reg r26_4) (.seq (.cond (tm 18) .skip (.exit 0)) (.seq (.block 1 (.seq (.reg r26_5) (.seq (.reg r26_6) (.seq (.reg r26_7) (.cond (tm 30) (.seq (.reg r26_8) .ret) .skip))))) (.reg r26_9))))
def r26_11 : List Co := [
  co 6 (.assign (.const (.bool true)))]
/-- slices.EqualFunc[[]wireglass/api.Name,[]wireglass/api.Name,wireglass/api.Name,wireglass/api.Name] -/
def c26 : Cc := (.seq (.reg r26_0) (.seq (.seq (.reg r26_1) (.cond (tm 14) (.seq (.reg r26_2) .ret) .skip)) (.seq (.seq (.reg r26_3) (.block 0 (.loop l26_10))) (.seq (.reg r26_11) .ret))))
def r27_0 : List Co := [
  coi 2 (.box 41 (tm 0)),
  coi 3 (.box 41 (tm 1)),
  co 4 (.assign (.const (.bool false)))]
def r27_1 : List Co := [
  co 5 (.fieldAddr 41 (tm 2) 1),
  co 6 (.load 9 (tm 5)),
  co 7 (.fieldAddr 41 (tm 3) 1),
  co 8 (.load 9 (tm 7)),
  co 9 (.binOp .eql 9 (tm 6) (tm 8) 9),
  co 10 (.move (tm 9)),
  cog 11 (.fieldAddr 41 (tm 2) 0) 10 true,
  cog 12 (.load 34 (tm 11)) 10 true,
  cog 13 (.fieldAddr 41 (tm 3) 0) 10 true,
  cog 14 (.load 34 (tm 13)) 10 true,
  cog 15 (.call ⟨.value (.func 28), #[(tm 12), (tm 14)], #[34, 34]⟩) 10 true,
  co 16 (.pick (tm 10) (tm 15) (.const (.bool false))),
  co 4 (.assign (tm 16))]
/-- wireglass/capt.Same$1 -/
def c27 : Cc := (.seq (.reg r27_0) (.seq (.reg r27_1) .ret))
def r28_0 : List Co := [
  co 4 (.assign (.const (.bool false)))]
def r28_1 : List Co := [
  co 6 (.move (tm 0)),
  co 7 (.call ⟨.builtin .len, #[(tm 6)], #[34]⟩),
  co 8 (.move (tm 1)),
  co 9 (.call ⟨.builtin .len, #[(tm 8)], #[34]⟩),
  co 10 (.binOp .neq 3 (tm 7) (tm 9) 3)]
def r28_2 : List Co := [
  co 4 (.assign (.const (.bool false)))]
def r28_3 : List Co := [
  co 11 (.move (tm 0)),
  co 12 (.call ⟨.builtin .len, #[(tm 11)], #[34]⟩),
  co 13 (.move (.const (.int .i64 0)))]
def r28_4 : List Co := [
  co 14 (.binOp .lss 3 (tm 13) (tm 12) 3)]
def r28_5 : List Co := [
  co 15 (.move (tm 13)),
  co 5 (.assign (tm 15))]
def r28_6 : List Co := [
  co 16 (.move (tm 0)),
  co 17 (.move (tm 5)),
  co 18 (.indexAddr 34 (tm 16) (tm 17)),
  co 19 (.load 5 (tm 18)),
  co 20 (.move (tm 1)),
  co 21 (.move (tm 5)),
  co 22 (.indexAddr 34 (tm 20) (tm 21)),
  co 23 (.load 5 (tm 22)),
  co 24 (.binOp .neq 5 (tm 19) (tm 23) 5)]
def r28_7 : List Co := [
  co 4 (.assign (.const (.bool false)))]
def r28_8 : List Co := [
  co 25 (.binOp .add 3 (tm 13) (.const (.int .i64 1)) 3),
  co 13 (.move (tm 25))]
def l28_9 : Cc := (.seq (.reg r28_4) (.seq (.cond (tm 14) .skip (.exit 0)) (.seq (.block 1 (.seq (.reg r28_5) (.seq (.reg r28_6) (.cond (tm 24) (.seq (.reg r28_7) .ret) .skip)))) (.reg r28_8))))
def r28_10 : List Co := [
  co 4 (.assign (.const (.bool true)))]
/-- slices.Equal[[]byte,byte] -/
def c28 : Cc := (.seq (.reg r28_0) (.seq (.seq (.reg r28_1) (.cond (tm 10) (.seq (.reg r28_2) .ret) .skip)) (.seq (.seq (.reg r28_3) (.block 0 (.loop l28_9))) (.seq (.reg r28_10) .ret))))
def r29_0 : List Co := [
  co 6 (.assign (.const (.bool false)))]
def r29_1 : List Co := [
  co 10 (.move (tm 0)),
  co 11 (.call ⟨.builtin .len, #[(tm 10)], #[24]⟩),
  co 12 (.move (tm 1)),
  co 13 (.call ⟨.builtin .len, #[(tm 12)], #[24]⟩),
  co 14 (.binOp .neq 3 (tm 11) (tm 13) 3)]
def r29_2 : List Co := [
  co 6 (.assign (.const (.bool false)))]
def r29_3 : List Co := [
  co 15 (.move (tm 0)),
  co 16 (.call ⟨.builtin .len, #[(tm 15)], #[24]⟩),
  co 17 (.move (.const (.int .i64 0)))]
def r29_4 : List Co := [
  co 18 (.binOp .lss 3 (tm 17) (tm 16) 3)]
def r29_5 : List Co := [
  co 19 (.move (tm 17)),
  co 20 (.indexAddr 24 (tm 15) (tm 17)),
  co 21 (.load 51 (tm 20)),
  co 8 (.alloc 51),
  co 7 (.assign (tm 19)),
  coz (.store 51 (tm 8) (tm 21))]
def r29_6 : List Co := [
  co 22 (.move (tm 1)),
  co 23 (.move (tm 7)),
  co 24 (.indexAddr 24 (tm 22) (tm 23)),
  co 25 (.load 51 (tm 24)),
  co 9 (.alloc 51),
  coz (.store 51 (tm 9) (tm 25))]
def r29_7 : List Co := [
  co 26 (.move (tm 2)),
  co 27 (.load 51 (tm 8)),
  co 28 (.load 51 (tm 9)),
  co 29 (.call ⟨.value (tm 26), #[(tm 27), (tm 28)], #[51, 51]⟩),
  co 30 (.unOp .not 4 (tm 29))]
def r29_8 : List Co := [
  co 6 (.assign (.const (.bool false)))]
def r29_9 : List Co := [
  co 31 (.binOp .add 3 (tm 17) (.const (.int .i64 1)) 3),
  co 17 (.move (tm 31))]
def l29_10 : Cc := (.seq (.reg r29_4) (.seq (.cond (tm 18) .skip (.exit 0)) (.seq (.block 1 (.seq (.reg r29_5) (.seq (.reg r29_6) (.seq (.reg r29_7) (.cond (tm 30) (.seq (.reg r29_8) .ret) .skip))))) (.reg r29_9))))
def r29_11 : List Co := [
  co 6 (.assign (.const (.bool true)))]
/-- slices.EqualFunc[[]wireglass/api.Secret,[]wireglass/api.Secret,wireglass/api.Secret,wireglass/api.Secret] -/
def c29 : Cc := (.seq (.reg r29_0) (.seq (.seq (.reg r29_1) (.cond (tm 14) (.seq (.reg r29_2) .ret) .skip)) (.seq (.seq (.reg r29_3) (.block 0 (.loop l29_10))) (.seq (.reg r29_11) .ret))))
def r30_0 : List Co := [
  coi 2 (.box 51 (tm 0)),
  coi 3 (.box 51 (tm 1)),
  co 4 (.assign (.const (.bool false)))]
def r30_1 : List Co := [
  co 5 (.fieldAddr 51 (tm 2) 0),
  co 6 (.load 9 (tm 5)),
  co 7 (.fieldAddr 51 (tm 3) 0),
  co 8 (.load 9 (tm 7)),
  co 9 (.binOp .eql 9 (tm 6) (tm 8) 9),
  co 10 (.move (tm 9)),
  cog 11 (.fieldAddr 51 (tm 2) 1) 10 true,
  cog 12 (.load 34 (tm 11)) 10 true,
  cog 13 (.fieldAddr 51 (tm 3) 1) 10 true,
  cog 14 (.load 34 (tm 13)) 10 true,
  cog 15 (.call ⟨.value (.func 28), #[(tm 12), (tm 14)], #[34, 34]⟩) 10 true,
  co 16 (.pick (tm 10) (tm 15) (.const (.bool false))),
  co 4 (.assign (tm 16))]
/-- wireglass/capt.Same$2 -/
def c30 : Cc := (.seq (.reg r30_0) (.seq (.reg r30_1) .ret))
def r31_0 : List Co := [
  co 6 (.assign (.const (.bool false)))]
def r31_1 : List Co := [
  co 10 (.move (tm 0)),
  co 11 (.call ⟨.builtin .len, #[(tm 10)], #[25]⟩),
  co 12 (.move (tm 1)),
  co 13 (.call ⟨.builtin .len, #[(tm 12)], #[25]⟩),
  co 14 (.binOp .neq 3 (tm 11) (tm 13) 3)]
def r31_2 : List Co := [
  co 6 (.assign (.const (.bool false)))]
def r31_3 : List Co := [
  co 15 (.move (tm 0)),
  co 16 (.call ⟨.builtin .len, #[(tm 15)], #[25]⟩),
  co 17 (.move (.const (.int .i64 0)))]
def r31_4 : List Co := [
  co 18 (.binOp .lss 3 (tm 17) (tm 16) 3)]
def r31_5 : List Co := [
  co 19 (.move (tm 17)),
  co 20 (.indexAddr 25 (tm 15) (tm 17)),
  co 21 (.load 39 (tm 20)),
  co 8 (.alloc 39),
  co 7 (.assign (tm 19)),
  coz (.store 39 (tm 8) (tm 21))]
def r31_6 : List Co := [
  co 22 (.move (tm 1)),
  co 23 (.move (tm 7)),
  co 24 (.indexAddr 25 (tm 22) (tm 23)),
  co 25 (.load 39 (tm 24)),
  co 9 (.alloc 39),
  coz (.store 39 (tm 9) (tm 25))]
def r31_7 : List Co := [
  co 26 (.move (tm 2)),
  co 27 (.load 39 (tm 8)),
  co 28 (.load 39 (tm 9)),
  co 29 (.call ⟨.value (tm 26), #[(tm 27), (tm 28)], #[39, 39]⟩),
  co 30 (.unOp .not 4 (tm 29))]
def r31_8 : List Co := [
  co 6 (.assign (.const (.bool false)))]
def r31_9 : List Co := [
  co 31 (.binOp .add 3 (tm 17) (.const (.int .i64 1)) 3),
  co 17 (.move (tm 31))]
def l31_10 : Cc := (.seq (.reg r31_4) (.seq (.cond (tm 18) .skip (.exit 0)) (.seq (.block 1 (.seq (.reg r31_5) (.seq (.reg r31_6) (.seq (.reg r31_7) (.cond (tm 30) (.seq (.reg r31_8) .ret) .skip))))) (.reg r31_9))))
def r31_11 : List Co := [
  co 6 (.assign (.const (.bool true)))]
/-- slices.EqualFunc[[]wireglass/api.Packet,[]wireglass/api.Packet,wireglass/api.Packet,wireglass/api.Packet] -/
def c31 : Cc := (.seq (.reg r31_0) (.seq (.seq (.reg r31_1) (.cond (tm 14) (.seq (.reg r31_2) .ret) .skip)) (.seq (.seq (.reg r31_3) (.block 0 (.loop l31_10))) (.seq (.reg r31_11) .ret))))
def r32_0 : List Co := [
  coi 2 (.box 39 (tm 0)),
  coi 3 (.box 39 (tm 1)),
  co 4 (.assign (.const (.bool false)))]
def r32_1 : List Co := [
  co 5 (.fieldAddr 39 (tm 2) 0),
  co 6 (.load 3 (tm 5)),
  co 7 (.fieldAddr 39 (tm 3) 0),
  co 8 (.load 3 (tm 7)),
  co 9 (.binOp .eql 3 (tm 6) (tm 8) 3),
  co 10 (.move (tm 9)),
  cog 11 (.fieldAddr 39 (tm 2) 1) 10 true,
  cog 12 (.load 3 (tm 11)) 10 true,
  cog 13 (.fieldAddr 39 (tm 3) 1) 10 true,
  cog 14 (.load 3 (tm 13)) 10 true,
  cog 15 (.binOp .eql 3 (tm 12) (tm 14) 3) 10 true,
  co 16 (.pick (tm 10) (tm 15) (.const (.bool false))),
  co 17 (.move (tm 16)),
  cog 18 (.fieldAddr 39 (tm 2) 2) 17 true,
  cog 19 (.load 3 (tm 18)) 17 true,
  cog 20 (.fieldAddr 39 (tm 3) 2) 17 true,
  cog 21 (.load 3 (tm 20)) 17 true,
  cog 22 (.binOp .eql 3 (tm 19) (tm 21) 3) 17 true,
  co 23 (.pick (tm 17) (tm 22) (.const (.bool false))),
  co 24 (.move (tm 23)),
  cog 25 (.fieldAddr 39 (tm 2) 4) 24 true,
  cog 26 (.load 9 (tm 25)) 24 true,
  cog 27 (.fieldAddr 39 (tm 3) 4) 24 true,
  cog 28 (.load 9 (tm 27)) 24 true,
  cog 29 (.binOp .eql 9 (tm 26) (tm 28) 9) 24 true,
  co 30 (.pick (tm 24) (tm 29) (.const (.bool false))),
  co 31 (.move (tm 30)),
  cog 32 (.fieldAddr 39 (tm 2) 3) 31 true,
  cog 33 (.load 34 (tm 32)) 31 true,
  cog 34 (.fieldAddr 39 (tm 3) 3) 31 true,
  cog 35 (.load 34 (tm 34)) 31 true,
  cog 36 (.call ⟨.value (.func 28), #[(tm 33), (tm 35)], #[34, 34]⟩) 31 true,
  co 37 (.pick (tm 31) (tm 36) (.const (.bool false))),
  co 4 (.assign (tm 37))]
/-- wireglass/capt.Same$3 -/
def c32 : Cc := (.seq (.reg r32_0) (.seq (.reg r32_1) .ret))
def r33_0 : List Co := [
  co 4 (.assign (.const (.bool false)))]
def r33_1 : List Co := [
  co 6 (.move (tm 0)),
  co 7 (.call ⟨.builtin .len, #[(tm 6)], #[22]⟩),
  co 8 (.move (tm 1)),
  co 9 (.call ⟨.builtin .len, #[(tm 8)], #[22]⟩),
  co 10 (.binOp .neq 3 (tm 7) (tm 9) 3)]
def r33_2 : List Co := [
  co 4 (.assign (.const (.bool false)))]
def r33_3 : List Co := [
  co 11 (.move (tm 0)),
  co 12 (.call ⟨.builtin .len, #[(tm 11)], #[22]⟩),
  co 13 (.move (.const (.int .i64 0)))]
def r33_4 : List Co := [
  co 14 (.binOp .lss 3 (tm 13) (tm 12) 3)]
def r33_5 : List Co := [
  co 15 (.move (tm 13)),
  co 5 (.assign (tm 15))]
def r33_6 : List Co := [
  co 16 (.move (tm 0)),
  co 17 (.move (tm 5)),
  co 18 (.indexAddr 22 (tm 16) (tm 17)),
  co 19 (.load 46 (tm 18)),
  co 20 (.move (tm 1)),
  co 21 (.move (tm 5)),
  co 22 (.indexAddr 22 (tm 20) (tm 21)),
  co 23 (.load 46 (tm 22)),
  co 24 (.binOp .neq 46 (tm 19) (tm 23) 46)]
def r33_7 : List Co := [
  co 4 (.assign (.const (.bool false)))]
def r33_8 : List Co := [
  co 25 (.binOp .add 3 (tm 13) (.const (.int .i64 1)) 3),
  co 13 (.move (tm 25))]
def l33_9 : Cc := (.seq (.reg r33_4) (.seq (.cond (tm 14) .skip (.exit 0)) (.seq (.block 1 (.seq (.reg r33_5) (.seq (.reg r33_6) (.cond (tm 24) (.seq (.reg r33_7) .ret) .skip)))) (.reg r33_8))))
def r33_10 : List Co := [
  co 4 (.assign (.const (.bool true)))]
/-- slices.Equal[[]wireglass/api.Face,wireglass/api.Face] -/
def c33 : Cc := (.seq (.reg r33_0) (.seq (.seq (.reg r33_1) (.cond (tm 10) (.seq (.reg r33_2) .ret) .skip)) (.seq (.seq (.reg r33_3) (.block 0 (.loop l33_9))) (.seq (.reg r33_10) .ret))))
def r34_0 : List Co := [
  co 2 (.assign (.const (.slice none 0 0)))]
def r34_1 : List Co := [
  co 3 (.move (tm 0)),
  co 4 (.binOp .eql 22 (tm 3) (.const (.slice none 0 0)) 22)]
def r34_2 : List Co := [
  co 2 (.assign (.const (.slice none 0 0)))]
def r34_3 : List Co := [
  co 5 (.buildSlice 22 0 #[]),
  co 6 (.move (tm 0)),
  co 7 (.call ⟨.builtin .append, #[(tm 5), (tm 6)], #[22, 22]⟩),
  co 2 (.assign (tm 7))]
/-- slices.Clone[[]wireglass/api.Face,wireglass/api.Face] -/
def c34 : Cc := (.seq (.reg r34_0) (.seq (.seq (.reg r34_1) (.cond (tm 4) (.seq (.reg r34_2) .ret) .skip)) (.seq (.reg r34_3) .ret)))
def r35_0 : List Co := [
  co 2 (.assign (.const (.slice none 0 0)))]
def r35_1 : List Co := [
  co 3 (.move (tm 0)),
  co 4 (.binOp .eql 23 (tm 3) (.const (.slice none 0 0)) 23)]
def r35_2 : List Co := [
  co 2 (.assign (.const (.slice none 0 0)))]
def r35_3 : List Co := [
  co 5 (.buildSlice 23 0 #[]),
  co 6 (.move (tm 0)),
  co 7 (.call ⟨.builtin .append, #[(tm 5), (tm 6)], #[23, 23]⟩),
  co 2 (.assign (tm 7))]
/-- slices.Clone[[]wireglass/api.Name,wireglass/api.Name] -/
def c35 : Cc := (.seq (.reg r35_0) (.seq (.seq (.reg r35_1) (.cond (tm 4) (.seq (.reg r35_2) .ret) .skip)) (.seq (.reg r35_3) .ret)))
def r36_0 : List Co := [
  co 2 (.assign (.const (.slice none 0 0)))]
def r36_1 : List Co := [
  co 3 (.move (tm 0)),
  co 4 (.binOp .eql 34 (tm 3) (.const (.slice none 0 0)) 34)]
def r36_2 : List Co := [
  co 2 (.assign (.const (.slice none 0 0)))]
def r36_3 : List Co := [
  co 5 (.buildSlice 34 0 #[]),
  co 6 (.move (tm 0)),
  co 7 (.call ⟨.builtin .append, #[(tm 5), (tm 6)], #[34, 34]⟩),
  co 2 (.assign (tm 7))]
/-- slices.Clone[[]byte,byte] -/
def c36 : Cc := (.seq (.reg r36_0) (.seq (.seq (.reg r36_1) (.cond (tm 4) (.seq (.reg r36_2) .ret) .skip)) (.seq (.reg r36_3) .ret)))
def r37_0 : List Co := [
  co 2 (.assign (.const (.slice none 0 0)))]
def r37_1 : List Co := [
  co 3 (.move (tm 0)),
  co 4 (.binOp .eql 24 (tm 3) (.const (.slice none 0 0)) 24)]
def r37_2 : List Co := [
  co 2 (.assign (.const (.slice none 0 0)))]
def r37_3 : List Co := [
  co 5 (.buildSlice 24 0 #[]),
  co 6 (.move (tm 0)),
  co 7 (.call ⟨.builtin .append, #[(tm 5), (tm 6)], #[24, 24]⟩),
  co 2 (.assign (tm 7))]
/-- slices.Clone[[]wireglass/api.Secret,wireglass/api.Secret] -/
def c37 : Cc := (.seq (.reg r37_0) (.seq (.seq (.reg r37_1) (.cond (tm 4) (.seq (.reg r37_2) .ret) .skip)) (.seq (.reg r37_3) .ret)))
def r38_0 : List Co := [
  co 2 (.assign (.const (.slice none 0 0)))]
def r38_1 : List Co := [
  co 3 (.move (tm 0)),
  co 4 (.binOp .eql 25 (tm 3) (.const (.slice none 0 0)) 25)]
def r38_2 : List Co := [
  co 2 (.assign (.const (.slice none 0 0)))]
def r38_3 : List Co := [
  co 5 (.buildSlice 25 0 #[]),
  co 6 (.move (tm 0)),
  co 7 (.call ⟨.builtin .append, #[(tm 5), (tm 6)], #[25, 25]⟩),
  co 2 (.assign (tm 7))]
/-- slices.Clone[[]wireglass/api.Packet,wireglass/api.Packet] -/
def c38 : Cc := (.seq (.reg r38_0) (.seq (.seq (.reg r38_1) (.cond (tm 4) (.seq (.reg r38_2) .ret) .skip)) (.seq (.reg r38_3) .ret)))
def r39_0 : List Co := [
  co 2 (.assign (.const (.bool false)))]
def r39_1 : List Co := [
  co 3 (.move (tm 0)),
  co 4 (.call ⟨.builtin .len, #[(tm 3)], #[9]⟩),
  co 5 (.binOp .leq 3 (tm 4) (.const (.int .i64 200)) 3),
  co 6 (.move (tm 5)),
  cog 7 (.move (tm 0)) 6 true,
  ⟨some 8, .convert 9 34 (tm 7), true, some (6, true), false, false, []⟩,
  cog 9 (.call ⟨.value (.func 54), #[(tm 8), (.func 55)], #[34, 87]⟩) 6 true,
  cog 10 (.unOp .not 4 (tm 9)) 6 true,
  co 11 (.pick (tm 6) (tm 10) (.const (.bool false))),
  co 2 (.assign (tm 11))]
/-- wireglass/capt.isText -/
def c39 : Cc := (.seq (.reg r39_0) (.seq (.reg r39_1) .ret))
def r40_0 : List Co := [
  coi 1 (.box 46 (tm 0)),
  co 2 (.assign (.const (.bool false)))]
def r40_1 : List Co := [
  co 3 (.fieldAddr 46 (tm 1) 0),
  co 4 (.load 9 (tm 3)),
  co 5 (.call ⟨.value (.func 39), #[(tm 4)], #[9]⟩),
  co 6 (.move (tm 5)),
  cog 7 (.fieldAddr 46 (tm 1) 1) 6 true,
  cog 8 (.load 3 (tm 7)) 6 true,
  cog 9 (.binOp .geq 3 (tm 8) (.const (.int .i64 0)) 3) 6 true,
  co 10 (.pick (tm 6) (tm 9) (.const (.bool false))),
  co 11 (.move (tm 10)),
  cog 12 (.fieldAddr 46 (tm 1) 1) 11 true,
  cog 13 (.load 3 (tm 12)) 11 true,
  cog 14 (.binOp .leq 3 (tm 13) (.const (.int .i64 65535)) 3) 11 true,
  co 15 (.pick (tm 11) (tm 14) (.const (.bool false))),
  co 16 (.move (tm 15)),
  cog 17 (.fieldAddr 46 (tm 1) 2) 16 true,
  cog 18 (.load 3 (tm 17)) 16 true,
  cog 19 (.binOp .geq 3 (tm 18) (.const (.int .i64 0)) 3) 16 true,
  co 20 (.pick (tm 16) (tm 19) (.const (.bool false))),
  co 21 (.move (tm 20)),
  cog 22 (.fieldAddr 46 (tm 1) 2) 21 true,
  cog 23 (.load 3 (tm 22)) 21 true,
  cog 24 (.binOp .leq 3 (tm 23) (.const (.int .i64 400)) 3) 21 true,
  co 25 (.pick (tm 21) (tm 24) (.const (.bool false))),
  co 2 (.assign (tm 25))]
/-- wireglass/capt.isFace -/
def c40 : Cc := (.seq (.reg r40_0) (.seq (.reg r40_1) .ret))
def r41_0 : List Co := [
  coi 1 (.box 41 (tm 0)),
  co 2 (.assign (.const (.bool false)))]
def r41_1 : List Co := [
  co 3 (.fieldAddr 41 (tm 1) 1),
  co 4 (.load 9 (tm 3)),
  co 5 (.call ⟨.value (.func 39), #[(tm 4)], #[9]⟩),
  co 6 (.move (tm 5)),
  cog 7 (.fieldAddr 41 (tm 1) 0) 6 true,
  cog 8 (.load 34 (tm 7)) 6 true,
  cog 9 (.call ⟨.builtin .len, #[(tm 8)], #[34]⟩) 6 true,
  cog 10 (.binOp .geq 3 (tm 9) (.const (.int .i64 1)) 3) 6 true,
  co 11 (.pick (tm 6) (tm 10) (.const (.bool false))),
  co 12 (.move (tm 11)),
  cog 13 (.fieldAddr 41 (tm 1) 0) 12 true,
  cog 14 (.load 34 (tm 13)) 12 true,
  cog 15 (.call ⟨.builtin .len, #[(tm 14)], #[34]⟩) 12 true,
  cog 16 (.binOp .leq 3 (tm 15) (.const (.int .i64 16)) 3) 12 true,
  co 17 (.pick (tm 12) (tm 16) (.const (.bool false))),
  co 2 (.assign (tm 17))]
/-- wireglass/capt.isName -/
def c41 : Cc := (.seq (.reg r41_0) (.seq (.reg r41_1) .ret))
def r42_0 : List Co := [
  coi 1 (.box 51 (tm 0)),
  co 2 (.assign (.const (.bool false)))]
def r42_1 : List Co := [
  co 3 (.fieldAddr 51 (tm 1) 0),
  co 4 (.load 9 (tm 3)),
  co 5 (.call ⟨.value (.func 39), #[(tm 4)], #[9]⟩),
  co 6 (.move (tm 5)),
  cog 7 (.fieldAddr 51 (tm 1) 0) 6 true,
  cog 8 (.load 9 (tm 7)) 6 true,
  cog 9 (.binOp .neq 9 (tm 8) (.const (.string ⟨#[]⟩)) 9) 6 true,
  co 10 (.pick (tm 6) (tm 9) (.const (.bool false))),
  co 11 (.move (tm 10)),
  cog 12 (.fieldAddr 51 (tm 1) 1) 11 true,
  cog 13 (.load 34 (tm 12)) 11 true,
  cog 14 (.call ⟨.builtin .len, #[(tm 13)], #[34]⟩) 11 true,
  cog 15 (.binOp .geq 3 (tm 14) (.const (.int .i64 1)) 3) 11 true,
  co 16 (.pick (tm 11) (tm 15) (.const (.bool false))),
  co 17 (.move (tm 16)),
  cog 18 (.fieldAddr 51 (tm 1) 1) 17 true,
  cog 19 (.load 34 (tm 18)) 17 true,
  cog 20 (.call ⟨.builtin .len, #[(tm 19)], #[34]⟩) 17 true,
  cog 21 (.binOp .leq 3 (tm 20) (.const (.int .i64 200)) 3) 17 true,
  co 22 (.pick (tm 17) (tm 21) (.const (.bool false))),
  co 2 (.assign (tm 22))]
/-- wireglass/capt.isSecret -/
def c42 : Cc := (.seq (.reg r42_0) (.seq (.reg r42_1) .ret))
def r43_0 : List Co := [
  coi 2 (.box 39 (tm 0)),
  co 4 (.assign (.const (.bool false)))]
def r43_1 : List Co := [
  co 6 (.fieldAddr 39 (tm 2) 1),
  co 7 (.load 3 (tm 6)),
  co 8 (.binOp .lss 3 (tm 7) (.const (.int .i64 0)) 3),
  co 9 (.move (tm 8)),
  cog 10 (.fieldAddr 39 (tm 2) 1) 9 false,
  cog 11 (.load 3 (tm 10)) 9 false,
  cog 12 (.move (tm 1)) 9 false,
  cog 13 (.call ⟨.builtin .len, #[(tm 12)], #[22]⟩) 9 false,
  cog 14 (.binOp .geq 3 (tm 11) (tm 13) 3) 9 false,
  co 15 (.pick (tm 9) (.const (.bool true)) (tm 14)),
  co 16 (.move (tm 15)),
  cog 17 (.fieldAddr 39 (tm 2) 0) 16 false,
  cog 18 (.load 3 (tm 17)) 16 false,
  cog 19 (.binOp .lss 3 (tm 18) (.const (.int .i64 0)) 3) 16 false,
  co 20 (.pick (tm 16) (.const (.bool true)) (tm 19)),
  co 21 (.move (tm 20)),
  cog 22 (.fieldAddr 39 (tm 2) 0) 21 false,
  cog 23 (.load 3 (tm 22)) 21 false,
  cog 24 (.binOp .gtr 3 (tm 23) (.const (.int .i64 1000000000000000)) 3) 21 false,
  co 25 (.pick (tm 21) (.const (.bool true)) (tm 24)),
  co 26 (.move (tm 25)),
  cog 27 (.fieldAddr 39 (tm 2) 3) 26 false,
  cog 28 (.load 34 (tm 27)) 26 false,
  cog 29 (.call ⟨.builtin .len, #[(tm 28)], #[34]⟩) 26 false,
  cog 30 (.binOp .gtr 3 (tm 29) (.const (.int .i64 400)) 3) 26 false,
  co 31 (.pick (tm 26) (.const (.bool true)) (tm 30)),
  co 32 (.move (tm 31)),
  cog 33 (.fieldAddr 39 (tm 2) 4) 32 false,
  cog 34 (.load 9 (tm 33)) 32 false,
  cog 35 (.call ⟨.value (.func 39), #[(tm 34)], #[9]⟩) 32 false,
  cog 36 (.unOp .not 4 (tm 35)) 32 false,
  co 37 (.pick (tm 32) (.const (.bool true)) (tm 36))]
def r43_2 : List Co := [
  co 4 (.assign (.const (.bool false)))]
def r43_3 : List Co := [
  co 38 (.move (tm 1)),
  co 39 (.fieldAddr 39 (tm 2) 1),
  co 40 (.load 3 (tm 39)),
  co 41 (.indexAddr 22 (tm 38) (tm 40)),
  co 42 (.fieldAddr 46 (tm 41) 2),
  co 43 (.load 3 (tm 42)),
  co 5 (.assign (tm 43))]
def r43_4 : List Co := [
  co 44 (.move (tm 5)),
  co 45 (.binOp .eql 3 (tm 44) (.const (.int .i64 0)) 3),
  co 46 (.move (tm 45)),
  cog 47 (.fieldAddr 39 (tm 2) 3) 46 false,
  cog 48 (.load 34 (tm 47)) 46 false,
  cog 49 (.call ⟨.builtin .len, #[(tm 48)], #[34]⟩) 46 false,
  cog 50 (.move (tm 5)) 46 false,
  cog 51 (.binOp .leq 3 (tm 49) (tm 50) 3) 46 false,
  co 52 (.pick (tm 46) (.const (.bool true)) (tm 51)),
  co 53 (.move (tm 52)),
  cog 54 (.fieldAddr 39 (tm 2) 2) 53 true,
  cog 55 (.load 3 (tm 54)) 53 true,
  cog 56 (.fieldAddr 39 (tm 2) 3) 53 true,
  cog 57 (.load 34 (tm 56)) 53 true,
  cog 58 (.call ⟨.builtin .len, #[(tm 57)], #[34]⟩) 53 true,
  cog 59 (.binOp .geq 3 (tm 55) (tm 58) 3) 53 true,
  co 60 (.pick (tm 53) (tm 59) (.const (.bool false))),
  co 61 (.move (tm 60)),
  cog 62 (.fieldAddr 39 (tm 2) 2) 61 true,
  cog 63 (.load 3 (tm 62)) 61 true,
  cog 64 (.binOp .leq 3 (tm 63) (.const (.int .i64 1000000)) 3) 61 true,
  co 65 (.pick (tm 61) (tm 64) (.const (.bool false))),
  co 4 (.assign (tm 65))]
/-- wireglass/capt.isPacket -/
def c43 : Cc := (.seq (.reg r43_0) (.seq (.seq (.reg r43_1) (.cond (tm 37) (.seq (.reg r43_2) .ret) .skip)) (.seq (.reg r43_3) (.seq (.reg r43_4) .ret))))
def r44_0 : List Co := [
  co 1 (.box 27 (tm 0)),
  co 2 (.assign (.const (.bool false)))]
def r44_1 : List Co := [
  co 11 (.fieldAddr 27 (tm 1) 0),
  co 12 (.load 9 (tm 11)),
  co 13 (.call ⟨.value (.func 56), #[(tm 12)], #[9]⟩),
  co 14 (.unOp .not 4 (tm 13)),
  co 15 (.move (tm 14)),
  cog 16 (.fieldAddr 27 (tm 1) 1) 15 false,
  cog 17 (.load 22 (tm 16)) 15 false,
  cog 18 (.call ⟨.builtin .len, #[(tm 17)], #[22]⟩) 15 false,
  cog 19 (.binOp .lss 3 (tm 18) (.const (.int .i64 1)) 3) 15 false,
  co 20 (.pick (tm 15) (.const (.bool true)) (tm 19))]
def r44_2 : List Co := [
  co 2 (.assign (.const (.bool false)))]
def r44_3 : List Co := [
  co 3 (.assign (.const (.int .i64 0)))]
def r44_4 : List Co := [
  co 21 (.move (tm 3)),
  co 22 (.fieldAddr 27 (tm 1) 1),
  co 23 (.load 22 (tm 22)),
  co 24 (.call ⟨.builtin .len, #[(tm 23)], #[22]⟩),
  co 25 (.binOp .lss 3 (tm 21) (tm 24) 3)]
def r44_5 : List Co := [
  co 28 (.fieldAddr 27 (tm 1) 1),
  co 29 (.load 22 (tm 28)),
  co 30 (.move (tm 3)),
  co 31 (.indexAddr 22 (tm 29) (tm 30)),
  co 32 (.load 46 (tm 31)),
  co 4 (.alloc 46),
  coz (.store 46 (tm 4) (tm 32))]
def r44_6 : List Co := [
  co 33 (.fieldAddr 46 (tm 4) 0),
  co 34 (.load 9 (tm 33)),
  co 35 (.call ⟨.value (.func 56), #[(tm 34)], #[9]⟩),
  co 36 (.unOp .not 4 (tm 35)),
  co 37 (.move (tm 36)),
  cog 38 (.fieldAddr 46 (tm 4) 1) 37 false,
  cog 39 (.load 3 (tm 38)) 37 false,
  cog 40 (.binOp .lss 3 (tm 39) (.const (.int .i64 0)) 3) 37 false,
  co 41 (.pick (tm 37) (.const (.bool true)) (tm 40)),
  co 42 (.move (tm 41)),
  cog 43 (.fieldAddr 46 (tm 4) 1) 42 false,
  cog 44 (.load 3 (tm 43)) 42 false,
  cog 45 (.binOp .gtr 3 (tm 44) (.const (.int .i64 65535)) 3) 42 false,
  co 46 (.pick (tm 42) (.const (.bool true)) (tm 45)),
  co 47 (.move (tm 46)),
  cog 48 (.fieldAddr 46 (tm 4) 2) 47 false,
  cog 49 (.load 3 (tm 48)) 47 false,
  cog 50 (.binOp .lss 3 (tm 49) (.const (.int .i64 0)) 3) 47 false,
  co 51 (.pick (tm 47) (.const (.bool true)) (tm 50)),
  co 52 (.move (tm 51)),
  cog 53 (.fieldAddr 46 (tm 4) 2) 52 false,
  cog 54 (.load 3 (tm 53)) 52 false,
  cog 55 (.binOp .gtr 3 (tm 54) (.const (.int .i64 400)) 3) 52 false,
  co 56 (.pick (tm 52) (.const (.bool true)) (tm 55))]
def r44_7 : List Co := [
  co 2 (.assign (.const (.bool false)))]
def r44_8 : List Co := [
  co 26 (.move (tm 3)),
  co 27 (.binOp .add 3 (tm 26) (.const (.int .i64 1)) 3),
  co 3 (.assign (tm 27))]
def l44_9 : Cc := (.seq (.seq (.reg r44_4) (.cond (tm 25) .skip (.exit 0))) (.seq (.block 1 (.seq (.reg r44_5) (.seq (.reg r44_6) (.cond (tm 56) (.seq (.reg r44_7) .ret) .skip)))) (.reg r44_8)))
def r44_10 : List Co := [
  co 5 (.assign (.const (.int .i64 0)))]
def r44_11 : List Co := [
  co 57 (.move (tm 5)),
  co 58 (.fieldAddr 27 (tm 1) 2),
  co 59 (.load 23 (tm 58)),
  co 60 (.call ⟨.builtin .len, #[(tm 59)], #[23]⟩),
  co 61 (.binOp .lss 3 (tm 57) (tm 60) 3)]
def r44_12 : List Co := [
  co 64 (.fieldAddr 27 (tm 1) 2),
  co 65 (.load 23 (tm 64)),
  co 66 (.move (tm 5)),
  co 67 (.indexAddr 23 (tm 65) (tm 66)),
  co 68 (.load 41 (tm 67)),
  co 6 (.alloc 41),
  coz (.store 41 (tm 6) (tm 68))]
def r44_13 : List Co := [
  co 69 (.fieldAddr 41 (tm 6) 0),
  co 70 (.load 34 (tm 69)),
  co 71 (.call ⟨.builtin .len, #[(tm 70)], #[34]⟩),
  co 72 (.binOp .lss 3 (tm 71) (.const (.int .i64 1)) 3),
  co 73 (.move (tm 72)),
  cog 74 (.fieldAddr 41 (tm 6) 0) 73 false,
  cog 75 (.load 34 (tm 74)) 73 false,
  cog 76 (.call ⟨.builtin .len, #[(tm 75)], #[34]⟩) 73 false,
  cog 77 (.binOp .gtr 3 (tm 76) (.const (.int .i64 16)) 3) 73 false,
  co 78 (.pick (tm 73) (.const (.bool true)) (tm 77)),
  co 79 (.move (tm 78)),
  cog 80 (.fieldAddr 41 (tm 6) 1) 79 false,
  cog 81 (.load 9 (tm 80)) 79 false,
  cog 82 (.call ⟨.value (.func 56), #[(tm 81)], #[9]⟩) 79 false,
  cog 83 (.unOp .not 4 (tm 82)) 79 false,
  co 84 (.pick (tm 79) (.const (.bool true)) (tm 83))]
def r44_14 : List Co := [
  co 2 (.assign (.const (.bool false)))]
def r44_15 : List Co := [
  co 62 (.move (tm 5)),
  co 63 (.binOp .add 3 (tm 62) (.const (.int .i64 1)) 3),
  co 5 (.assign (tm 63))]
def l44_16 : Cc := (.seq (.seq (.reg r44_11) (.cond (tm 61) .skip (.exit 2))) (.seq (.block 3 (.seq (.reg r44_12) (.seq (.reg r44_13) (.cond (tm 84) (.seq (.reg r44_14) .ret) .skip)))) (.reg r44_15)))
def r44_17 : List Co := [
  co 7 (.assign (.const (.int .i64 0)))]
def r44_18 : List Co := [
  co 85 (.move (tm 7)),
  co 86 (.fieldAddr 27 (tm 1) 3),
  co 87 (.load 24 (tm 86)),
  co 88 (.call ⟨.builtin .len, #[(tm 87)], #[24]⟩),
  co 89 (.binOp .lss 3 (tm 85) (tm 88) 3)]
def r44_19 : List Co := [
  co 92 (.fieldAddr 27 (tm 1) 3),
  co 93 (.load 24 (tm 92)),
  co 94 (.move (tm 7)),
  co 95 (.indexAddr 24 (tm 93) (tm 94)),
  co 96 (.load 51 (tm 95)),
  co 8 (.alloc 51),
  coz (.store 51 (tm 8) (tm 96))]
def r44_20 : List Co := [
  co 97 (.fieldAddr 51 (tm 8) 0),
  co 98 (.load 9 (tm 97)),
  co 99 (.call ⟨.value (.func 56), #[(tm 98)], #[9]⟩),
  co 100 (.unOp .not 4 (tm 99)),
  co 101 (.move (tm 100)),
  cog 102 (.fieldAddr 51 (tm 8) 0) 101 false,
  cog 103 (.load 9 (tm 102)) 101 false,
  cog 104 (.binOp .eql 9 (tm 103) (.const (.string ⟨#[]⟩)) 9) 101 false,
  co 105 (.pick (tm 101) (.const (.bool true)) (tm 104)),
  co 106 (.move (tm 105)),
  cog 107 (.fieldAddr 51 (tm 8) 1) 106 false,
  cog 108 (.load 34 (tm 107)) 106 false,
  cog 109 (.call ⟨.builtin .len, #[(tm 108)], #[34]⟩) 106 false,
  cog 110 (.binOp .lss 3 (tm 109) (.const (.int .i64 1)) 3) 106 false,
  co 111 (.pick (tm 106) (.const (.bool true)) (tm 110)),
  co 112 (.move (tm 111)),
  cog 113 (.fieldAddr 51 (tm 8) 1) 112 false,
  cog 114 (.load 34 (tm 113)) 112 false,
  cog 115 (.call ⟨.builtin .len, #[(tm 114)], #[34]⟩) 112 false,
  cog 116 (.binOp .gtr 3 (tm 115) (.const (.int .i64 200)) 3) 112 false,
  co 117 (.pick (tm 112) (.const (.bool true)) (tm 116))]
def r44_21 : List Co := [
  co 2 (.assign (.const (.bool false)))]
def r44_22 : List Co := [
  co 90 (.move (tm 7)),
  co 91 (.binOp .add 3 (tm 90) (.const (.int .i64 1)) 3),
  co 7 (.assign (tm 91))]
def l44_23 : Cc := (.seq (.seq (.reg r44_18) (.cond (tm 89) .skip (.exit 4))) (.seq (.block 5 (.seq (.reg r44_19) (.seq (.reg r44_20) (.cond (tm 117) (.seq (.reg r44_21) .ret) .skip)))) (.reg r44_22)))
def r44_24 : List Co := [
  co 9 (.assign (.const (.int .i64 0)))]
def r44_25 : List Co := [
  co 118 (.move (tm 9)),
  co 119 (.fieldAddr 27 (tm 1) 4),
  co 120 (.load 25 (tm 119)),
  co 121 (.call ⟨.builtin .len, #[(tm 120)], #[25]⟩),
  co 122 (.binOp .lss 3 (tm 118) (tm 121) 3)]
def r44_26 : List Co := [
  co 125 (.fieldAddr 27 (tm 1) 4),
  co 126 (.load 25 (tm 125)),
  co 127 (.move (tm 9)),
  co 128 (.indexAddr 25 (tm 126) (tm 127)),
  co 129 (.load 39 (tm 128)),
  co 10 (.alloc 39),
  coz (.store 39 (tm 10) (tm 129))]
def r44_27 : List Co := [
  co 130 (.fieldAddr 39 (tm 10) 1),
  co 131 (.load 3 (tm 130)),
  co 132 (.binOp .lss 3 (tm 131) (.const (.int .i64 0)) 3),
  co 133 (.move (tm 132)),
  cog 134 (.fieldAddr 39 (tm 10) 1) 133 false,
  cog 135 (.load 3 (tm 134)) 133 false,
  cog 136 (.fieldAddr 27 (tm 1) 1) 133 false,
  cog 137 (.load 22 (tm 136)) 133 false,
  cog 138 (.call ⟨.builtin .len, #[(tm 137)], #[22]⟩) 133 false,
  cog 139 (.binOp .geq 3 (tm 135) (tm 138) 3) 133 false,
  co 140 (.pick (tm 133) (.const (.bool true)) (tm 139)),
  co 141 (.move (tm 140)),
  cog 142 (.load 39 (tm 10)) 141 false,
  cog 143 (.fieldAddr 27 (tm 1) 1) 141 false,
  cog 144 (.load 22 (tm 143)) 141 false,
  cog 145 (.fieldAddr 39 (tm 10) 1) 141 false,
  cog 146 (.load 3 (tm 145)) 141 false,
  cog 147 (.indexAddr 22 (tm 144) (tm 146)) 141 false,
  cog 148 (.fieldAddr 46 (tm 147) 2) 141 false,
  cog 149 (.load 3 (tm 148)) 141 false,
  cog 150 (.call ⟨.value (.func 57), #[(tm 142), (tm 149)], #[39, 3]⟩) 141 false,
  cog 151 (.unOp .not 4 (tm 150)) 141 false,
  co 152 (.pick (tm 141) (.const (.bool true)) (tm 151))]
def r44_28 : List Co := [
  co 2 (.assign (.const (.bool false)))]
def r44_29 : List Co := [
  co 123 (.move (tm 9)),
  co 124 (.binOp .add 3 (tm 123) (.const (.int .i64 1)) 3),
  co 9 (.assign (tm 124))]
def l44_30 : Cc := (.seq (.seq (.reg r44_25) (.cond (tm 122) .skip (.exit 6))) (.seq (.block 7 (.seq (.reg r44_26) (.seq (.reg r44_27) (.cond (tm 152) (.seq (.reg r44_28) .ret) .skip)))) (.reg r44_29)))
def r44_31 : List Co := [
  co 2 (.assign (.const (.bool true)))]
/-- wireglass/wireglassref02.isRight -/
def c44 : Cc := (.seq (.reg r44_0) (.seq (.seq (.reg r44_1) (.cond (tm 20) (.seq (.reg r44_2) .ret) .skip)) (.seq (.seq (.reg r44_3) (.block 0 (.loop l44_9))) (.seq (.seq (.reg r44_10) (.block 2 (.loop l44_16))) (.seq (.seq (.reg r44_17) (.block 4 (.loop l44_23))) (.seq (.seq (.reg r44_24) (.block 6 (.loop l44_30))) (.seq (.reg r44_31) .ret)))))))
def r45_0 : List Co := [
  co 8 (.move (tm 2)),
  co 9 (.call ⟨.builtin .len, #[(tm 8)], #[89]⟩),
  co 10 (.move (.const (.int .i64 0)))]
def r45_1 : List Co := [
  co 11 (.binOp .lss 3 (tm 10) (tm 9) 3)]
def r45_2 : List Co := [
  co 12 (.indexAddr 89 (tm 8) (tm 10)),
  co 13 (.load 3 (tm 12)),
  co 7 (.assign (tm 13))]
def r45_3 : List Co := [
  co 14 (.move (tm 0)),
  co 15 (.move (tm 0)),
  co 16 (.nilCheck (tm 15)),
  co 17 (.fieldAddr 58 (tm 16) 1),
  co 18 (.load 34 (tm 17)),
  co 19 (.move (tm 0)),
  co 20 (.nilCheck (tm 19)),
  co 21 (.fieldAddr 58 (tm 20) 0),
  co 22 (.load 55 (tm 21)),
  co 23 (.move (tm 7)),
  co 24 (.move (tm 1)),
  ⟨some 25, .call ⟨.invoke (tm 22) "wireglass/capt.put", #[(tm 23), (tm 24)], #[3, 3]⟩, false, none, false, false, [(none, .load 34 (tm 17))]⟩,
  co 26 (.call ⟨.builtin .append, #[(tm 18), (tm 25)], #[34, 34]⟩),
  co 27 (.nilCheck (tm 14)),
  co 28 (.fieldAddr 58 (tm 27) 1),
  coz (.store 34 (tm 28) (tm 26))]
def r45_4 : List Co := [
  co 29 (.binOp .add 3 (tm 10) (.const (.int .i64 1)) 3),
  co 10 (.move (tm 29))]
def l45_5 : Cc := (.seq (.reg r45_1) (.seq (.cond (tm 11) .skip (.exit 0)) (.seq (.block 1 (.seq (.reg r45_2) (.reg r45_3))) (.reg r45_4))))
/-- (*wireglass/capt.writer).numbers -/
def c45 : Cc := (.seq (.reg r45_0) (.block 0 (.loop l45_5)))
def r54_0 : List Co := [
  co 4 (.assign (.const (.bool false)))]
def r54_1 : List Co := [
  co 5 (.move (tm 0)),
  co 6 (.move (tm 1)),
  co 7 (.call ⟨.value (.func 61), #[(tm 5), (tm 6)], #[34, 87]⟩),
  co 8 (.binOp .geq 3 (tm 7) (.const (.int .i64 0)) 3),
  co 4 (.assign (tm 8))]
/-- slices.ContainsFunc[[]byte,byte] -/
def c54 : Cc := (.seq (.reg r54_0) (.seq (.reg r54_1) .ret))
def r55_0 : List Co := [
  co 2 (.assign (.const (.bool false)))]
def r55_1 : List Co := [
  co 3 (.move (tm 0)),
  co 4 (.binOp .lss 5 (tm 3) (.const (.int .u8 32)) 5),
  co 5 (.move (tm 4)),
  cog 6 (.move (tm 0)) 5 false,
  cog 7 (.binOp .gtr 5 (tm 6) (.const (.int .u8 126)) 5) 5 false,
  co 8 (.pick (tm 5) (.const (.bool true)) (tm 7)),
  co 2 (.assign (tm 8))]
/-- wireglass/capt.isText$1 -/
def c55 : Cc := (.seq (.reg r55_0) (.seq (.reg r55_1) .ret))
def r56_0 : List Co := [
  co 2 (.assign (.const (.bool false)))]
def r56_1 : List Co := [
  co 3 (.assign (.const (.int .i64 0)))]
def r56_2 : List Co := [
  co 4 (.move (tm 3)),
  co 5 (.move (tm 0)),
  co 6 (.call ⟨.builtin .len, #[(tm 5)], #[9]⟩),
  co 7 (.binOp .lss 3 (tm 4) (tm 6) 3)]
def r56_3 : List Co := [
  co 10 (.move (tm 0)),
  co 11 (.move (tm 3)),
  co 12 (.index 9 (tm 10) (tm 11)),
  co 13 (.binOp .lss 5 (tm 12) (.const (.int .u8 32)) 5),
  co 14 (.move (tm 13)),
  cog 15 (.move (tm 0)) 14 false,
  cog 16 (.move (tm 3)) 14 false,
  cog 17 (.index 9 (tm 15) (tm 16)) 14 false,
  cog 18 (.binOp .gtr 5 (tm 17) (.const (.int .u8 126)) 5) 14 false,
  co 19 (.pick (tm 14) (.const (.bool true)) (tm 18))]
def r56_4 : List Co := [
  co 2 (.assign (.const (.bool false)))]
def r56_5 : List Co := [
  co 8 (.move (tm 3)),
  co 9 (.binOp .add 3 (tm 8) (.const (.int .i64 1)) 3),
  co 3 (.assign (tm 9))]
def l56_6 : Cc := (.seq (.seq (.reg r56_2) (.cond (tm 7) .skip (.exit 0))) (.seq (.block 1 (.seq (.reg r56_3) (.cond (tm 19) (.seq (.reg r56_4) .ret) .skip))) (.reg r56_5)))
def r56_7 : List Co := [
  co 20 (.move (tm 0)),
  co 21 (.call ⟨.builtin .len, #[(tm 20)], #[9]⟩),
  co 22 (.binOp .leq 3 (tm 21) (.const (.int .i64 200)) 3),
  co 2 (.assign (tm 22))]
/-- wireglass/wireglassref02.IsText -/
def c56 : Cc := (.seq (.reg r56_0) (.seq (.seq (.reg r56_1) (.block 0 (.loop l56_6))) (.seq (.reg r56_7) .ret)))
def r57_0 : List Co := [
  coi 2 (.box 39 (tm 0)),
  co 4 (.assign (.const (.bool false)))]
def r57_1 : List Co := [
  co 5 (.fieldAddr 39 (tm 2) 0),
  co 6 (.load 3 (tm 5)),
  co 7 (.binOp .lss 3 (tm 6) (.const (.int .i64 0)) 3),
  co 8 (.move (tm 7)),
  cog 9 (.fieldAddr 39 (tm 2) 0) 8 false,
  cog 10 (.load 3 (tm 9)) 8 false,
  cog 11 (.binOp .gtr 3 (tm 10) (.const (.int .i64 1000000000000000)) 3) 8 false,
  co 12 (.pick (tm 8) (.const (.bool true)) (tm 11)),
  co 13 (.move (tm 12)),
  cog 14 (.fieldAddr 39 (tm 2) 4) 13 false,
  cog 15 (.load 9 (tm 14)) 13 false,
  cog 16 (.call ⟨.value (.func 56), #[(tm 15)], #[9]⟩) 13 false,
  cog 17 (.unOp .not 4 (tm 16)) 13 false,
  co 18 (.pick (tm 13) (.const (.bool true)) (tm 17)),
  co 19 (.move (tm 18)),
  cog 20 (.fieldAddr 39 (tm 2) 3) 19 false,
  cog 21 (.load 34 (tm 20)) 19 false,
  cog 22 (.call ⟨.builtin .len, #[(tm 21)], #[34]⟩) 19 false,
  cog 23 (.binOp .gtr 3 (tm 22) (.const (.int .i64 400)) 3) 19 false,
  co 24 (.pick (tm 19) (.const (.bool true)) (tm 23))]
def r57_2 : List Co := [
  co 4 (.assign (.const (.bool false)))]
def r57_3 : List Co := [
  co 25 (.move (tm 1)),
  co 26 (.binOp .eql 3 (tm 25) (.const (.int .i64 0)) 3),
  co 27 (.move (tm 26)),
  cog 28 (.fieldAddr 39 (tm 2) 3) 27 false,
  cog 29 (.load 34 (tm 28)) 27 false,
  cog 30 (.call ⟨.builtin .len, #[(tm 29)], #[34]⟩) 27 false,
  cog 31 (.move (tm 1)) 27 false,
  cog 32 (.binOp .leq 3 (tm 30) (tm 31) 3) 27 false,
  co 33 (.pick (tm 27) (.const (.bool true)) (tm 32)),
  co 34 (.move (tm 33)),
  cog 35 (.fieldAddr 39 (tm 2) 2) 34 true,
  cog 36 (.load 3 (tm 35)) 34 true,
  cog 37 (.fieldAddr 39 (tm 2) 3) 34 true,
  cog 38 (.load 34 (tm 37)) 34 true,
  cog 39 (.call ⟨.builtin .len, #[(tm 38)], #[34]⟩) 34 true,
  cog 40 (.binOp .geq 3 (tm 36) (tm 39) 3) 34 true,
  co 41 (.pick (tm 34) (tm 40) (.const (.bool false))),
  co 42 (.move (tm 41)),
  cog 43 (.fieldAddr 39 (tm 2) 2) 42 true,
  cog 44 (.load 3 (tm 43)) 42 true,
  cog 45 (.binOp .leq 3 (tm 44) (.const (.int .i64 1000000)) 3) 42 true,
  co 46 (.pick (tm 42) (tm 45) (.const (.bool false))),
  co 4 (.assign (tm 46))]
/-- wireglass/wireglassref02.IsPacket -/
def c57 : Cc := (.seq (.reg r57_0) (.seq (.seq (.reg r57_1) (.cond (tm 24) (.seq (.reg r57_2) .ret) .skip)) (.seq (.reg r57_3) .ret)))
def r61_0 : List Co := [
  co 4 (.assign (.const (.int .i64 0)))]
def r61_1 : List Co := [
  co 6 (.move (tm 0)),
  co 7 (.call ⟨.builtin .len, #[(tm 6)], #[34]⟩),
  co 8 (.move (.const (.int .i64 0)))]
def r61_2 : List Co := [
  co 9 (.binOp .lss 3 (tm 8) (tm 7) 3)]
def r61_3 : List Co := [
  co 10 (.move (tm 8)),
  co 5 (.assign (tm 10))]
def r61_4 : List Co := [
  co 11 (.move (tm 1)),
  co 12 (.move (tm 0)),
  co 13 (.move (tm 5)),
  co 14 (.indexAddr 34 (tm 12) (tm 13)),
  co 15 (.load 5 (tm 14)),
  co 16 (.call ⟨.value (tm 11), #[(tm 15)], #[5]⟩)]
def r61_5 : List Co := [
  co 17 (.move (tm 5)),
  co 4 (.assign (tm 17))]
def r61_6 : List Co := [
  co 18 (.binOp .add 3 (tm 8) (.const (.int .i64 1)) 3),
  co 8 (.move (tm 18))]
def l61_7 : Cc := (.seq (.reg r61_2) (.seq (.cond (tm 9) .skip (.exit 0)) (.seq (.block 1 (.seq (.reg r61_3) (.seq (.reg r61_4) (.cond (tm 16) (.seq (.reg r61_5) .ret) .skip)))) (.reg r61_6))))
def r61_8 : List Co := [
  co 4 (.assign (.const (.int .i64 (-1))))]
/-- slices.IndexFunc[[]byte,byte] -/
def c61 : Cc := (.seq (.reg r61_0) (.seq (.seq (.reg r61_1) (.block 0 (.loop l61_7))) (.seq (.reg r61_8) .ret)))
def r81_0 : List Co := [
  coi 3 (.box 77 (tm 0)),
  co 6 (.assign (.const (.slice none 0 0)))]
def r81_1 : List Co := [
  co 9 (.move (tm 2)),
  co 10 (.makeSlice 34 (tm 9) (tm 9)),
  co 7 (.assign (tm 10))]
def r81_2 : List Co := [
  co 11 (.move (tm 7)),
  co 12 (.call ⟨.builtin .len, #[(tm 11)], #[34]⟩),
  co 13 (.move (.const (.int .i64 0)))]
def r81_3 : List Co := [
  co 14 (.binOp .lss 3 (tm 13) (tm 12) 3)]
def r81_4 : List Co := [
  co 15 (.move (tm 13)),
  co 8 (.assign (tm 15))]
def r81_5 : List Co := [
  co 16 (.move (tm 7)),
  co 17 (.move (tm 8)),
  co 18 (.move (tm 1)),
  co 19 (.move (tm 8)),
  co 20 (.binOp .mul 3 (.const (.int .i64 8)) (tm 19) 3),
  co 21 (.binOp .shr 3 (tm 18) (tm 20) 3),
  co 22 (.convert 3 5 (tm 21)),
  co 23 (.indexAddr 34 (tm 16) (tm 17)),
  coz (.store 5 (tm 23) (tm 22))]
def r81_6 : List Co := [
  co 24 (.binOp .add 3 (tm 13) (.const (.int .i64 1)) 3),
  co 13 (.move (tm 24))]
def l81_7 : Cc := (.seq (.reg r81_3) (.seq (.cond (tm 14) .skip (.exit 0)) (.seq (.block 1 (.seq (.reg r81_4) (.reg r81_5))) (.reg r81_6))))
def r81_8 : List Co := [
  co 25 (.move (tm 7)),
  co 6 (.assign (tm 25))]
/-- (wireglass/capt.lowest).put -/
def c81 : Cc := (.seq (.reg r81_0) (.seq (.reg r81_1) (.seq (.seq (.reg r81_2) (.block 0 (.loop l81_7))) (.seq (.reg r81_8) .ret))))
def r83_0 : List Co := [
  coi 3 (.box 78 (tm 0)),
  co 6 (.assign (.const (.slice none 0 0)))]
def r83_1 : List Co := [
  co 8 (.build 77 #[]),
  co 9 (.move (tm 1)),
  co 10 (.move (tm 2)),
  co 11 (.call ⟨.value (.func 81), #[(tm 8), (tm 9), (tm 10)], #[77, 3, 3]⟩),
  co 7 (.assign (tm 11))]
def r83_2 : List Co := [
  co 12 (.move (tm 7)),
  co 13 (.call ⟨.value (.func 84), #[(tm 12)], #[34]⟩)]
def r83_3 : List Co := [
  co 14 (.move (tm 7)),
  co 6 (.assign (tm 14))]
/-- (wireglass/capt.highest).put -/
def c83 : Cc := (.seq (.reg r83_0) (.seq (.reg r83_1) (.seq (.reg r83_2) (.seq (.reg r83_3) .ret))))
def r84_0 : List Co := [
  co 4 (.move (tm 0)),
  co 5 (.call ⟨.builtin .len, #[(tm 4)], #[34]⟩),
  co 6 (.binOp .sub 3 (tm 5) (.const (.int .i64 1)) 3),
  co 2 (.assign (.const (.int .i64 0))),
  co 3 (.assign (tm 6))]
def r84_1 : List Co := [
  co 7 (.move (tm 2)),
  co 8 (.move (tm 3)),
  co 9 (.binOp .lss 3 (tm 7) (tm 8) 3)]
def r84_2 : List Co := [
  co 14 (.move (tm 0)),
  co 15 (.move (tm 2)),
  co 16 (.move (tm 0)),
  co 17 (.move (tm 3)),
  co 18 (.move (tm 0)),
  co 19 (.move (tm 3)),
  co 20 (.indexAddr 34 (tm 18) (tm 19)),
  co 21 (.load 5 (tm 20)),
  co 22 (.move (tm 0)),
  co 23 (.move (tm 2)),
  co 24 (.indexAddr 34 (tm 22) (tm 23)),
  co 25 (.load 5 (tm 24)),
  co 26 (.indexAddr 34 (tm 14) (tm 15)),
  coz (.store 5 (tm 26) (tm 21)),
  co 27 (.indexAddr 34 (tm 16) (tm 17)),
  coz (.store 5 (tm 27) (tm 25))]
def r84_3 : List Co := [
  co 10 (.move (tm 2)),
  co 11 (.binOp .add 3 (tm 10) (.const (.int .i64 1)) 3),
  co 12 (.move (tm 3)),
  co 13 (.binOp .sub 3 (tm 12) (.const (.int .i64 1)) 3),
  co 2 (.assign (tm 11)),
  co 3 (.assign (tm 13))]
def l84_4 : Cc := (.seq (.seq (.reg r84_1) (.cond (tm 9) .skip (.exit 0))) (.seq (.block 1 (.reg r84_2)) (.reg r84_3)))
/-- slices.Reverse[[]byte,byte] -/
def c84 : Cc := (.seq (.reg r84_0) (.block 0 (.loop l84_4)))
@[go_sem] theorem kp3 (v : V) : demK 3 v = v.dem := rfl
def rs3 : List ResultVar := [.tmp 2]
theorem gc3 (H : Hp) (r : V × Hp) : pr.gc 3 H r = gcF H r := gcOne rfl H r
set_option maxRecDepth 100000 in
theorem ex3 : ExP 3 60 c3 rs3 := @fun _ _ _ ha h => call_ex (fn := Try.f3) rfl Try.func3 rfl (by kernel_rfl) rfl (Nat.max_eq_right ha) h
theorem run3 : RunP 3 60 c3 rs3 := @fun _ _ _ ha h => run_of ex3 ha h
@[go_sem] theorem kp5 (v : V) : demK 5 v = v.dem := rfl
def rs5 : List ResultVar := [.tmp 4]
theorem gc5 (H : Hp) (r : V × Hp) : pr.gc 5 H r = gcF H r := gcOne rfl H r
set_option maxRecDepth 100000 in
theorem ex5 : ExP 5 35 c5 rs5 := @fun _ _ _ ha h => call_ex (fn := Try.f5) rfl Try.func5 rfl (by kernel_rfl) rfl (Nat.max_eq_right ha) h
theorem run5 : RunP 5 35 c5 rs5 := @fun _ _ _ ha h => run_of ex5 ha h
@[go_sem] theorem kp6 (v : V) : demK 6 v = v.dem := rfl
def rs6 : List ResultVar := [.tmp 2]
theorem gc6 (H : Hp) (r : V × Hp) : pr.gc 6 H r = gcF H r := gcOne rfl H r
set_option maxRecDepth 100000 in
theorem ex6 : ExP 6 6 c6 rs6 := @fun _ _ _ ha h => call_ex (fn := Try.f6) rfl Try.func6 rfl (by kernel_rfl) rfl (Nat.max_eq_right ha) h
theorem run6 : RunP 6 6 c6 rs6 := @fun _ _ _ ha h => run_of ex6 ha h
@[go_sem] theorem kp8 (v : V) : demK 8 v = v.dem := rfl
def rs8 : List ResultVar := [.cell 2 27, .tmp 3]
theorem gc8 (H : Hp) (r : V × Hp) : pr.gc 8 H r = gcF H r := gcOne rfl H r
set_option maxRecDepth 100000 in
theorem ex8 : ExP 8 49 c8 rs8 := @fun _ _ _ ha h => call_ex (fn := Try.f8) rfl Try.func8 rfl (by kernel_rfl) rfl (Nat.max_eq_right ha) h
theorem run8 : RunP 8 49 c8 rs8 := @fun _ _ _ ha h => run_of ex8 ha h
@[go_sem] theorem kp9 (v : V) : demK 9 v = v.dem := rfl
def rs9 : List ResultVar := [.cell 2 27, .tmp 3]
theorem gc9 (H : Hp) (r : V × Hp) : pr.gc 9 H r = gcF H r := gcOne rfl H r
set_option maxRecDepth 100000 in
theorem ex9 : ExP 9 53 c9 rs9 := @fun _ _ _ ha h => call_ex (fn := Try.f9) rfl Try.func9 rfl (by kernel_rfl) rfl (Nat.max_eq_right ha) h
theorem run9 : RunP 9 53 c9 rs9 := @fun _ _ _ ha h => run_of ex9 ha h
@[go_sem] theorem kp10 (v : V) : demK 10 v = v.dem := rfl
def rs10 : List ResultVar := [.tmp 4]
theorem gc10 (H : Hp) (r : V × Hp) : pr.gc 10 H r = gcF H r := gcOne rfl H r
set_option maxRecDepth 100000 in
theorem ex10 : ExB 10 159 c10 rs10 := @fun _ _ _ ha h => callB_ex (fn := Try.f10) Try.func10 rfl (by kernel_rfl) rfl (Nat.max_eq_right ha) h
theorem run10 : RunB 10 159 c10 rs10 := @fun _ _ _ ha h => runB_of ex10 ha h
@[go_sem] theorem kp11 (v : V) : demK 11 v = v.dem := rfl
def rs11 : List ResultVar := [.tmp 6, .tmp 7]
theorem gc11 (H : Hp) (r : V × Hp) : pr.gc 11 H r = gcF H r := gcOne rfl H r
set_option maxRecDepth 100000 in
theorem ex11 : ExP 11 45 c11 rs11 := @fun _ _ _ ha h => call_ex (fn := Try.f11) rfl Try.func11 rfl (by kernel_rfl) rfl (Nat.max_eq_right ha) h
theorem run11 : RunP 11 45 c11 rs11 := @fun _ _ _ ha h => run_of ex11 ha h
@[go_sem] theorem kp12 (v : V) : demK 12 v = v.dem := rfl
def rs12 : List ResultVar := [.tmp 4]
theorem gc12 (H : Hp) (r : V × Hp) : pr.gc 12 H r = gcF H r := gcOne rfl H r
set_option maxRecDepth 100000 in
theorem ex12 : ExB 12 44 c12 rs12 := @fun _ _ _ ha h => callB_ex (fn := Try.f12) Try.func12 rfl (by kernel_rfl) rfl (Nat.max_eq_right ha) h
theorem run12 : RunB 12 44 c12 rs12 := @fun _ _ _ ha h => runB_of ex12 ha h
@[go_sem] theorem kp13 (v : V) : demK 13 v = v.dem := rfl
def rs13 : List ResultVar := [.cell 2 27]
@[go_sem] theorem gc13 (H : Hp) (r : V × Hp) : pr.gc 13 H r = r := gcZero rfl H r
set_option maxRecDepth 100000 in
theorem ex13 : ExP 13 77 c13 rs13 := @fun _ _ _ ha h => call_ex (fn := Try.f13) rfl Try.func13 rfl (by kernel_rfl) rfl (Nat.max_eq_right ha) h
theorem run13 : RunP 13 77 c13 rs13 := @fun _ _ _ ha h => run_of ex13 ha h
@[go_sem] theorem kp14 (v : V) : demK 14 v = v.dem := rfl
def rs14 : List ResultVar := [.cell 2 27]
@[go_sem] theorem gc14 (H : Hp) (r : V × Hp) : pr.gc 14 H r = r := gcZero rfl H r
set_option maxRecDepth 100000 in
theorem ex14 : ExP 14 84 c14 rs14 := @fun _ _ _ ha h => call_ex (fn := Try.f14) rfl Try.func14 rfl (by kernel_rfl) rfl (Nat.max_eq_right ha) h
theorem run14 : RunP 14 84 c14 rs14 := @fun _ _ _ ha h => run_of ex14 ha h
@[go_sem] theorem kp15 (v : V) : demK 15 v = v.dem := rfl
def rs15 : List ResultVar := [.cell 4 27, .tmp 5]
theorem gc15 (H : Hp) (r : V × Hp) : pr.gc 15 H r = gcF H r := gcOne rfl H r
set_option maxRecDepth 100000 in
theorem ex15 : ExP 15 74 c15 rs15 := @fun _ _ _ ha h => call_ex (fn := Try.f15) rfl Try.func15 rfl (by kernel_rfl) rfl (Nat.max_eq_right ha) h
theorem run15 : RunP 15 74 c15 rs15 := @fun _ _ _ ha h => run_of ex15 ha h
@[go_sem] theorem kp16 (v : V) : demK 16 v = v.dem := rfl
def rs16 : List ResultVar := [.cell 4 27, .tmp 5]
theorem gc16 (H : Hp) (r : V × Hp) : pr.gc 16 H r = gcF H r := gcOne rfl H r
set_option maxRecDepth 100000 in
theorem ex16 : ExP 16 84 c16 rs16 := @fun _ _ _ ha h => call_ex (fn := Try.f16) rfl Try.func16 rfl (by kernel_rfl) rfl (Nat.max_eq_right ha) h
theorem run16 : RunP 16 84 c16 rs16 := @fun _ _ _ ha h => run_of ex16 ha h
@[go_sem] theorem kp17 (v : V) : demK 17 v = v.dem := rfl
def rs17 : List ResultVar := [.tmp 2]
theorem gc17 (H : Hp) (r : V × Hp) : pr.gc 17 H r = gcF H r := gcOne rfl H r
set_option maxRecDepth 100000 in
theorem ex17 : ExP 17 120 c17 rs17 := @fun _ _ _ ha h => call_ex (fn := Try.f17) rfl Try.func17 rfl (by kernel_rfl) rfl (Nat.max_eq_right ha) h
theorem run17 : RunP 17 120 c17 rs17 := @fun _ _ _ ha h => run_of ex17 ha h
@[go_sem] theorem kp18 (v : V) : demK 18 v = v.dem := rfl
def rs18 : List ResultVar := [.tmp 2]
theorem gc18 (H : Hp) (r : V × Hp) : pr.gc 18 H r = gcF H r := gcOne rfl H r
set_option maxRecDepth 100000 in
theorem ex18 : ExB 18 103 c18 rs18 := @fun _ _ _ ha h => callB_ex (fn := Try.f18) Try.func18 rfl (by kernel_rfl) rfl (Nat.max_eq_right ha) h
theorem run18 : RunB 18 103 c18 rs18 := @fun _ _ _ ha h => runB_of ex18 ha h
@[go_sem] theorem kp19 (v : V) : demK 19 v = v.dem := rfl
def rs19 : List ResultVar := [.tmp 2]
theorem gc19 (H : Hp) (r : V × Hp) : pr.gc 19 H r = gcF H r := gcOne rfl H r
set_option maxRecDepth 100000 in
theorem ex19 : ExB 19 28 c19 rs19 := @fun _ _ _ ha h => callB_ex (fn := Try.f19) Try.func19 rfl (by kernel_rfl) rfl (Nat.max_eq_right ha) h
theorem run19 : RunB 19 28 c19 rs19 := @fun _ _ _ ha h => runB_of ex19 ha h
@[go_sem] theorem kp20 (v : V) : demK 20 v = v.dem := rfl
def rs20 : List ResultVar := [.cell 2 39]
theorem gc20 (H : Hp) (r : V × Hp) : pr.gc 20 H r = gcF H r := gcOne rfl H r
set_option maxRecDepth 100000 in
theorem ex20 : ExP 20 8 c20 rs20 := @fun _ _ _ ha h => call_ex (fn := Try.f20) rfl Try.func20 rfl (by kernel_rfl) rfl (Nat.max_eq_right ha) h
theorem run20 : RunP 20 8 c20 rs20 := @fun _ _ _ ha h => run_of ex20 ha h
@[go_sem] theorem kp21 (v : V) : demK 21 v = v.dem := rfl
def rs21 : List ResultVar := [.tmp 4]
theorem gc21 (H : Hp) (r : V × Hp) : pr.gc 21 H r = gcF H r := gcOne rfl H r
set_option maxRecDepth 100000 in
theorem ex21 : ExP 21 10 c21 rs21 := @fun _ _ _ ha h => call_ex (fn := Try.f21) rfl Try.func21 rfl (by kernel_rfl) rfl (Nat.max_eq_right ha) h
theorem run21 : RunP 21 10 c21 rs21 := @fun _ _ _ ha h => run_of ex21 ha h
@[go_sem] theorem kp22 (v : V) : demK 22 v = v.dem := rfl
def rs22 : List ResultVar := [.tmp 4]
theorem gc22 (H : Hp) (r : V × Hp) : pr.gc 22 H r = gcF H r := gcOne rfl H r
set_option maxRecDepth 100000 in
theorem ex22 : ExP 22 38 c22 rs22 := @fun _ _ _ ha h => call_ex (fn := Try.f22) rfl Try.func22 rfl (by kernel_rfl) rfl (Nat.max_eq_right ha) h
theorem run22 : RunP 22 38 c22 rs22 := @fun _ _ _ ha h => run_of ex22 ha h
@[go_sem] theorem kp23 (v : V) : demK 23 v = v.dem := rfl
def rs23 : List ResultVar := [.tmp 2]
theorem gc23 (H : Hp) (r : V × Hp) : pr.gc 23 H r = gcF H r := gcOne rfl H r
set_option maxRecDepth 100000 in
theorem ex23 : ExP 23 8 c23 rs23 := @fun _ _ _ ha h => call_ex (fn := Try.f23) rfl Try.func23 rfl (by kernel_rfl) rfl (Nat.max_eq_right ha) h
theorem run23 : RunP 23 8 c23 rs23 := @fun _ _ _ ha h => run_of ex23 ha h
@[go_sem] theorem kp24 (v : V) : demK 24 v = v.dem := rfl
def rs24 : List ResultVar := []
@[go_sem] theorem gc24 (H : Hp) (r : V × Hp) : pr.gc 24 H r = r := gcZero rfl H r
set_option maxRecDepth 100000 in
theorem ex24 : ExP 24 57 c24 rs24 := @fun _ _ _ ha h => call_ex (fn := Try.f24) rfl Try.func24 rfl (by kernel_rfl) rfl (Nat.max_eq_right ha) h
theorem run24 : RunP 24 57 c24 rs24 := @fun _ _ _ ha h => run_of ex24 ha h
@[go_sem] theorem kp26 (v : V) : demK 26 v = v.dem := rfl
def rs26 : List ResultVar := [.tmp 6]
theorem gc26 (H : Hp) (r : V × Hp) : pr.gc 26 H r = gcF H r := gcOne rfl H r
set_option maxRecDepth 100000 in
theorem ex26 : ExP 26 32 c26 rs26 := @fun _ _ _ ha h => call_ex (fn := Try.f26) rfl Try.func26 rfl (by kernel_rfl) rfl (Nat.max_eq_right ha) h
theorem run26 : RunP 26 32 c26 rs26 := @fun _ _ _ ha h => run_of ex26 ha h
@[go_sem] theorem kp27 (v : V) : demK 27 v = v.dem := rfl
def rs27 : List ResultVar := [.tmp 4]
theorem gc27 (H : Hp) (r : V × Hp) : pr.gc 27 H r = gcF H r := gcOne rfl H r
set_option maxRecDepth 100000 in
theorem ex27 : ExP 27 17 c27 rs27 := @fun _ _ _ ha h => call_ex (fn := Try.f27) rfl Try.func27 rfl (by kernel_rfl) rfl (Nat.max_eq_right ha) h
theorem run27 : RunP 27 17 c27 rs27 := @fun _ _ _ ha h => run_of ex27 ha h
@[go_sem] theorem kp28 (v : V) : demK 28 v = v.dem := rfl
def rs28 : List ResultVar := [.tmp 4]
theorem gc28 (H : Hp) (r : V × Hp) : pr.gc 28 H r = gcF H r := gcOne rfl H r
set_option maxRecDepth 100000 in
theorem ex28 : ExP 28 26 c28 rs28 := @fun _ _ _ ha h => call_ex (fn := Try.f28) rfl Try.func28 rfl (by kernel_rfl) rfl (Nat.max_eq_right ha) h
theorem run28 : RunP 28 26 c28 rs28 := @fun _ _ _ ha h => run_of ex28 ha h
@[go_sem] theorem kp29 (v : V) : demK 29 v = v.dem := rfl
def rs29 : List ResultVar := [.tmp 6]
theorem gc29 (H : Hp) (r : V × Hp) : pr.gc 29 H r = gcF H r := gcOne rfl H r
set_option maxRecDepth 100000 in
theorem ex29 : ExP 29 32 c29 rs29 := @fun _ _ _ ha h => call_ex (fn := Try.f29) rfl Try.func29 rfl (by kernel_rfl) rfl (Nat.max_eq_right ha) h
theorem run29 : RunP 29 32 c29 rs29 := @fun _ _ _ ha h => run_of ex29 ha h
@[go_sem] theorem kp30 (v : V) : demK 30 v = v.dem := rfl
def rs30 : List ResultVar := [.tmp 4]
theorem gc30 (H : Hp) (r : V × Hp) : pr.gc 30 H r = gcF H r := gcOne rfl H r
set_option maxRecDepth 100000 in
theorem ex30 : ExP 30 17 c30 rs30 := @fun _ _ _ ha h => call_ex (fn := Try.f30) rfl Try.func30 rfl (by kernel_rfl) rfl (Nat.max_eq_right ha) h
theorem run30 : RunP 30 17 c30 rs30 := @fun _ _ _ ha h => run_of ex30 ha h
@[go_sem] theorem kp31 (v : V) : demK 31 v = v.dem := rfl
def rs31 : List ResultVar := [.tmp 6]
theorem gc31 (H : Hp) (r : V × Hp) : pr.gc 31 H r = gcF H r := gcOne rfl H r
set_option maxRecDepth 100000 in
theorem ex31 : ExP 31 32 c31 rs31 := @fun _ _ _ ha h => call_ex (fn := Try.f31) rfl Try.func31 rfl (by kernel_rfl) rfl (Nat.max_eq_right ha) h
theorem run31 : RunP 31 32 c31 rs31 := @fun _ _ _ ha h => run_of ex31 ha h
@[go_sem] theorem kp32 (v : V) : demK 32 v = v.dem := rfl
def rs32 : List ResultVar := [.tmp 4]
theorem gc32 (H : Hp) (r : V × Hp) : pr.gc 32 H r = gcF H r := gcOne rfl H r
set_option maxRecDepth 100000 in
theorem ex32 : ExP 32 38 c32 rs32 := @fun _ _ _ ha h => call_ex (fn := Try.f32) rfl Try.func32 rfl (by kernel_rfl) rfl (Nat.max_eq_right ha) h
theorem run32 : RunP 32 38 c32 rs32 := @fun _ _ _ ha h => run_of ex32 ha h
@[go_sem] theorem kp33 (v : V) : demK 33 v = v.dem := rfl
def rs33 : List ResultVar := [.tmp 4]
theorem gc33 (H : Hp) (r : V × Hp) : pr.gc 33 H r = gcF H r := gcOne rfl H r
set_option maxRecDepth 100000 in
theorem ex33 : ExP 33 26 c33 rs33 := @fun _ _ _ ha h => call_ex (fn := Try.f33) rfl Try.func33 rfl (by kernel_rfl) rfl (Nat.max_eq_right ha) h
theorem run33 : RunP 33 26 c33 rs33 := @fun _ _ _ ha h => run_of ex33 ha h
@[go_sem] theorem kp34 (v : V) : demK 34 v = v.dem := rfl
def rs34 : List ResultVar := [.tmp 2]
@[go_sem] theorem gc34 (H : Hp) (r : V × Hp) : pr.gc 34 H r = r := gcZero rfl H r
set_option maxRecDepth 100000 in
theorem ex34 : ExP 34 8 c34 rs34 := @fun _ _ _ ha h => call_ex (fn := Try.f34) rfl Try.func34 rfl (by kernel_rfl) rfl (Nat.max_eq_right ha) h
theorem run34 : RunP 34 8 c34 rs34 := @fun _ _ _ ha h => run_of ex34 ha h
@[go_sem] theorem kp35 (v : V) : demK 35 v = v.dem := rfl
def rs35 : List ResultVar := [.tmp 2]
@[go_sem] theorem gc35 (H : Hp) (r : V × Hp) : pr.gc 35 H r = r := gcZero rfl H r
set_option maxRecDepth 100000 in
theorem ex35 : ExP 35 8 c35 rs35 := @fun _ _ _ ha h => call_ex (fn := Try.f35) rfl Try.func35 rfl (by kernel_rfl) rfl (Nat.max_eq_right ha) h
theorem run35 : RunP 35 8 c35 rs35 := @fun _ _ _ ha h => run_of ex35 ha h
@[go_sem] theorem kp36 (v : V) : demK 36 v = v.dem := rfl
def rs36 : List ResultVar := [.tmp 2]
theorem gc36 (H : Hp) (r : V × Hp) : pr.gc 36 H r = gcF H r := gcOne rfl H r
set_option maxRecDepth 100000 in
theorem ex36 : ExP 36 8 c36 rs36 := @fun _ _ _ ha h => call_ex (fn := Try.f36) rfl Try.func36 rfl (by kernel_rfl) rfl (Nat.max_eq_right ha) h
theorem run36 : RunP 36 8 c36 rs36 := @fun _ _ _ ha h => run_of ex36 ha h
@[go_sem] theorem kp37 (v : V) : demK 37 v = v.dem := rfl
def rs37 : List ResultVar := [.tmp 2]
@[go_sem] theorem gc37 (H : Hp) (r : V × Hp) : pr.gc 37 H r = r := gcZero rfl H r
set_option maxRecDepth 100000 in
theorem ex37 : ExP 37 8 c37 rs37 := @fun _ _ _ ha h => call_ex (fn := Try.f37) rfl Try.func37 rfl (by kernel_rfl) rfl (Nat.max_eq_right ha) h
theorem run37 : RunP 37 8 c37 rs37 := @fun _ _ _ ha h => run_of ex37 ha h
@[go_sem] theorem kp38 (v : V) : demK 38 v = v.dem := rfl
def rs38 : List ResultVar := [.tmp 2]
@[go_sem] theorem gc38 (H : Hp) (r : V × Hp) : pr.gc 38 H r = r := gcZero rfl H r
set_option maxRecDepth 100000 in
theorem ex38 : ExP 38 8 c38 rs38 := @fun _ _ _ ha h => call_ex (fn := Try.f38) rfl Try.func38 rfl (by kernel_rfl) rfl (Nat.max_eq_right ha) h
theorem run38 : RunP 38 8 c38 rs38 := @fun _ _ _ ha h => run_of ex38 ha h
@[go_sem] theorem kp39 (v : V) : demK 39 v = v.dem := rfl
def rs39 : List ResultVar := [.tmp 2]
theorem gc39 (H : Hp) (r : V × Hp) : pr.gc 39 H r = gcF H r := gcOne rfl H r
set_option maxRecDepth 100000 in
theorem ex39 : ExP 39 12 c39 rs39 := @fun _ _ _ ha h => call_ex (fn := Try.f39) rfl Try.func39 rfl (by kernel_rfl) rfl (Nat.max_eq_right ha) h
theorem run39 : RunP 39 12 c39 rs39 := @fun _ _ _ ha h => run_of ex39 ha h
@[go_sem] theorem kp40 (v : V) : demK 40 v = v.dem := rfl
def rs40 : List ResultVar := [.tmp 2]
theorem gc40 (H : Hp) (r : V × Hp) : pr.gc 40 H r = gcF H r := gcOne rfl H r
set_option maxRecDepth 100000 in
theorem ex40 : ExP 40 26 c40 rs40 := @fun _ _ _ ha h => call_ex (fn := Try.f40) rfl Try.func40 rfl (by kernel_rfl) rfl (Nat.max_eq_right ha) h
theorem run40 : RunP 40 26 c40 rs40 := @fun _ _ _ ha h => run_of ex40 ha h
@[go_sem] theorem kp41 (v : V) : demK 41 v = v.dem := rfl
def rs41 : List ResultVar := [.tmp 2]
theorem gc41 (H : Hp) (r : V × Hp) : pr.gc 41 H r = gcF H r := gcOne rfl H r
set_option maxRecDepth 100000 in
theorem ex41 : ExP 41 18 c41 rs41 := @fun _ _ _ ha h => call_ex (fn := Try.f41) rfl Try.func41 rfl (by kernel_rfl) rfl (Nat.max_eq_right ha) h
theorem run41 : RunP 41 18 c41 rs41 := @fun _ _ _ ha h => run_of ex41 ha h
@[go_sem] theorem kp42 (v : V) : demK 42 v = v.dem := rfl
def rs42 : List ResultVar := [.tmp 2]
theorem gc42 (H : Hp) (r : V × Hp) : pr.gc 42 H r = gcF H r := gcOne rfl H r
set_option maxRecDepth 100000 in
theorem ex42 : ExP 42 23 c42 rs42 := @fun _ _ _ ha h => call_ex (fn := Try.f42) rfl Try.func42 rfl (by kernel_rfl) rfl (Nat.max_eq_right ha) h
theorem run42 : RunP 42 23 c42 rs42 := @fun _ _ _ ha h => run_of ex42 ha h
@[go_sem] theorem kp43 (v : V) : demK 43 v = v.dem := rfl
def rs43 : List ResultVar := [.tmp 4]
theorem gc43 (H : Hp) (r : V × Hp) : pr.gc 43 H r = gcF H r := gcOne rfl H r
set_option maxRecDepth 100000 in
theorem ex43 : ExP 43 66 c43 rs43 := @fun _ _ _ ha h => call_ex (fn := Try.f43) rfl Try.func43 rfl (by kernel_rfl) rfl (Nat.max_eq_right ha) h
theorem run43 : RunP 43 66 c43 rs43 := @fun _ _ _ ha h => run_of ex43 ha h
@[go_sem] theorem kp44 (v : V) : demK 44 v = v.dem := rfl
def rs44 : List ResultVar := [.tmp 2]
theorem gc44 (H : Hp) (r : V × Hp) : pr.gc 44 H r = gcF H r := gcOne rfl H r
set_option maxRecDepth 100000 in
theorem ex44 : ExP 44 153 c44 rs44 := @fun _ _ _ ha h => call_ex (fn := Try.f44) rfl Try.func44 rfl (by kernel_rfl) rfl (Nat.max_eq_right ha) h
theorem run44 : RunP 44 153 c44 rs44 := @fun _ _ _ ha h => run_of ex44 ha h
@[go_sem] theorem kp45 (v : V) : demK 45 v = v.dem := rfl
def rs45 : List ResultVar := []
@[go_sem] theorem gc45 (H : Hp) (r : V × Hp) : pr.gc 45 H r = r := gcZero rfl H r
set_option maxRecDepth 100000 in
theorem ex45 : ExP 45 30 c45 rs45 := @fun _ _ _ ha h => call_ex (fn := Try.f45) rfl Try.func45 rfl (by kernel_rfl) rfl (Nat.max_eq_right ha) h
theorem run45 : RunP 45 30 c45 rs45 := @fun _ _ _ ha h => run_of ex45 ha h
@[go_sem] theorem kp54 (v : V) : demK 54 v = v.dem := rfl
def rs54 : List ResultVar := [.tmp 4]
theorem gc54 (H : Hp) (r : V × Hp) : pr.gc 54 H r = gcF H r := gcOne rfl H r
set_option maxRecDepth 100000 in
theorem ex54 : ExP 54 9 c54 rs54 := @fun _ _ _ ha h => call_ex (fn := Try.f54) rfl Try.func54 rfl (by kernel_rfl) rfl (Nat.max_eq_right ha) h
theorem run54 : RunP 54 9 c54 rs54 := @fun _ _ _ ha h => run_of ex54 ha h
@[go_sem] theorem kp55 (v : V) : demK 55 v = v.dem := rfl
def rs55 : List ResultVar := [.tmp 2]
theorem gc55 (H : Hp) (r : V × Hp) : pr.gc 55 H r = gcF H r := gcOne rfl H r
set_option maxRecDepth 100000 in
theorem ex55 : ExP 55 9 c55 rs55 := @fun _ _ _ ha h => call_ex (fn := Try.f55) rfl Try.func55 rfl (by kernel_rfl) rfl (Nat.max_eq_right ha) h
theorem run55 : RunP 55 9 c55 rs55 := @fun _ _ _ ha h => run_of ex55 ha h
@[go_sem] theorem kp56 (v : V) : demK 56 v = v.dem := rfl
def rs56 : List ResultVar := [.tmp 2]
theorem gc56 (H : Hp) (r : V × Hp) : pr.gc 56 H r = gcF H r := gcOne rfl H r
set_option maxRecDepth 100000 in
theorem ex56 : ExP 56 23 c56 rs56 := @fun _ _ _ ha h => call_ex (fn := Try.f56) rfl Try.func56 rfl (by kernel_rfl) rfl (Nat.max_eq_right ha) h
theorem run56 : RunP 56 23 c56 rs56 := @fun _ _ _ ha h => run_of ex56 ha h
@[go_sem] theorem kp57 (v : V) : demK 57 v = v.dem := rfl
def rs57 : List ResultVar := [.tmp 4]
theorem gc57 (H : Hp) (r : V × Hp) : pr.gc 57 H r = gcF H r := gcOne rfl H r
set_option maxRecDepth 100000 in
theorem ex57 : ExP 57 47 c57 rs57 := @fun _ _ _ ha h => call_ex (fn := Try.f57) rfl Try.func57 rfl (by kernel_rfl) rfl (Nat.max_eq_right ha) h
theorem run57 : RunP 57 47 c57 rs57 := @fun _ _ _ ha h => run_of ex57 ha h
@[go_sem] theorem kp61 (v : V) : demK 61 v = v.dem := rfl
def rs61 : List ResultVar := [.tmp 4]
theorem gc61 (H : Hp) (r : V × Hp) : pr.gc 61 H r = gcF H r := gcOne rfl H r
set_option maxRecDepth 100000 in
theorem ex61 : ExP 61 19 c61 rs61 := @fun _ _ _ ha h => call_ex (fn := Try.f61) rfl Try.func61 rfl (by kernel_rfl) rfl (Nat.max_eq_right ha) h
theorem run61 : RunP 61 19 c61 rs61 := @fun _ _ _ ha h => run_of ex61 ha h
@[go_sem] theorem kp81 (v : V) : demK 81 v = v.dem := rfl
def rs81 : List ResultVar := [.tmp 6]
@[go_sem] theorem gc81 (H : Hp) (r : V × Hp) : pr.gc 81 H r = r := gcZero rfl H r
set_option maxRecDepth 100000 in
theorem ex81 : ExP 81 26 c81 rs81 := @fun _ _ _ ha h => call_ex (fn := Try.f81) rfl Try.func81 rfl (by kernel_rfl) rfl (Nat.max_eq_right ha) h
theorem run81 : RunP 81 26 c81 rs81 := @fun _ _ _ ha h => run_of ex81 ha h
@[go_sem] theorem kp83 (v : V) : demK 83 v = v.dem := rfl
def rs83 : List ResultVar := [.tmp 6]
theorem gc83 (H : Hp) (r : V × Hp) : pr.gc 83 H r = gcF H r := gcOne rfl H r
set_option maxRecDepth 100000 in
theorem ex83 : ExP 83 15 c83 rs83 := @fun _ _ _ ha h => call_ex (fn := Try.f83) rfl Try.func83 rfl (by kernel_rfl) rfl (Nat.max_eq_right ha) h
theorem run83 : RunP 83 15 c83 rs83 := @fun _ _ _ ha h => run_of ex83 ha h
@[go_sem] theorem kp84 (v : V) : demK 84 v = v.dem := rfl
def rs84 : List ResultVar := []
@[go_sem] theorem gc84 (H : Hp) (r : V × Hp) : pr.gc 84 H r = r := gcZero rfl H r
set_option maxRecDepth 100000 in
theorem ex84 : ExP 84 28 c84 rs84 := @fun _ _ _ ha h => call_ex (fn := Try.f84) rfl Try.func84 rfl (by kernel_rfl) rfl (Nat.max_eq_right ha) h
theorem run84 : RunP 84 28 c84 rs84 := @fun _ _ _ ha h => run_of ex84 ha h
end Go.Proofs.Ytdkeiaeaahpfdaa
/-
  Captures as plain data. No statement of the seat stands here.
-/
namespace Go.Proofs.Ytdkeiaeaahpfdaa
open Go Go.An
set_option maxRecDepth 4000
set_option linter.unusedSimpArgs false
set_option linter.unusedVariables false

@[go_sem] theorem ld_byE {l : List UInt8} {i : Nat} {H : Hp} (h : i < l.length) : loadV Try.prog 5 H (.ipt (flatE byE l) (i * 1)) = some (.int .u8 (byE.at l i).toNat) := ld_cell0 g5 rfl h
@[go_sem] theorem ld_inE {l : List Int} {i : Nat} {H : Hp} (h : i < l.length) : loadV Try.prog 3 H (.ipt (flatE inE l) (i * 1)) = some (.int .i64 (inE.at l i)) := ld_cell0 g3 rfl h
@[go_sem] theorem ls9 {s : List UInt8} {H : Hp} (h : s.length ≤ 2 ^ 62) : lenV Try.prog 9 H (.str s) = some (.int .i64 s.length) := by simp [lenV, u9, h]
structure Pk where
  time : Int
  face : Int
  real : Int
  dataN : Bool
  data : List UInt8
  note : List UInt8
  deriving DecidableEq
def pkE : Enc Pk := ⟨fun p => [.int .i64 p.time, .int .i64 p.face, .int .i64 p.real, slV p.dataN byE p.data, .str p.note], 5, ⟨0, 0, 0, true, [], []⟩, fun _ => rfl, by decide, fun p => by simp only [immL, slV_imm]; rfl⟩
theorem pkE_f (p : Pk) : pkE.f p = [.int .i64 p.time, .int .i64 p.face, .int .i64 p.real, slV p.dataN byE p.data, .str p.note] := rfl
@[go_sem] theorem pkE_w : pkE.w = 5 := rfl
@[go_sem] theorem pkE_l (p : Pk) : (pkE.f p).length = 5 := rfl
@[go_sem] theorem pkE_t (p : Pk) : (pkE.f p).take 5 = pkE.f p := rfl
@[go_sem] theorem pkE_sa (p : Pk) : setAt [.int .i64 0, .int .i64 0, .int .i64 0, .nilslice, .str []] 0 (pkE.f p) = pkE.f p := rfl
@[go_sem] theorem pkE_pa (p : Pk) : partK (some true) (some 5) (pkE.f p) 0 = some (.agg (pkE.f p)) := rfl
@[go_sem] theorem pkE_0 (p : Pk) : (pkE.f p)[0]? = some (.int .i64 p.time) := rfl
@[go_sem] theorem pkE_1 (p : Pk) : (pkE.f p)[1]? = some (.int .i64 p.face) := rfl
@[go_sem] theorem pkE_2 (p : Pk) : (pkE.f p)[2]? = some (.int .i64 p.real) := rfl
@[go_sem] theorem pkE_3 (p : Pk) : (pkE.f p)[3]? = some (slV p.dataN byE p.data) := rfl
@[go_sem] theorem pkE_4 (p : Pk) : (pkE.f p)[4]? = some (.str p.note) := rfl
@[go_sem] theorem ld_pkE {l : List Pk} {i : Nat} {H : Hp} (h : i < l.length) : loadV Try.prog 39 H (.ipt (flatE pkE l) (i * 5)) = some (.agg (pkE.f (pkE.at l i))) := ld_agg g39 z39 rfl h
@[go_sem] theorem ld_pkE_0 {l : List Pk} {i : Nat} {H : Hp} (h : i < l.length) : loadV Try.prog 3 H (.ipt (flatE pkE l) (i * 5)) = some (.int .i64 (pkE.at l i).time) := ld_cell0 g3 rfl h
@[go_sem] theorem ld_pkE_1 {l : List Pk} {i : Nat} {H : Hp} (h : i < l.length) : loadV Try.prog 3 H (.ipt (flatE pkE l) (i * 5 + 1)) = some (.int .i64 (pkE.at l i).face) := ld_cell (j := 1) g3 rfl h (by omega)
@[go_sem] theorem ld_pkE_2 {l : List Pk} {i : Nat} {H : Hp} (h : i < l.length) : loadV Try.prog 3 H (.ipt (flatE pkE l) (i * 5 + 2)) = some (.int .i64 (pkE.at l i).real) := ld_cell (j := 2) g3 rfl h (by omega)
@[go_sem] theorem ld_pkE_3 {l : List Pk} {i : Nat} {H : Hp} (h : i < l.length) : loadV Try.prog 34 H (.ipt (flatE pkE l) (i * 5 + 3)) = some (slV (pkE.at l i).dataN byE (pkE.at l i).data) := ld_cell (j := 3) g34 rfl h (by omega)
@[go_sem] theorem ld_pkE_4 {l : List Pk} {i : Nat} {H : Hp} (h : i < l.length) : loadV Try.prog 9 H (.ipt (flatE pkE l) (i * 5 + 4)) = some (.str (pkE.at l i).note) := ld_cell (j := 4) g9 rfl h (by omega)
def PkOk (p : Pk) : Prop := Inx p.time ∧ Inx p.face ∧ Inx p.real ∧ p.data.length ≤ 140737488355328 ∧ p.note.length ≤ 140737488355328
theorem rd_pkE {m : Nat} {x : List V} (h : RdT Try.prog (m + 3) 39 x) : ∃ p : Pk, x = pkE.f p ∧ PkOk p := by
  obtain ⟨xss, rfl, k0⟩ := rd_parts (m := m + 2) (ts := [3, 3, 3, 34, 9]) (by kernel_rfl) h
  obtain ⟨x0, l0, rfl, h0, k1⟩ := rdTs_cons k0
  obtain ⟨x1, l1, rfl, h1, k2⟩ := rdTs_cons k1
  obtain ⟨x2, l2, rfl, h2, k3⟩ := rdTs_cons k2
  obtain ⟨x3, l3, rfl, h3, k4⟩ := rdTs_cons k3
  obtain ⟨x4, l4, rfl, h4, k5⟩ := rdTs_cons k4
  obtain rfl := rdTs_nil k5
  obtain ⟨a0, rfl, b0⟩ := rd_i64 (m := m + 1) u3 h0
  obtain ⟨a1, rfl, b1⟩ := rd_i64 (m := m + 1) u3 h1
  obtain ⟨a2, rfl, b2⟩ := rd_i64 (m := m + 1) u3 h2
  obtain ⟨c3, a3, rfl, _, b3, _⟩ := rd_bytes (m := m + 0) u34 u5 (by kernel_rfl) h3
  rw [show Try.prog.bytesOf 5 = 1 by kernel_rfl, Nat.mul_one] at b3
  obtain ⟨a4, rfl, b4⟩ := rd_str (m := m + 1) u9 h4
  exact ⟨⟨a0, a1, a2, c3, a3, a4⟩, rfl, ⟨b0, b1, b2, (Nat.le_trans b3 (by decide)), (Nat.le_trans b4 (by decide))⟩⟩
structure Fc where
  name : List UInt8
  link : Int
  snap : Int
  deriving DecidableEq
def fcE : Enc Fc := ⟨fun p => [.str p.name, .int .i64 p.link, .int .i64 p.snap], 3, ⟨[], 0, 0⟩, fun _ => rfl, by decide, fun p => by simp only [immL, slV_imm]; rfl⟩
theorem fcE_f (p : Fc) : fcE.f p = [.str p.name, .int .i64 p.link, .int .i64 p.snap] := rfl
@[go_sem] theorem fcE_w : fcE.w = 3 := rfl
@[go_sem] theorem fcE_l (p : Fc) : (fcE.f p).length = 3 := rfl
@[go_sem] theorem fcE_t (p : Fc) : (fcE.f p).take 3 = fcE.f p := rfl
@[go_sem] theorem fcE_sa (p : Fc) : setAt [.str [], .int .i64 0, .int .i64 0] 0 (fcE.f p) = fcE.f p := rfl
@[go_sem] theorem fcE_pa (p : Fc) : partK (some true) (some 3) (fcE.f p) 0 = some (.agg (fcE.f p)) := rfl
@[go_sem] theorem fcE_0 (p : Fc) : (fcE.f p)[0]? = some (.str p.name) := rfl
@[go_sem] theorem fcE_1 (p : Fc) : (fcE.f p)[1]? = some (.int .i64 p.link) := rfl
@[go_sem] theorem fcE_2 (p : Fc) : (fcE.f p)[2]? = some (.int .i64 p.snap) := rfl
@[go_sem] theorem ld_fcE {l : List Fc} {i : Nat} {H : Hp} (h : i < l.length) : loadV Try.prog 46 H (.ipt (flatE fcE l) (i * 3)) = some (.agg (fcE.f (fcE.at l i))) := ld_agg g46 z46 rfl h
@[go_sem] theorem ld_fcE_0 {l : List Fc} {i : Nat} {H : Hp} (h : i < l.length) : loadV Try.prog 9 H (.ipt (flatE fcE l) (i * 3)) = some (.str (fcE.at l i).name) := ld_cell0 g9 rfl h
@[go_sem] theorem ld_fcE_1 {l : List Fc} {i : Nat} {H : Hp} (h : i < l.length) : loadV Try.prog 3 H (.ipt (flatE fcE l) (i * 3 + 1)) = some (.int .i64 (fcE.at l i).link) := ld_cell (j := 1) g3 rfl h (by omega)
@[go_sem] theorem ld_fcE_2 {l : List Fc} {i : Nat} {H : Hp} (h : i < l.length) : loadV Try.prog 3 H (.ipt (flatE fcE l) (i * 3 + 2)) = some (.int .i64 (fcE.at l i).snap) := ld_cell (j := 2) g3 rfl h (by omega)
def FcOk (p : Fc) : Prop := p.name.length ≤ 140737488355328 ∧ Inx p.link ∧ Inx p.snap
theorem rd_fcE {m : Nat} {x : List V} (h : RdT Try.prog (m + 2) 46 x) : ∃ p : Fc, x = fcE.f p ∧ FcOk p := by
  obtain ⟨xss, rfl, k0⟩ := rd_parts (m := m + 1) (ts := [9, 3, 3]) (by kernel_rfl) h
  obtain ⟨x0, l0, rfl, h0, k1⟩ := rdTs_cons k0
  obtain ⟨x1, l1, rfl, h1, k2⟩ := rdTs_cons k1
  obtain ⟨x2, l2, rfl, h2, k3⟩ := rdTs_cons k2
  obtain rfl := rdTs_nil k3
  obtain ⟨a0, rfl, b0⟩ := rd_str (m := m + 0) u9 h0
  obtain ⟨a1, rfl, b1⟩ := rd_i64 (m := m + 0) u3 h1
  obtain ⟨a2, rfl, b2⟩ := rd_i64 (m := m + 0) u3 h2
  exact ⟨⟨a0, a1, a2⟩, rfl, ⟨(Nat.le_trans b0 (by decide)), b1, b2⟩⟩
structure Nm where
  addrN : Bool
  addr : List UInt8
  text : List UInt8
  deriving DecidableEq
def nmE : Enc Nm := ⟨fun p => [slV p.addrN byE p.addr, .str p.text], 2, ⟨true, [], []⟩, fun _ => rfl, by decide, fun p => by simp only [immL, slV_imm]; rfl⟩
theorem nmE_f (p : Nm) : nmE.f p = [slV p.addrN byE p.addr, .str p.text] := rfl
@[go_sem] theorem nmE_w : nmE.w = 2 := rfl
@[go_sem] theorem nmE_l (p : Nm) : (nmE.f p).length = 2 := rfl
@[go_sem] theorem nmE_t (p : Nm) : (nmE.f p).take 2 = nmE.f p := rfl
@[go_sem] theorem nmE_sa (p : Nm) : setAt [.nilslice, .str []] 0 (nmE.f p) = nmE.f p := rfl
@[go_sem] theorem nmE_pa (p : Nm) : partK (some true) (some 2) (nmE.f p) 0 = some (.agg (nmE.f p)) := rfl
@[go_sem] theorem nmE_0 (p : Nm) : (nmE.f p)[0]? = some (slV p.addrN byE p.addr) := rfl
@[go_sem] theorem nmE_1 (p : Nm) : (nmE.f p)[1]? = some (.str p.text) := rfl
@[go_sem] theorem ld_nmE {l : List Nm} {i : Nat} {H : Hp} (h : i < l.length) : loadV Try.prog 41 H (.ipt (flatE nmE l) (i * 2)) = some (.agg (nmE.f (nmE.at l i))) := ld_agg g41 z41 rfl h
@[go_sem] theorem ld_nmE_0 {l : List Nm} {i : Nat} {H : Hp} (h : i < l.length) : loadV Try.prog 34 H (.ipt (flatE nmE l) (i * 2)) = some (slV (nmE.at l i).addrN byE (nmE.at l i).addr) := ld_cell0 g34 rfl h
@[go_sem] theorem ld_nmE_1 {l : List Nm} {i : Nat} {H : Hp} (h : i < l.length) : loadV Try.prog 9 H (.ipt (flatE nmE l) (i * 2 + 1)) = some (.str (nmE.at l i).text) := ld_cell (j := 1) g9 rfl h (by omega)
def NmOk (p : Nm) : Prop := p.addr.length ≤ 140737488355328 ∧ p.text.length ≤ 140737488355328
theorem rd_nmE {m : Nat} {x : List V} (h : RdT Try.prog (m + 3) 41 x) : ∃ p : Nm, x = nmE.f p ∧ NmOk p := by
  obtain ⟨xss, rfl, k0⟩ := rd_parts (m := m + 2) (ts := [34, 9]) (by kernel_rfl) h
  obtain ⟨x0, l0, rfl, h0, k1⟩ := rdTs_cons k0
  obtain ⟨x1, l1, rfl, h1, k2⟩ := rdTs_cons k1
  obtain rfl := rdTs_nil k2
  obtain ⟨c0, a0, rfl, _, b0, _⟩ := rd_bytes (m := m + 0) u34 u5 (by kernel_rfl) h0
  rw [show Try.prog.bytesOf 5 = 1 by kernel_rfl, Nat.mul_one] at b0
  obtain ⟨a1, rfl, b1⟩ := rd_str (m := m + 1) u9 h1
  exact ⟨⟨c0, a0, a1⟩, rfl, ⟨(Nat.le_trans b0 (by decide)), (Nat.le_trans b1 (by decide))⟩⟩
structure Sc where
  label : List UInt8
  keyN : Bool
  key : List UInt8
  deriving DecidableEq
def scE : Enc Sc := ⟨fun p => [.str p.label, slV p.keyN byE p.key], 2, ⟨[], true, []⟩, fun _ => rfl, by decide, fun p => by simp only [immL, slV_imm]; rfl⟩
theorem scE_f (p : Sc) : scE.f p = [.str p.label, slV p.keyN byE p.key] := rfl
@[go_sem] theorem scE_w : scE.w = 2 := rfl
@[go_sem] theorem scE_l (p : Sc) : (scE.f p).length = 2 := rfl
@[go_sem] theorem scE_t (p : Sc) : (scE.f p).take 2 = scE.f p := rfl
@[go_sem] theorem scE_sa (p : Sc) : setAt [.str [], .nilslice] 0 (scE.f p) = scE.f p := rfl
@[go_sem] theorem scE_pa (p : Sc) : partK (some true) (some 2) (scE.f p) 0 = some (.agg (scE.f p)) := rfl
@[go_sem] theorem scE_0 (p : Sc) : (scE.f p)[0]? = some (.str p.label) := rfl
@[go_sem] theorem scE_1 (p : Sc) : (scE.f p)[1]? = some (slV p.keyN byE p.key) := rfl
@[go_sem] theorem ld_scE {l : List Sc} {i : Nat} {H : Hp} (h : i < l.length) : loadV Try.prog 51 H (.ipt (flatE scE l) (i * 2)) = some (.agg (scE.f (scE.at l i))) := ld_agg g51 z51 rfl h
@[go_sem] theorem ld_scE_0 {l : List Sc} {i : Nat} {H : Hp} (h : i < l.length) : loadV Try.prog 9 H (.ipt (flatE scE l) (i * 2)) = some (.str (scE.at l i).label) := ld_cell0 g9 rfl h
@[go_sem] theorem ld_scE_1 {l : List Sc} {i : Nat} {H : Hp} (h : i < l.length) : loadV Try.prog 34 H (.ipt (flatE scE l) (i * 2 + 1)) = some (slV (scE.at l i).keyN byE (scE.at l i).key) := ld_cell (j := 1) g34 rfl h (by omega)
def ScOk (p : Sc) : Prop := p.label.length ≤ 140737488355328 ∧ p.key.length ≤ 140737488355328
theorem rd_scE {m : Nat} {x : List V} (h : RdT Try.prog (m + 3) 51 x) : ∃ p : Sc, x = scE.f p ∧ ScOk p := by
  obtain ⟨xss, rfl, k0⟩ := rd_parts (m := m + 2) (ts := [9, 34]) (by kernel_rfl) h
  obtain ⟨x0, l0, rfl, h0, k1⟩ := rdTs_cons k0
  obtain ⟨x1, l1, rfl, h1, k2⟩ := rdTs_cons k1
  obtain rfl := rdTs_nil k2
  obtain ⟨a0, rfl, b0⟩ := rd_str (m := m + 1) u9 h0
  obtain ⟨c1, a1, rfl, _, b1, _⟩ := rd_bytes (m := m + 0) u34 u5 (by kernel_rfl) h1
  rw [show Try.prog.bytesOf 5 = 1 by kernel_rfl, Nat.mul_one] at b1
  exact ⟨⟨a0, c1, a1⟩, rfl, ⟨(Nat.le_trans b0 (by decide)), (Nat.le_trans b1 (by decide))⟩⟩
structure Cp where
  note : List UInt8
  facesN : Bool
  faces : List Fc
  namesN : Bool
  names : List Nm
  secretsN : Bool
  secrets : List Sc
  packetsN : Bool
  packets : List Pk
  deriving DecidableEq
def cpE : Enc Cp := ⟨fun p => [.str p.note, slV p.facesN fcE p.faces, slV p.namesN nmE p.names, slV p.secretsN scE p.secrets, slV p.packetsN pkE p.packets], 5, ⟨[], true, [], true, [], true, [], true, []⟩, fun _ => rfl, by decide, fun p => by simp only [immL, slV_imm]; rfl⟩
theorem cpE_f (p : Cp) : cpE.f p = [.str p.note, slV p.facesN fcE p.faces, slV p.namesN nmE p.names, slV p.secretsN scE p.secrets, slV p.packetsN pkE p.packets] := rfl
@[go_sem] theorem cpE_w : cpE.w = 5 := rfl
@[go_sem] theorem cpE_l (p : Cp) : (cpE.f p).length = 5 := rfl
@[go_sem] theorem cpE_t (p : Cp) : (cpE.f p).take 5 = cpE.f p := rfl
@[go_sem] theorem cpE_sa (p : Cp) : setAt [.str [], .nilslice, .nilslice, .nilslice, .nilslice] 0 (cpE.f p) = cpE.f p := rfl
@[go_sem] theorem cpE_pa (p : Cp) : partK (some true) (some 5) (cpE.f p) 0 = some (.agg (cpE.f p)) := rfl
@[go_sem] theorem cpE_0 (p : Cp) : (cpE.f p)[0]? = some (.str p.note) := rfl
@[go_sem] theorem cpE_1 (p : Cp) : (cpE.f p)[1]? = some (slV p.facesN fcE p.faces) := rfl
@[go_sem] theorem cpE_2 (p : Cp) : (cpE.f p)[2]? = some (slV p.namesN nmE p.names) := rfl
@[go_sem] theorem cpE_3 (p : Cp) : (cpE.f p)[3]? = some (slV p.secretsN scE p.secrets) := rfl
@[go_sem] theorem cpE_4 (p : Cp) : (cpE.f p)[4]? = some (slV p.packetsN pkE p.packets) := rfl
@[go_sem] theorem ld_cpE {l : List Cp} {i : Nat} {H : Hp} (h : i < l.length) : loadV Try.prog 27 H (.ipt (flatE cpE l) (i * 5)) = some (.agg (cpE.f (cpE.at l i))) := ld_agg g27 z27 rfl h
@[go_sem] theorem ld_cpE_0 {l : List Cp} {i : Nat} {H : Hp} (h : i < l.length) : loadV Try.prog 9 H (.ipt (flatE cpE l) (i * 5)) = some (.str (cpE.at l i).note) := ld_cell0 g9 rfl h
@[go_sem] theorem ld_cpE_1 {l : List Cp} {i : Nat} {H : Hp} (h : i < l.length) : loadV Try.prog 22 H (.ipt (flatE cpE l) (i * 5 + 1)) = some (slV (cpE.at l i).facesN fcE (cpE.at l i).faces) := ld_cell (j := 1) g22 rfl h (by omega)
@[go_sem] theorem ld_cpE_2 {l : List Cp} {i : Nat} {H : Hp} (h : i < l.length) : loadV Try.prog 23 H (.ipt (flatE cpE l) (i * 5 + 2)) = some (slV (cpE.at l i).namesN nmE (cpE.at l i).names) := ld_cell (j := 2) g23 rfl h (by omega)
@[go_sem] theorem ld_cpE_3 {l : List Cp} {i : Nat} {H : Hp} (h : i < l.length) : loadV Try.prog 24 H (.ipt (flatE cpE l) (i * 5 + 3)) = some (slV (cpE.at l i).secretsN scE (cpE.at l i).secrets) := ld_cell (j := 3) g24 rfl h (by omega)
@[go_sem] theorem ld_cpE_4 {l : List Cp} {i : Nat} {H : Hp} (h : i < l.length) : loadV Try.prog 25 H (.ipt (flatE cpE l) (i * 5 + 4)) = some (slV (cpE.at l i).packetsN pkE (cpE.at l i).packets) := ld_cell (j := 4) g25 rfl h (by omega)
def CpOk (p : Cp) : Prop := p.note.length ≤ 140737488355328 ∧ (∀ x ∈ p.faces, FcOk x) ∧ p.faces.length ≤ 140737488355328 ∧ (∀ x ∈ p.names, NmOk x) ∧ p.names.length ≤ 140737488355328 ∧ (∀ x ∈ p.secrets, ScOk x) ∧ p.secrets.length ≤ 140737488355328 ∧ (∀ x ∈ p.packets, PkOk x) ∧ p.packets.length ≤ 140737488355328
theorem rd_cpE {m : Nat} {x : List V} (h : RdT Try.prog (m + 5) 27 x) : ∃ p : Cp, x = cpE.f p ∧ CpOk p := by
  obtain ⟨xss, rfl, k0⟩ := rd_parts (m := m + 4) (ts := [9, 22, 23, 24, 25]) (by kernel_rfl) h
  obtain ⟨x0, l0, rfl, h0, k1⟩ := rdTs_cons k0
  obtain ⟨x1, l1, rfl, h1, k2⟩ := rdTs_cons k1
  obtain ⟨x2, l2, rfl, h2, k3⟩ := rdTs_cons k2
  obtain ⟨x3, l3, rfl, h3, k4⟩ := rdTs_cons k3
  obtain ⟨x4, l4, rfl, h4, k5⟩ := rdTs_cons k4
  obtain rfl := rdTs_nil k5
  obtain ⟨a0, rfl, b0⟩ := rd_str (m := m + 3) u9 h0
  obtain ⟨c1, a1, rfl, d1, b1, _⟩ := rd_list (m := m + 3) (E := fcE) (Ok := FcOk) u22 (by kernel_rfl) (fun x hx => rd_fcE (m := m + 3 - 2) (by simpa using hx)) h1
  obtain ⟨c2, a2, rfl, d2, b2, _⟩ := rd_list (m := m + 3) (E := nmE) (Ok := NmOk) u23 (by kernel_rfl) (fun x hx => rd_nmE (m := m + 3 - 3) (by simpa using hx)) h2
  obtain ⟨c3, a3, rfl, d3, b3, _⟩ := rd_list (m := m + 3) (E := scE) (Ok := ScOk) u24 (by kernel_rfl) (fun x hx => rd_scE (m := m + 3 - 3) (by simpa using hx)) h3
  obtain ⟨c4, a4, rfl, d4, b4, _⟩ := rd_list (m := m + 3) (E := pkE) (Ok := PkOk) u25 (by kernel_rfl) (fun x hx => rd_pkE (m := m + 3 - 3) (by simpa using hx)) h4
  exact ⟨⟨a0, c1, a1, c2, a2, c3, a3, c4, a4⟩, rfl, ⟨(Nat.le_trans b0 (by decide)), d1, (Nat.le_trans (Nat.le_mul_of_pos_right _ (by decide +kernel : 0 < Try.prog.bytesOf 46)) (Nat.le_trans b1 (by decide))), d2, (Nat.le_trans (Nat.le_mul_of_pos_right _ (by decide +kernel : 0 < Try.prog.bytesOf 41)) (Nat.le_trans b2 (by decide))), d3, (Nat.le_trans (Nat.le_mul_of_pos_right _ (by decide +kernel : 0 < Try.prog.bytesOf 51)) (Nat.le_trans b3 (by decide))), d4, (Nat.le_trans (Nat.le_mul_of_pos_right _ (by decide +kernel : 0 < Try.prog.bytesOf 39)) (Nat.le_trans b4 (by decide)))⟩⟩
theorem arg_cap {m : Nat} {x : V} (h : ArgT Try.prog (m + 5) 27 x) : ∃ c : Cp, x = .agg (cpE.f c) ∧ CpOk c := by
  obtain ⟨xs, rfl, h2⟩ := arg_agg (by kernel_rfl) h
  obtain ⟨c, rfl, hc⟩ := rd_cpE h2
  exact ⟨c, rfl, hc⟩
end Go.Proofs.Ytdkeiaeaahpfdaa
/-
  Whether a capture is right, for the program; walked. No statement of the seat stands here.
-/
namespace Go.Proofs.Ytdkeiaeaahpfdaa
open Go Go.An
set_option maxRecDepth 4000
set_option linter.unusedSimpArgs false
set_option linter.unusedVariables false

theorem ldB {l : List UInt8} {i : Nat} {H : Hp} (h : i < l.length) : loadV Try.prog 5 H (.ipt (flatE byE l) (i * 1)) = some (.int .u8 (byE.at l i).toNat) := ld_cell0 g5 rfl h
theorem ldF {l : List Fc} {i : Nat} {H : Hp} (h : i < l.length) : loadV Try.prog 46 H (.ipt (flatE fcE l) (i * 3)) = some (.agg (fcE.f (fcE.at l i))) := ld_agg g46 z46 rfl h
theorem ldF2 {l : List Fc} {i : Nat} {H : Hp} (h : i < l.length) : loadV Try.prog 3 H (.ipt (flatE fcE l) (i * 3 + 2)) = some (.int .i64 (fcE.at l i).snap) := ld_cell (j := 2) g3 rfl h (by omega)
theorem ldN {l : List Nm} {i : Nat} {H : Hp} (h : i < l.length) : loadV Try.prog 41 H (.ipt (flatE nmE l) (i * 2)) = some (.agg (nmE.f (nmE.at l i))) := ld_agg g41 z41 rfl h
theorem ldS {l : List Sc} {i : Nat} {H : Hp} (h : i < l.length) : loadV Try.prog 51 H (.ipt (flatE scE l) (i * 2)) = some (.agg (scE.f (scE.at l i))) := ld_agg g51 z51 rfl h
theorem ldP {l : List Pk} {i : Nat} {H : Hp} (h : i < l.length) : loadV Try.prog 39 H (.ipt (flatE pkE l) (i * 5)) = some (.agg (pkE.f (pkE.at l i))) := ld_agg g39 z39 rfl h
theorem ldR {H : Hp} {id g off : Nat} {t : TypeId} : loadV Try.prog t H (.ptr id g off) = (getRow H id g).bind fun r => partV Try.prog t r.1 off := loadV_ptr t id g off

theorem fn61L {b : Bool} {l : List UInt8} {H : Hp} (hlen : l.length < 2 ^ 62) (p : UInt8 → Bool) (f : Nat) (ca cb : List V) (hk : ∀ v, demK f v = v.dem) (hf : ∀ x ∈ l, callL Try.prog pr f (ca ++ [.int .u8 x.toNat] ++ cb) H = some (.bool (p x), H)) : callL Try.prog pr 61 [slV b byE l, .fn f ca cb] H = some (.int .i64 (findI p l 0), H) := by
  have hfy := ne_demK hk
  refine run61 (Nat.le_of_ble_eq_true rfl) ?_
  simp (disch := first | rfl | omega | exact lt_new _ | assumption | decide | (simp [tk_here, tk_app, tk_0, tk_S, gr_here, gr_app, gr_0, gr_S] <;> omega) | fail) only [r61_0, r61_1, r61_2, r61_3, r61_4, r61_5, r61_6, r61_8, c61, rs61, gc61, go_sem, ↓reduceIte, Nat.reduceLT, Nat.reduceEqDiff, Nat.reduceAdd, Nat.reduceMul, Nat.reduceSub, Int.reduceAdd, Int.reduceSub, Nat.reduceLeDiff, Int.reduceLT, Int.reduceLE, Int.reduceEq, Int.reduceNeg, Int.reduceToNat]
  refine Wp_loop (fun m T D H' => ∃ i, m = l.length - i ∧ i ≤ l.length ∧ D = [] ∧ H' = H ∧ get T 0 = slV b byE l ∧ get T 1 = .fn f ca cb ∧ get T 7 = .int .i64 l.length ∧ get T 8 = .int .i64 i ∧ findI p l 0 = findI p (l.drop i) i) ?_ l.length _ _ _ ?_
  · rintro m T D H' ⟨i, rfl, hi, rfl, rfl, h0, h1, h7, h8, hp⟩
    by_cases hlt : i < l.length
    · have hlt' : (i : Int) < l.length := by omega
      have hpi := findI_drop p (byE.at_some hlt) i
      have hfi := hf _ (byE.at_mem hlt)
      have hld := fun H => @ld_cell0 _ Try.prog H _ byE l 5 1 i g5 rfl hlt
      simp (disch := first | rfl | omega | exact lt_new _ | assumption | decide | (simp [tk_here, tk_app, tk_0, tk_S, gr_here, gr_app, gr_0, gr_S] <;> omega) | fail) only [r61_0, r61_1, r61_2, r61_3, r61_4, r61_5, r61_6, l61_7, r61_8, c61, rs61, gc61, go_sem, ↓reduceIte, Nat.reduceLT, Nat.reduceEqDiff, Nat.reduceAdd, Nat.reduceMul, Nat.reduceSub, Int.reduceAdd, Int.reduceSub, Nat.reduceLeDiff, Int.reduceLT, Int.reduceLE, Int.reduceEq, Int.reduceNeg, Int.reduceToNat, h0, h1, h7, h8, hld, hk, hfi, hlt', decide_true]
      refine brQ_bool (fun hy => ?_) (fun hy => ?_)
      · rw [if_pos hy] at hpi
        simp (disch := first | rfl | omega | exact lt_new _ | assumption | decide | (simp [tk_here, tk_app, tk_0, tk_S, gr_here, gr_app, gr_0, gr_S] <;> omega) | fail) only [r61_0, r61_1, r61_2, r61_3, r61_4, r61_5, r61_6, l61_7, r61_8, c61, rs61, gc61, go_sem, ↓reduceIte, Nat.reduceLT, Nat.reduceEqDiff, Nat.reduceAdd, Nat.reduceMul, Nat.reduceSub, Int.reduceAdd, Int.reduceSub, Nat.reduceLeDiff, Int.reduceLT, Int.reduceLE, Int.reduceEq, Int.reduceNeg, Int.reduceToNat, h0, h1, h7, h8]
        refine finQ_same ?_
        simp (disch := first | rfl | omega | exact lt_new _ | assumption | decide | (simp [tk_here, tk_app, tk_0, tk_S, gr_here, gr_app, gr_0, gr_S] <;> omega) | fail) only [go_sem, ↓reduceIte, Nat.reduceLT, Nat.reduceEqDiff, Nat.reduceAdd, Nat.reduceMul, Nat.reduceSub, Int.reduceAdd, Int.reduceSub, Nat.reduceLeDiff, Int.reduceLT, Int.reduceLE, Int.reduceEq, Int.reduceNeg, Int.reduceToNat, hp, hpi]
      · rw [if_neg (by simp [hy])] at hpi
        simp (disch := first | rfl | omega | exact lt_new _ | assumption | decide | (simp [tk_here, tk_app, tk_0, tk_S, gr_here, gr_app, gr_0, gr_S] <;> omega) | fail) only [r61_0, r61_1, r61_2, r61_3, r61_4, r61_5, r61_6, l61_7, r61_8, c61, rs61, gc61, go_sem, ↓reduceIte, Nat.reduceLT, Nat.reduceEqDiff, Nat.reduceAdd, Nat.reduceMul, Nat.reduceSub, Int.reduceAdd, Int.reduceSub, Nat.reduceLeDiff, Int.reduceLT, Int.reduceLE, Int.reduceEq, Int.reduceNeg, Int.reduceToNat, h0, h1, h7, h8]
        exact ⟨_, by omega, i + 1, rfl, hlt, rfl, by rw [hp, hpi]; rfl⟩
    · obtain rfl : i = l.length := by omega
      simp (disch := first | rfl | omega | exact lt_new _ | assumption | decide | (simp [tk_here, tk_app, tk_0, tk_S, gr_here, gr_app, gr_0, gr_S] <;> omega) | fail) only [r61_0, r61_1, r61_2, r61_3, r61_4, r61_5, r61_6, l61_7, r61_8, c61, rs61, gc61, go_sem, ↓reduceIte, Nat.reduceLT, Nat.reduceEqDiff, Nat.reduceAdd, Nat.reduceMul, Nat.reduceSub, Int.reduceAdd, Int.reduceSub, Nat.reduceLeDiff, Int.reduceLT, Int.reduceLE, Int.reduceEq, Int.reduceNeg, Int.reduceToNat, h0, h1, h7, h8, Int.lt_irrefl, decide_false]
      refine finQ_same ?_
      rw [hp, List.drop_length]
      simp (disch := first | rfl | omega | exact lt_new _ | assumption | decide | (simp [tk_here, tk_app, tk_0, tk_S, gr_here, gr_app, gr_0, gr_S] <;> omega) | fail) only [go_sem, ↓reduceIte, Nat.reduceLT, Nat.reduceEqDiff, Nat.reduceAdd, Nat.reduceMul, Nat.reduceSub, Int.reduceAdd, Int.reduceSub, Nat.reduceLeDiff, Int.reduceLT, Int.reduceLE, Int.reduceEq, Int.reduceNeg, Int.reduceToNat, findI]
  · exact ⟨0, by simp [go_sem]⟩

theorem fn54L {b : Bool} {l : List UInt8} {H : Hp} (hlen : l.length < 2 ^ 62) (p : UInt8 → Bool) (f : Nat) (ca cb : List V) (hk : ∀ v, demK f v = v.dem) (hf : ∀ x ∈ l, callL Try.prog pr f (ca ++ [.int .u8 x.toNat] ++ cb) H = some (.bool (p x), H)) : callL Try.prog pr 54 [slV b byE l, .fn f ca cb] H = some (.bool (l.any p), H) := by
  refine run54 (Nat.le_of_ble_eq_true rfl) ?_
  simp (disch := first | rfl | omega | exact lt_new _ | assumption | decide | (simp [tk_here, tk_app, tk_0, tk_S, gr_here, gr_app, gr_0, gr_S] <;> omega) | fail) only [r54_0, r54_1, c54, rs54, gc54, go_sem, ↓reduceIte, Nat.reduceLT, Nat.reduceEqDiff, Nat.reduceAdd, Nat.reduceMul, Nat.reduceSub, Int.reduceAdd, Int.reduceSub, Nat.reduceLeDiff, Int.reduceLT, Int.reduceLE, Int.reduceEq, Int.reduceNeg, Int.reduceToNat, fn61L hlen p f ca cb hk hf]
  refine finQ_same ?_
  simp (disch := first | rfl | omega | exact lt_new _ | assumption | decide | (simp [tk_here, tk_app, tk_0, tk_S, gr_here, gr_app, gr_0, gr_S] <;> omega) | fail) only [go_sem, ↓reduceIte, Nat.reduceLT, Nat.reduceEqDiff, Nat.reduceAdd, Nat.reduceMul, Nat.reduceSub, Int.reduceAdd, Int.reduceSub, Nat.reduceLeDiff, Int.reduceLT, Int.reduceLE, Int.reduceEq, Int.reduceNeg, Int.reduceToNat, findI_any p l 0 (by omega)]

def badC (c : UInt8) : Bool := decide (c.toNat < 32) || decide (126 < c.toNat)
def txB (s : List UInt8) : Bool := decide (s.length ≤ 200) && !s.any badC
def fcB (f : Fc) : Bool := txB f.name && decide (0 ≤ f.link) && decide (f.link ≤ 65535) && decide (0 ≤ f.snap) && decide (f.snap ≤ 400)
def nmB (n : Nm) : Bool := txB n.text && decide (1 ≤ n.addr.length) && decide (n.addr.length ≤ 16)
def scB (s : Sc) : Bool := txB s.label && !decide (s.label = []) && decide (1 ≤ s.key.length) && decide (s.key.length ≤ 200)
def pkB (p : Pk) (snap : Int) : Bool := decide (0 ≤ p.time) && decide (p.time ≤ 1000000000000000) && decide ((p.data.length : Int) ≤ 400) && txB p.note && (decide (snap = 0) || decide ((p.data.length : Int) ≤ snap)) && decide ((p.data.length : Int) ≤ p.real) && decide (p.real ≤ 1000000)
def pfB (p : Pk) (fs : List Fc) : Bool := decide (0 ≤ p.face) && decide (p.face < fs.length) && pkB p (fcE.at fs p.face.toNat).snap
theorem fn55 (c : UInt8) (H : Hp) : callL Try.prog pr 55 [.int .u8 c.toNat] H = some (.bool (badC c), H) := by
  refine run55 (Nat.le_of_ble_eq_true rfl) ?_
  unfold badC
  have e1 : ((c.toNat : Int) < 32) = (c.toNat < 32) := by simp; omega
  have e2 : ((126 : Int) < c.toNat) = (126 < c.toNat) := by simp; omega
  have hy := True.intro
  repeat' (first | simp (disch := first | rfl | omega | exact lt_new _ | assumption | decide | (simp [tk_here, tk_app, tk_0, tk_S, gr_here, gr_app, gr_0, gr_S] <;> omega) | fail) only [r55_0, r55_1, c55, rs55, gc55, e1, e2, go_sem, ↓reduceIte, Nat.reduceLT, Nat.reduceEqDiff, Nat.reduceAdd, Nat.reduceMul, Nat.reduceSub, Int.reduceAdd, Int.reduceSub, Nat.reduceLeDiff, Int.reduceLT, Int.reduceLE, Int.reduceEq, Int.reduceNeg, Int.reduceToNat, hy] | ((first | refine guardB_dec (fun hy => ?_) (fun hy => ?_) | refine guardB_bool (fun hy => ?_) (fun hy => ?_) | refine guardQ_ite (fun hy => ?_) (fun hy => ?_) | refine brQ_dec (fun hy => ?_) (fun hy => ?_) | refine brQ_bool (fun hy => ?_) (fun hy => ?_)) <;> (try simp only [Bool.not_eq_true', Bool.not_eq_false', Bool.and_eq_true, Bool.or_eq_false_iff, decide_eq_true_eq, decide_eq_false_iff_not] at hy)))
  all_goals (try ((first | refine finQ_same ?_ | refine finQ_app ?_ | (rw [List.append_assoc]; refine finQ_app ?_)) <;> simp (disch := first | rfl | omega | exact lt_new _ | assumption | decide | (simp [tk_here, tk_app, tk_0, tk_S, gr_here, gr_app, gr_0, gr_S] <;> omega) | fail) only [go_sem, ↓reduceIte, Nat.reduceLT, Nat.reduceEqDiff, Nat.reduceAdd, Nat.reduceMul, Nat.reduceSub, Int.reduceAdd, Int.reduceSub, Nat.reduceLeDiff, Int.reduceLT, Int.reduceLE, Int.reduceEq, Int.reduceNeg, Int.reduceToNat, List.append_assoc, List.cons_append, List.nil_append, *]))
  all_goals (try first | rfl | (simp [*]; done) | grind)
theorem fn39 (s : List UInt8) (hs : s.length ≤ 2 ^ 62) (H : Hp) : callL Try.prog pr 39 [.str s] H = some (.bool (txB s), H) := by
  refine run39 (Nat.le_of_ble_eq_true rfl) ?_
  unfold txB
  have hl : lenV Try.prog 9 H (.str s) = some (.int .i64 s.length) := by simp [lenV, u9, hs]
  have e1 : ((s.length : Int) ≤ 200) = (s.length ≤ 200) := by simp; omega
  have hcf := fun (b : Bool) (H : Hp) (h : s.length < 2 ^ 62) => fn54L (b := b) (l := s) (H := H) h badC 55 [] [] kp55 (fun x _ => fn55 x H)
  by_cases h : s.length ≤ 200
  · skip
    have hy := True.intro
    repeat' (first | simp (disch := first | rfl | omega | exact lt_new _ | assumption | decide | (simp [tk_here, tk_app, tk_0, tk_S, gr_here, gr_app, gr_0, gr_S] <;> omega) | fail) only [r39_0, r39_1, c39, rs39, gc39, hl, e1, h, hcf, xi9_34, go_sem, ↓reduceIte, Nat.reduceLT, Nat.reduceEqDiff, Nat.reduceAdd, Nat.reduceMul, Nat.reduceSub, Int.reduceAdd, Int.reduceSub, Nat.reduceLeDiff, Int.reduceLT, Int.reduceLE, Int.reduceEq, Int.reduceNeg, Int.reduceToNat, hy] | ((first | refine guardB_dec (fun hy => ?_) (fun hy => ?_) | refine guardB_bool (fun hy => ?_) (fun hy => ?_) | refine guardQ_ite (fun hy => ?_) (fun hy => ?_) | refine brQ_dec (fun hy => ?_) (fun hy => ?_) | refine brQ_bool (fun hy => ?_) (fun hy => ?_)) <;> (try simp only [Bool.not_eq_true', Bool.not_eq_false', Bool.and_eq_true, Bool.or_eq_false_iff, decide_eq_true_eq, decide_eq_false_iff_not] at hy)))
    all_goals (try ((first | refine finQ_same ?_ | refine finQ_app ?_ | (rw [List.append_assoc]; refine finQ_app ?_)) <;> simp (disch := first | rfl | omega | exact lt_new _ | assumption | decide | (simp [tk_here, tk_app, tk_0, tk_S, gr_here, gr_app, gr_0, gr_S] <;> omega) | fail) only [go_sem, ↓reduceIte, Nat.reduceLT, Nat.reduceEqDiff, Nat.reduceAdd, Nat.reduceMul, Nat.reduceSub, Int.reduceAdd, Int.reduceSub, Nat.reduceLeDiff, Int.reduceLT, Int.reduceLE, Int.reduceEq, Int.reduceNeg, Int.reduceToNat, List.append_assoc, List.cons_append, List.nil_append, *]))
    all_goals (try first | rfl | (simp [*]; done) | grind)
  · skip
    have hy := True.intro
    repeat' (first | simp (disch := first | rfl | omega | exact lt_new _ | assumption | decide | (simp [tk_here, tk_app, tk_0, tk_S, gr_here, gr_app, gr_0, gr_S] <;> omega) | fail) only [r39_0, r39_1, c39, rs39, gc39, hl, e1, h, go_sem, ↓reduceIte, Nat.reduceLT, Nat.reduceEqDiff, Nat.reduceAdd, Nat.reduceMul, Nat.reduceSub, Int.reduceAdd, Int.reduceSub, Nat.reduceLeDiff, Int.reduceLT, Int.reduceLE, Int.reduceEq, Int.reduceNeg, Int.reduceToNat, hy] | ((first | refine guardB_dec (fun hy => ?_) (fun hy => ?_) | refine guardB_bool (fun hy => ?_) (fun hy => ?_) | refine guardQ_ite (fun hy => ?_) (fun hy => ?_) | refine brQ_dec (fun hy => ?_) (fun hy => ?_) | refine brQ_bool (fun hy => ?_) (fun hy => ?_)) <;> (try simp only [Bool.not_eq_true', Bool.not_eq_false', Bool.and_eq_true, Bool.or_eq_false_iff, decide_eq_true_eq, decide_eq_false_iff_not] at hy)))
    all_goals (try ((first | refine finQ_same ?_ | refine finQ_app ?_ | (rw [List.append_assoc]; refine finQ_app ?_)) <;> simp (disch := first | rfl | omega | exact lt_new _ | assumption | decide | (simp [tk_here, tk_app, tk_0, tk_S, gr_here, gr_app, gr_0, gr_S] <;> omega) | fail) only [go_sem, ↓reduceIte, Nat.reduceLT, Nat.reduceEqDiff, Nat.reduceAdd, Nat.reduceMul, Nat.reduceSub, Int.reduceAdd, Int.reduceSub, Nat.reduceLeDiff, Int.reduceLT, Int.reduceLE, Int.reduceEq, Int.reduceNeg, Int.reduceToNat, List.append_assoc, List.cons_append, List.nil_append, *]))
    all_goals (try first | rfl | (simp [*]; done) | grind)
theorem fn40 (f : Fc) (hf : FcOk f) (H : Hp) : callL Try.prog pr 40 [.agg (fcE.f f)] H = some (.bool (fcB f), H) := by
  have h106 := fn39 f.name (by have := hf.1; omega)
  refine run40 (Nat.le_of_ble_eq_true rfl) ?_
  unfold fcB
  have hy := True.intro
  repeat' (first | simp (disch := first | rfl | omega | exact lt_new _ | assumption | decide | (simp [tk_here, tk_app, tk_0, tk_S, gr_here, gr_app, gr_0, gr_S] <;> omega) | fail) only [r40_0, r40_1, c40, rs40, gc40, h106, go_sem, ↓reduceIte, Nat.reduceLT, Nat.reduceEqDiff, Nat.reduceAdd, Nat.reduceMul, Nat.reduceSub, Int.reduceAdd, Int.reduceSub, Nat.reduceLeDiff, Int.reduceLT, Int.reduceLE, Int.reduceEq, Int.reduceNeg, Int.reduceToNat, hy] | ((first | refine guardB_dec (fun hy => ?_) (fun hy => ?_) | refine guardB_bool (fun hy => ?_) (fun hy => ?_) | refine guardQ_ite (fun hy => ?_) (fun hy => ?_) | refine brQ_dec (fun hy => ?_) (fun hy => ?_) | refine brQ_bool (fun hy => ?_) (fun hy => ?_)) <;> (try simp only [Bool.not_eq_true', Bool.not_eq_false', Bool.and_eq_true, Bool.or_eq_false_iff, decide_eq_true_eq, decide_eq_false_iff_not] at hy)))
  all_goals (try ((first | refine finQ_same ?_ | refine finQ_app ?_ | (rw [List.append_assoc]; refine finQ_app ?_)) <;> simp (disch := first | rfl | omega | exact lt_new _ | assumption | decide | (simp [tk_here, tk_app, tk_0, tk_S, gr_here, gr_app, gr_0, gr_S] <;> omega) | fail) only [go_sem, ↓reduceIte, Nat.reduceLT, Nat.reduceEqDiff, Nat.reduceAdd, Nat.reduceMul, Nat.reduceSub, Int.reduceAdd, Int.reduceSub, Nat.reduceLeDiff, Int.reduceLT, Int.reduceLE, Int.reduceEq, Int.reduceNeg, Int.reduceToNat, List.append_assoc, List.cons_append, List.nil_append, *]))
  all_goals (try first | rfl | (simp [*]; done) | grind)
theorem fn41 (n : Nm) (hn : NmOk n) (H : Hp) : callL Try.prog pr 41 [.agg (nmE.f n)] H = some (.bool (nmB n), H) := by
  have h106 := fn39 n.text (by have := hn.2; omega)
  have e1 : ((1 : Int) ≤ n.addr.length) = (1 ≤ n.addr.length) := by simp; omega
  have e2 : ((n.addr.length : Int) ≤ 16) = (n.addr.length ≤ 16) := by simp; omega
  refine run41 (Nat.le_of_ble_eq_true rfl) ?_
  unfold nmB
  have hy := True.intro
  repeat' (first | simp (disch := first | rfl | omega | exact lt_new _ | assumption | decide | (simp [tk_here, tk_app, tk_0, tk_S, gr_here, gr_app, gr_0, gr_S] <;> omega) | fail) only [r41_0, r41_1, c41, rs41, gc41, h106, e1, e2, go_sem, ↓reduceIte, Nat.reduceLT, Nat.reduceEqDiff, Nat.reduceAdd, Nat.reduceMul, Nat.reduceSub, Int.reduceAdd, Int.reduceSub, Nat.reduceLeDiff, Int.reduceLT, Int.reduceLE, Int.reduceEq, Int.reduceNeg, Int.reduceToNat, hy] | ((first | refine guardB_dec (fun hy => ?_) (fun hy => ?_) | refine guardB_bool (fun hy => ?_) (fun hy => ?_) | refine guardQ_ite (fun hy => ?_) (fun hy => ?_) | refine brQ_dec (fun hy => ?_) (fun hy => ?_) | refine brQ_bool (fun hy => ?_) (fun hy => ?_)) <;> (try simp only [Bool.not_eq_true', Bool.not_eq_false', Bool.and_eq_true, Bool.or_eq_false_iff, decide_eq_true_eq, decide_eq_false_iff_not] at hy)))
  all_goals (try ((first | refine finQ_same ?_ | refine finQ_app ?_ | (rw [List.append_assoc]; refine finQ_app ?_)) <;> simp (disch := first | rfl | omega | exact lt_new _ | assumption | decide | (simp [tk_here, tk_app, tk_0, tk_S, gr_here, gr_app, gr_0, gr_S] <;> omega) | fail) only [go_sem, ↓reduceIte, Nat.reduceLT, Nat.reduceEqDiff, Nat.reduceAdd, Nat.reduceMul, Nat.reduceSub, Int.reduceAdd, Int.reduceSub, Nat.reduceLeDiff, Int.reduceLT, Int.reduceLE, Int.reduceEq, Int.reduceNeg, Int.reduceToNat, List.append_assoc, List.cons_append, List.nil_append, *]))
  all_goals (try first | rfl | (simp [*]; done) | grind)
theorem fn42 (s : Sc) (hs : ScOk s) (H : Hp) : callL Try.prog pr 42 [.agg (scE.f s)] H = some (.bool (scB s), H) := by
  have h106 := fn39 s.label (by have := hs.1; omega)
  have e1 : ((1 : Int) ≤ s.key.length) = (1 ≤ s.key.length) := by simp; omega
  have e2 : ((s.key.length : Int) ≤ 200) = (s.key.length ≤ 200) := by simp; omega
  refine run42 (Nat.le_of_ble_eq_true rfl) ?_
  unfold scB
  have hy := True.intro
  repeat' (first | simp (disch := first | rfl | omega | exact lt_new _ | assumption | decide | (simp [tk_here, tk_app, tk_0, tk_S, gr_here, gr_app, gr_0, gr_S] <;> omega) | fail) only [r42_0, r42_1, c42, rs42, gc42, h106, e1, e2, go_sem, ↓reduceIte, Nat.reduceLT, Nat.reduceEqDiff, Nat.reduceAdd, Nat.reduceMul, Nat.reduceSub, Int.reduceAdd, Int.reduceSub, Nat.reduceLeDiff, Int.reduceLT, Int.reduceLE, Int.reduceEq, Int.reduceNeg, Int.reduceToNat, hy] | ((first | refine guardB_dec (fun hy => ?_) (fun hy => ?_) | refine guardB_bool (fun hy => ?_) (fun hy => ?_) | refine guardQ_ite (fun hy => ?_) (fun hy => ?_) | refine brQ_dec (fun hy => ?_) (fun hy => ?_) | refine brQ_bool (fun hy => ?_) (fun hy => ?_)) <;> (try simp only [Bool.not_eq_true', Bool.not_eq_false', Bool.and_eq_true, Bool.or_eq_false_iff, decide_eq_true_eq, decide_eq_false_iff_not] at hy)))
  all_goals (try ((first | refine finQ_same ?_ | refine finQ_app ?_ | (rw [List.append_assoc]; refine finQ_app ?_)) <;> simp (disch := first | rfl | omega | exact lt_new _ | assumption | decide | (simp [tk_here, tk_app, tk_0, tk_S, gr_here, gr_app, gr_0, gr_S] <;> omega) | fail) only [go_sem, ↓reduceIte, Nat.reduceLT, Nat.reduceEqDiff, Nat.reduceAdd, Nat.reduceMul, Nat.reduceSub, Int.reduceAdd, Int.reduceSub, Nat.reduceLeDiff, Int.reduceLT, Int.reduceLE, Int.reduceEq, Int.reduceNeg, Int.reduceToNat, List.append_assoc, List.cons_append, List.nil_append, *]))
  all_goals (try first | rfl | (simp [*]; done) | grind)
theorem fn43 (p : Pk) (hp : PkOk p) (b : Bool) (fs : List Fc) (H : Hp) : callL Try.prog pr 43 [.agg (pkE.f p), slV b fcE fs] H = some (.bool (pfB p fs), H) := by
  have h106 := fn39 p.note (by have := hp.2.2.2.2; omega)
  have hl := hp.2.2.2.1
  refine run43 (Nat.le_of_ble_eq_true rfl) ?_
  unfold pfB pkB
  by_cases h1 : 0 ≤ p.face ∧ p.face < fs.length
  · have h1a : ¬ p.face < 0 := by omega
    have h1b : ¬ (fs.length : Int) ≤ p.face := by omega
    have l2 := fun H => ldF2 (H := H) (l := fs) (i := p.face.toNat) (by omega)
    rw [decide_eq_true h1.1, decide_eq_true h1.2]
    have hy := True.intro
    repeat' (first | simp (disch := first | rfl | omega | exact lt_new _ | assumption | decide | (simp [tk_here, tk_app, tk_0, tk_S, gr_here, gr_app, gr_0, gr_S] <;> omega) | fail) only [r43_0, r43_1, r43_2, r43_3, r43_4, c43, rs43, gc43, h106, h1a, h1b, h1, l2, go_sem, ↓reduceIte, Nat.reduceLT, Nat.reduceEqDiff, Nat.reduceAdd, Nat.reduceMul, Nat.reduceSub, Int.reduceAdd, Int.reduceSub, Nat.reduceLeDiff, Int.reduceLT, Int.reduceLE, Int.reduceEq, Int.reduceNeg, Int.reduceToNat, hy] | ((first | refine guardB_dec (fun hy => ?_) (fun hy => ?_) | refine guardB_bool (fun hy => ?_) (fun hy => ?_) | refine guardQ_ite (fun hy => ?_) (fun hy => ?_) | refine brQ_dec (fun hy => ?_) (fun hy => ?_) | refine brQ_bool (fun hy => ?_) (fun hy => ?_)) <;> (try simp only [Bool.not_eq_true', Bool.not_eq_false', Bool.and_eq_true, Bool.or_eq_false_iff, decide_eq_true_eq, decide_eq_false_iff_not] at hy)))
    all_goals (try ((first | refine finQ_same ?_ | refine finQ_app ?_ | (rw [List.append_assoc]; refine finQ_app ?_)) <;> simp (disch := first | rfl | omega | exact lt_new _ | assumption | decide | (simp [tk_here, tk_app, tk_0, tk_S, gr_here, gr_app, gr_0, gr_S] <;> omega) | fail) only [go_sem, ↓reduceIte, Nat.reduceLT, Nat.reduceEqDiff, Nat.reduceAdd, Nat.reduceMul, Nat.reduceSub, Int.reduceAdd, Int.reduceSub, Nat.reduceLeDiff, Int.reduceLT, Int.reduceLE, Int.reduceEq, Int.reduceNeg, Int.reduceToNat, List.append_assoc, List.cons_append, List.nil_append, *]))
    all_goals (try first | rfl | (simp [*]; done) | grind)
  · have h1b : ¬ p.face < 0 → (fs.length : Int) ≤ p.face := by omega
    have hF : (decide (0 ≤ p.face) && decide (p.face < (fs.length : Int))) = false := by
      simp only [Bool.and_eq_false_iff, decide_eq_false_iff_not]; omega
    rw [hF]
    have hy := True.intro
    repeat' (first | simp (disch := first | rfl | omega | exact lt_new _ | assumption | decide | (simp [tk_here, tk_app, tk_0, tk_S, gr_here, gr_app, gr_0, gr_S] <;> omega) | fail) only [r43_0, r43_1, r43_2, r43_3, r43_4, c43, rs43, gc43, h106, h1b, go_sem, ↓reduceIte, Nat.reduceLT, Nat.reduceEqDiff, Nat.reduceAdd, Nat.reduceMul, Nat.reduceSub, Int.reduceAdd, Int.reduceSub, Nat.reduceLeDiff, Int.reduceLT, Int.reduceLE, Int.reduceEq, Int.reduceNeg, Int.reduceToNat, hy] | ((first | refine guardB_dec (fun hy => ?_) (fun hy => ?_) | refine guardB_bool (fun hy => ?_) (fun hy => ?_) | refine guardQ_ite (fun hy => ?_) (fun hy => ?_) | refine brQ_dec (fun hy => ?_) (fun hy => ?_) | refine brQ_bool (fun hy => ?_) (fun hy => ?_)) <;> (try simp only [Bool.not_eq_true', Bool.not_eq_false', Bool.and_eq_true, Bool.or_eq_false_iff, decide_eq_true_eq, decide_eq_false_iff_not] at hy)))
    all_goals (try ((first | refine finQ_same ?_ | refine finQ_app ?_ | (rw [List.append_assoc]; refine finQ_app ?_)) <;> simp (disch := first | rfl | omega | exact lt_new _ | assumption | decide | (simp [tk_here, tk_app, tk_0, tk_S, gr_here, gr_app, gr_0, gr_S] <;> omega) | fail) only [go_sem, ↓reduceIte, Nat.reduceLT, Nat.reduceEqDiff, Nat.reduceAdd, Nat.reduceMul, Nat.reduceSub, Int.reduceAdd, Int.reduceSub, Nat.reduceLeDiff, Int.reduceLT, Int.reduceLE, Int.reduceEq, Int.reduceNeg, Int.reduceToNat, List.append_assoc, List.cons_append, List.nil_append, *]))
    all_goals (try first | rfl | (simp [*]; done) | grind)
end Go.Proofs.Ytdkeiaeaahpfdaa
/-
  Validate of the program, walked. No statement of the seat stands here.
-/
namespace Go.Proofs.Ytdkeiaeaahpfdaa
open Go Go.An
set_option maxRecDepth 4000
set_option linter.unusedSimpArgs false
set_option linter.unusedVariables false

def largeB (c : Cp) : Bool := decide ((4 : Int) < c.faces.length) || decide ((60 : Int) < c.names.length) || decide ((60 : Int) < c.secrets.length) || decide ((100 : Int) < c.packets.length)
def wrongB (c : Cp) : Bool := ((((decide ((c.faces.length : Int) = 0) || !txB c.note) || c.faces.any fun f => !fcB f) || c.names.any fun n => !nmB n) || c.secrets.any fun s => !scB s) || c.packets.any fun p => !pfB p c.faces
def valE (c : Cp) : Int := if largeB c = true then 3 else if wrongB c = true then 1 else 0
set_option maxHeartbeats 8000000 in
theorem fn18 (c : Cp) (hc : CpOk c) (H : Hp) : callL Try.prog pr 18 [.agg (cpE.f c)] H = some (.int .i64 (valE c), H) := by
  obtain ⟨o0, o1, o1l, o2, o2l, o3, o3l, o4, o4l⟩ := hc
  have h106 := fn39 c.note (by omega)
  have h107 := fun i (h : i < c.faces.length) H => fn40 (fcE.at c.faces i) (o1 _ (fcE.at_mem h)) H
  have h108 := fun i (h : i < c.names.length) H => fn41 (nmE.at c.names i) (o2 _ (nmE.at_mem h)) H
  have h109 := fun i (h : i < c.secrets.length) H => fn42 (scE.at c.secrets i) (o3 _ (scE.at_mem h)) H
  have h110 := fun i (h : i < c.packets.length) H => fn43 (pkE.at c.packets i) (o4 _ (pkE.at_mem h)) c.facesN c.faces H
  refine pur_eq rfl rfl (by simp [go_sem]) rfl ?_
  clear H
  intro H
  refine run18 (Nat.le_of_ble_eq_true rfl) ?_
  unfold valE
  by_cases hL : largeB c = true
  · rw [if_pos hL]
    unfold largeB at hL
    simp only [Bool.or_eq_true, decide_eq_true_eq] at hL
    have hy := True.intro
    repeat' (first | simp (disch := first | rfl | omega | exact lt_new _ | assumption | decide | (simp [tk_here, tk_app, tk_0, tk_S, gr_here, gr_app, gr_0, gr_S] <;> omega) | fail) only [r18_0, r18_1, r18_2, c18, rs18, gc18, loadV_ptr, storeV_ptr, List.append_assoc, List.length_append, List.length_cons, List.length_nil, List.set_cons_zero, List.set_cons_succ, tk_here, tk_app, gr_here, gr_app, st_here, st_app, go_sem, ↓reduceIte, Nat.reduceLT, Nat.reduceEqDiff, Nat.reduceAdd, Nat.reduceMul, Nat.reduceSub, Int.reduceAdd, Int.reduceSub, Nat.reduceLeDiff, Int.reduceLT, Int.reduceLE, Int.reduceEq, Int.reduceNeg, Int.reduceToNat, hy] | ((first | refine guardB_dec (fun hy => ?_) (fun hy => ?_) | refine guardB_bool (fun hy => ?_) (fun hy => ?_) | refine guardQ_ite (fun hy => ?_) (fun hy => ?_) | refine brQ_dec (fun hy => ?_) (fun hy => ?_) | refine brQ_bool (fun hy => ?_) (fun hy => ?_)) <;> (try simp only [Bool.not_eq_true', Bool.not_eq_false', Bool.and_eq_true, Bool.or_eq_false_iff, decide_eq_true_eq, decide_eq_false_iff_not] at hy)))
    all_goals first | (refine finQ_app ?_; simp (disch := first | rfl | omega | exact lt_new _ | assumption | decide | (simp [tk_here, tk_app, tk_0, tk_S, gr_here, gr_app, gr_0, gr_S] <;> omega) | fail) only [go_sem, ↓reduceIte, Nat.reduceLT, Nat.reduceEqDiff, Nat.reduceAdd, Nat.reduceMul, Nat.reduceSub, Int.reduceAdd, Int.reduceSub, Nat.reduceLeDiff, Int.reduceLT, Int.reduceLE, Int.reduceEq, Int.reduceNeg, Int.reduceToNat]; done) | omega
  · rw [if_neg hL]
    unfold largeB at hL
    simp only [Bool.or_eq_true, decide_eq_true_eq, not_or] at hL
    obtain ⟨⟨⟨q1, q2⟩, q3⟩, q4⟩ := hL
    have hy := True.intro
    repeat' (first | simp (disch := first | rfl | omega | exact lt_new _ | assumption | decide | (simp [tk_here, tk_app, tk_0, tk_S, gr_here, gr_app, gr_0, gr_S] <;> omega) | fail) only [r18_0, r18_1, r18_3, r18_4, c18, loadV_ptr, storeV_ptr, List.append_assoc, List.length_append, List.length_cons, List.length_nil, List.set_cons_zero, List.set_cons_succ, tk_here, tk_app, gr_here, gr_app, st_here, st_app, q1, q2, q3, q4, h106, go_sem, ↓reduceIte, Nat.reduceLT, Nat.reduceEqDiff, Nat.reduceAdd, Nat.reduceMul, Nat.reduceSub, Int.reduceAdd, Int.reduceSub, Nat.reduceLeDiff, Int.reduceLT, Int.reduceLE, Int.reduceEq, Int.reduceNeg, Int.reduceToNat, hy] | ((first | refine guardB_dec (fun hy => ?_) (fun hy => ?_) | refine guardB_bool (fun hy => ?_) (fun hy => ?_) | refine guardQ_ite (fun hy => ?_) (fun hy => ?_) | refine brQ_dec (fun hy => ?_) (fun hy => ?_) | refine brQ_bool (fun hy => ?_) (fun hy => ?_)) <;> (try simp only [Bool.not_eq_true', Bool.not_eq_false', Bool.and_eq_true, Bool.or_eq_false_iff, decide_eq_true_eq, decide_eq_false_iff_not] at hy)))
    all_goals
      obtain ⟨w0, hw0⟩ : ∃ w0, (decide ((c.faces.length : Int) = 0) || !txB c.note) = w0 := ⟨_, rfl⟩
      refine Wp_loop (fun m T D H' => ∃ i G, m = c.faces.length - i ∧ i ≤ c.faces.length ∧ D = [] ∧ H' = H ++ .row 0 (cpE.f c) true :: G ∧ get T 1 = .ptr H.length 0 0 ∧ get T 45 = slV c.facesN fcE c.faces ∧ get T 46 = .int .i64 c.faces.length ∧ get T 47 = .int .i64 i ∧ get T 3 = .bool (w0 || (c.faces.take i).any fun f => !fcB f)) ?_ c.faces.length _ _ _ ?_
      case refine_2 =>
        refine ⟨0, [], rfl, by omega, rfl, rfl, ?_, ?_, ?_, ?_, ?_⟩
        all_goals simp (disch := first | rfl | omega | exact lt_new _ | assumption | decide | (simp [tk_here, tk_app, tk_0, tk_S, gr_here, gr_app, gr_0, gr_S] <;> omega) | fail) only [go_sem, ↓reduceIte, Nat.reduceLT, Nat.reduceEqDiff, Nat.reduceAdd, Nat.reduceMul, Nat.reduceSub, Int.reduceAdd, Int.reduceSub, Nat.reduceLeDiff, Int.reduceLT, Int.reduceLE, Int.reduceEq, Int.reduceNeg, Int.reduceToNat]
        all_goals first | rfl | (simp; done) | (rw [hy]; done) | (rw [← hw0, decide_eq_true hy] <;> simp; done) | (rw [← hw0, decide_eq_false hy] <;> simp; done) | fail
      rintro m T D H' ⟨i, G, rfl, hi, rfl, rfl, t1, t45, t46, t47, t3⟩
      by_cases hlt : i < c.faces.length
      · have hlt' : (i : Int) < c.faces.length := by omega
        have hw := any_take fcE hlt (fun f => !fcB f) w0
        obtain ⟨w1, hw1⟩ : ∃ w1, (w0 || (c.faces.take i).any fun f => !fcB f) = w1 := ⟨_, rfl⟩
        rw [hw1] at t3 hw
        have ld := fun H => ldF (H := H) hlt
        have hf := h107 i hlt
        have hy := True.intro
        repeat' (first | simp (disch := first | rfl | omega | exact lt_new _ | assumption | decide | (simp [tk_here, tk_app, tk_0, tk_S, gr_here, gr_app, gr_0, gr_S] <;> omega) | fail) only [l18_9, r18_5, r18_6, r18_7, r18_8, loadV_ptr, storeV_ptr, List.append_assoc, List.length_append, List.length_cons, List.length_nil, List.set_cons_zero, List.set_cons_succ, tk_here, tk_app, gr_here, gr_app, st_here, st_app, t1, t45, t46, t47, t3, hlt', ld, hf, go_sem, ↓reduceIte, Nat.reduceLT, Nat.reduceEqDiff, Nat.reduceAdd, Nat.reduceMul, Nat.reduceSub, Int.reduceAdd, Int.reduceSub, Nat.reduceLeDiff, Int.reduceLT, Int.reduceLE, Int.reduceEq, Int.reduceNeg, Int.reduceToNat, hy] | ((first | refine guardB_dec (fun hy => ?_) (fun hy => ?_) | refine guardB_bool (fun hy => ?_) (fun hy => ?_) | refine guardQ_ite (fun hy => ?_) (fun hy => ?_) | refine brQ_dec (fun hy => ?_) (fun hy => ?_) | refine brQ_bool (fun hy => ?_) (fun hy => ?_)) <;> (try simp only [Bool.not_eq_true', Bool.not_eq_false', Bool.and_eq_true, Bool.or_eq_false_iff, decide_eq_true_eq, decide_eq_false_iff_not] at hy)))
        all_goals exact ⟨_, by omega, i + 1, _, rfl, hlt, rfl, rfl, by rw [hw]; simp [hy]⟩
      · obtain rfl : i = c.faces.length := by omega
        rw [List.take_length] at t3
        clear hy
        obtain ⟨v1, hv1⟩ : ∃ v, (w0 || c.faces.any fun f => !fcB f) = v := ⟨_, rfl⟩
        rw [hv1] at t3
        have hy := True.intro
        repeat' (first | simp (disch := first | rfl | omega | exact lt_new _ | assumption | decide | (simp [tk_here, tk_app, tk_0, tk_S, gr_here, gr_app, gr_0, gr_S] <;> omega) | fail) only [l18_9, r18_5, r18_10, loadV_ptr, storeV_ptr, List.append_assoc, List.length_append, List.length_cons, List.length_nil, List.set_cons_zero, List.set_cons_succ, tk_here, tk_app, gr_here, gr_app, st_here, st_app, t1, t45, t46, t47, t3, Int.lt_irrefl, go_sem, ↓reduceIte, Nat.reduceLT, Nat.reduceEqDiff, Nat.reduceAdd, Nat.reduceMul, Nat.reduceSub, Int.reduceAdd, Int.reduceSub, Nat.reduceLeDiff, Int.reduceLT, Int.reduceLE, Int.reduceEq, Int.reduceNeg, Int.reduceToNat, hy] | ((first | refine guardB_dec (fun hy => ?_) (fun hy => ?_) | refine guardB_bool (fun hy => ?_) (fun hy => ?_) | refine guardQ_ite (fun hy => ?_) (fun hy => ?_) | refine brQ_dec (fun hy => ?_) (fun hy => ?_) | refine brQ_bool (fun hy => ?_) (fun hy => ?_)) <;> (try simp only [Bool.not_eq_true', Bool.not_eq_false', Bool.and_eq_true, Bool.or_eq_false_iff, decide_eq_true_eq, decide_eq_false_iff_not] at hy)))
        refine Wp_loop (fun m T D H' => ∃ i G, m = c.names.length - i ∧ i ≤ c.names.length ∧ D = [] ∧ H' = H ++ .row 0 (cpE.f c) true :: G ∧ get T 1 = .ptr H.length 0 0 ∧ get T 59 = slV c.namesN nmE c.names ∧ get T 60 = .int .i64 c.names.length ∧ get T 61 = .int .i64 i ∧ get T 3 = .bool (v1 || (c.names.take i).any fun x => !nmB x)) ?_ c.names.length _ _ _ ?_
        case refine_2 =>
          refine ⟨0, _, rfl, by omega, rfl, rfl, ?_, ?_, ?_, ?_, ?_⟩
          all_goals simp (disch := first | rfl | omega | exact lt_new _ | assumption | decide | (simp [tk_here, tk_app, tk_0, tk_S, gr_here, gr_app, gr_0, gr_S] <;> omega) | fail) only [go_sem, ↓reduceIte, Nat.reduceLT, Nat.reduceEqDiff, Nat.reduceAdd, Nat.reduceMul, Nat.reduceSub, Int.reduceAdd, Int.reduceSub, Nat.reduceLeDiff, Int.reduceLT, Int.reduceLE, Int.reduceEq, Int.reduceNeg, Int.reduceToNat, t1, t3]
          all_goals first | rfl | (simp; done)
        clear t1 t3 t45 t46 t47
        rintro m T D H' ⟨i, G, rfl, hi, rfl, rfl, t1, t59, t60, t61, t3⟩
        by_cases hlt : i < c.names.length
        · have hlt' : (i : Int) < c.names.length := by omega
          have hw := any_take nmE hlt (fun x => !nmB x) v1
          obtain ⟨w1, hw1⟩ : ∃ w1, (v1 || (c.names.take i).any fun x => !nmB x) = w1 := ⟨_, rfl⟩
          rw [hw1] at t3 hw
          have ld := fun H => ldN (H := H) hlt
          have hf := h108 i hlt
          have hy := True.intro
          repeat' (first | simp (disch := first | rfl | omega | exact lt_new _ | assumption | decide | (simp [tk_here, tk_app, tk_0, tk_S, gr_here, gr_app, gr_0, gr_S] <;> omega) | fail) only [l18_15, r18_11, r18_12, r18_13, r18_14, loadV_ptr, storeV_ptr, List.append_assoc, List.length_append, List.length_cons, List.length_nil, List.set_cons_zero, List.set_cons_succ, tk_here, tk_app, gr_here, gr_app, st_here, st_app, t1, t59, t60, t61, t3, hlt', ld, hf, go_sem, ↓reduceIte, Nat.reduceLT, Nat.reduceEqDiff, Nat.reduceAdd, Nat.reduceMul, Nat.reduceSub, Int.reduceAdd, Int.reduceSub, Nat.reduceLeDiff, Int.reduceLT, Int.reduceLE, Int.reduceEq, Int.reduceNeg, Int.reduceToNat, hy] | ((first | refine guardB_dec (fun hy => ?_) (fun hy => ?_) | refine guardB_bool (fun hy => ?_) (fun hy => ?_) | refine guardQ_ite (fun hy => ?_) (fun hy => ?_) | refine brQ_dec (fun hy => ?_) (fun hy => ?_) | refine brQ_bool (fun hy => ?_) (fun hy => ?_)) <;> (try simp only [Bool.not_eq_true', Bool.not_eq_false', Bool.and_eq_true, Bool.or_eq_false_iff, decide_eq_true_eq, decide_eq_false_iff_not] at hy)))
          all_goals exact ⟨_, by omega, i + 1, _, rfl, hlt, rfl, rfl, by rw [hw]; simp [hy]⟩
        · obtain rfl : i = c.names.length := by omega
          rw [List.take_length] at t3
          obtain ⟨v2, hv2⟩ : ∃ v, (v1 || c.names.any fun x => !nmB x) = v := ⟨_, rfl⟩
          rw [hv2] at t3
          have hy := True.intro
          repeat' (first | simp (disch := first | rfl | omega | exact lt_new _ | assumption | decide | (simp [tk_here, tk_app, tk_0, tk_S, gr_here, gr_app, gr_0, gr_S] <;> omega) | fail) only [l18_15, r18_11, r18_16, loadV_ptr, storeV_ptr, List.append_assoc, List.length_append, List.length_cons, List.length_nil, List.set_cons_zero, List.set_cons_succ, tk_here, tk_app, gr_here, gr_app, st_here, st_app, t1, t59, t60, t61, t3, Int.lt_irrefl, go_sem, ↓reduceIte, Nat.reduceLT, Nat.reduceEqDiff, Nat.reduceAdd, Nat.reduceMul, Nat.reduceSub, Int.reduceAdd, Int.reduceSub, Nat.reduceLeDiff, Int.reduceLT, Int.reduceLE, Int.reduceEq, Int.reduceNeg, Int.reduceToNat, hy] | ((first | refine guardB_dec (fun hy => ?_) (fun hy => ?_) | refine guardB_bool (fun hy => ?_) (fun hy => ?_) | refine guardQ_ite (fun hy => ?_) (fun hy => ?_) | refine brQ_dec (fun hy => ?_) (fun hy => ?_) | refine brQ_bool (fun hy => ?_) (fun hy => ?_)) <;> (try simp only [Bool.not_eq_true', Bool.not_eq_false', Bool.and_eq_true, Bool.or_eq_false_iff, decide_eq_true_eq, decide_eq_false_iff_not] at hy)))
          refine Wp_loop (fun m T D H' => ∃ i G, m = c.secrets.length - i ∧ i ≤ c.secrets.length ∧ D = [] ∧ H' = H ++ .row 0 (cpE.f c) true :: G ∧ get T 1 = .ptr H.length 0 0 ∧ get T 73 = slV c.secretsN scE c.secrets ∧ get T 74 = .int .i64 c.secrets.length ∧ get T 75 = .int .i64 i ∧ get T 3 = .bool (v2 || (c.secrets.take i).any fun x => !scB x)) ?_ c.secrets.length _ _ _ ?_
          case refine_2 =>
            refine ⟨0, _, rfl, by omega, rfl, rfl, ?_, ?_, ?_, ?_, ?_⟩
            all_goals simp (disch := first | rfl | omega | exact lt_new _ | assumption | decide | (simp [tk_here, tk_app, tk_0, tk_S, gr_here, gr_app, gr_0, gr_S] <;> omega) | fail) only [go_sem, ↓reduceIte, Nat.reduceLT, Nat.reduceEqDiff, Nat.reduceAdd, Nat.reduceMul, Nat.reduceSub, Int.reduceAdd, Int.reduceSub, Nat.reduceLeDiff, Int.reduceLT, Int.reduceLE, Int.reduceEq, Int.reduceNeg, Int.reduceToNat, t1, t3]
            all_goals first | rfl | (simp; done)
          clear t1 t3 t59 t60 t61
          rintro m T D H' ⟨i, G, rfl, hi, rfl, rfl, t1, t73, t74, t75, t3⟩
          by_cases hlt : i < c.secrets.length
          · have hlt' : (i : Int) < c.secrets.length := by omega
            have hw := any_take scE hlt (fun x => !scB x) v2
            obtain ⟨w1, hw1⟩ : ∃ w1, (v2 || (c.secrets.take i).any fun x => !scB x) = w1 := ⟨_, rfl⟩
            rw [hw1] at t3 hw
            have ld := fun H => ldS (H := H) hlt
            have hf := h109 i hlt
            have hy := True.intro
            repeat' (first | simp (disch := first | rfl | omega | exact lt_new _ | assumption | decide | (simp [tk_here, tk_app, tk_0, tk_S, gr_here, gr_app, gr_0, gr_S] <;> omega) | fail) only [l18_21, r18_17, r18_18, r18_19, r18_20, loadV_ptr, storeV_ptr, List.append_assoc, List.length_append, List.length_cons, List.length_nil, List.set_cons_zero, List.set_cons_succ, tk_here, tk_app, gr_here, gr_app, st_here, st_app, t1, t73, t74, t75, t3, hlt', ld, hf, go_sem, ↓reduceIte, Nat.reduceLT, Nat.reduceEqDiff, Nat.reduceAdd, Nat.reduceMul, Nat.reduceSub, Int.reduceAdd, Int.reduceSub, Nat.reduceLeDiff, Int.reduceLT, Int.reduceLE, Int.reduceEq, Int.reduceNeg, Int.reduceToNat, hy] | ((first | refine guardB_dec (fun hy => ?_) (fun hy => ?_) | refine guardB_bool (fun hy => ?_) (fun hy => ?_) | refine guardQ_ite (fun hy => ?_) (fun hy => ?_) | refine brQ_dec (fun hy => ?_) (fun hy => ?_) | refine brQ_bool (fun hy => ?_) (fun hy => ?_)) <;> (try simp only [Bool.not_eq_true', Bool.not_eq_false', Bool.and_eq_true, Bool.or_eq_false_iff, decide_eq_true_eq, decide_eq_false_iff_not] at hy)))
            all_goals exact ⟨_, by omega, i + 1, _, rfl, hlt, rfl, rfl, by rw [hw]; simp [hy]⟩
          · obtain rfl : i = c.secrets.length := by omega
            rw [List.take_length] at t3
            obtain ⟨v3, hv3⟩ : ∃ v, (v2 || c.secrets.any fun x => !scB x) = v := ⟨_, rfl⟩
            rw [hv3] at t3
            have hy := True.intro
            repeat' (first | simp (disch := first | rfl | omega | exact lt_new _ | assumption | decide | (simp [tk_here, tk_app, tk_0, tk_S, gr_here, gr_app, gr_0, gr_S] <;> omega) | fail) only [l18_21, r18_17, r18_22, loadV_ptr, storeV_ptr, List.append_assoc, List.length_append, List.length_cons, List.length_nil, List.set_cons_zero, List.set_cons_succ, tk_here, tk_app, gr_here, gr_app, st_here, st_app, t1, t73, t74, t75, t3, Int.lt_irrefl, go_sem, ↓reduceIte, Nat.reduceLT, Nat.reduceEqDiff, Nat.reduceAdd, Nat.reduceMul, Nat.reduceSub, Int.reduceAdd, Int.reduceSub, Nat.reduceLeDiff, Int.reduceLT, Int.reduceLE, Int.reduceEq, Int.reduceNeg, Int.reduceToNat, hy] | ((first | refine guardB_dec (fun hy => ?_) (fun hy => ?_) | refine guardB_bool (fun hy => ?_) (fun hy => ?_) | refine guardQ_ite (fun hy => ?_) (fun hy => ?_) | refine brQ_dec (fun hy => ?_) (fun hy => ?_) | refine brQ_bool (fun hy => ?_) (fun hy => ?_)) <;> (try simp only [Bool.not_eq_true', Bool.not_eq_false', Bool.and_eq_true, Bool.or_eq_false_iff, decide_eq_true_eq, decide_eq_false_iff_not] at hy)))
            refine Wp_loop (fun m T D H' => ∃ i G, m = c.packets.length - i ∧ i ≤ c.packets.length ∧ D = [] ∧ H' = H ++ .row 0 (cpE.f c) true :: G ∧ get T 1 = .ptr H.length 0 0 ∧ get T 87 = slV c.packetsN pkE c.packets ∧ get T 88 = .int .i64 c.packets.length ∧ get T 89 = .int .i64 i ∧ get T 3 = .bool (v3 || (c.packets.take i).any fun x => !pfB x c.faces)) ?_ c.packets.length _ _ _ ?_
            case refine_2 =>
              refine ⟨0, _, rfl, by omega, rfl, rfl, ?_, ?_, ?_, ?_, ?_⟩
              all_goals simp (disch := first | rfl | omega | exact lt_new _ | assumption | decide | (simp [tk_here, tk_app, tk_0, tk_S, gr_here, gr_app, gr_0, gr_S] <;> omega) | fail) only [go_sem, ↓reduceIte, Nat.reduceLT, Nat.reduceEqDiff, Nat.reduceAdd, Nat.reduceMul, Nat.reduceSub, Int.reduceAdd, Int.reduceSub, Nat.reduceLeDiff, Int.reduceLT, Int.reduceLE, Int.reduceEq, Int.reduceNeg, Int.reduceToNat, t1, t3]
              all_goals first | rfl | (simp; done)
            clear t1 t3 t73 t74 t75
            rintro m T D H' ⟨i, G, rfl, hi, rfl, rfl, t1, t87, t88, t89, t3⟩
            by_cases hlt : i < c.packets.length
            · have hlt' : (i : Int) < c.packets.length := by omega
              have hw := any_take pkE hlt (fun x => !pfB x c.faces) v3
              obtain ⟨w1, hw1⟩ : ∃ w1, (v3 || (c.packets.take i).any fun x => !pfB x c.faces) = w1 := ⟨_, rfl⟩
              rw [hw1] at t3 hw
              have ld := fun H => ldP (H := H) hlt
              have hf := h110 i hlt
              have hy := True.intro
              repeat' (first | simp (disch := first | rfl | omega | exact lt_new _ | assumption | decide | (simp [tk_here, tk_app, tk_0, tk_S, gr_here, gr_app, gr_0, gr_S] <;> omega) | fail) only [l18_27, r18_23, r18_24, r18_25, r18_26, loadV_ptr, storeV_ptr, List.append_assoc, List.length_append, List.length_cons, List.length_nil, List.set_cons_zero, List.set_cons_succ, tk_here, tk_app, gr_here, gr_app, st_here, st_app, t1, t87, t88, t89, t3, hlt', ld, hf, go_sem, ↓reduceIte, Nat.reduceLT, Nat.reduceEqDiff, Nat.reduceAdd, Nat.reduceMul, Nat.reduceSub, Int.reduceAdd, Int.reduceSub, Nat.reduceLeDiff, Int.reduceLT, Int.reduceLE, Int.reduceEq, Int.reduceNeg, Int.reduceToNat, hy] | ((first | refine guardB_dec (fun hy => ?_) (fun hy => ?_) | refine guardB_bool (fun hy => ?_) (fun hy => ?_) | refine guardQ_ite (fun hy => ?_) (fun hy => ?_) | refine brQ_dec (fun hy => ?_) (fun hy => ?_) | refine brQ_bool (fun hy => ?_) (fun hy => ?_)) <;> (try simp only [Bool.not_eq_true', Bool.not_eq_false', Bool.and_eq_true, Bool.or_eq_false_iff, decide_eq_true_eq, decide_eq_false_iff_not] at hy)))
              all_goals exact ⟨_, by omega, i + 1, _, rfl, hlt, rfl, rfl, by rw [hw]; simp [hy]⟩
            · obtain rfl : i = c.packets.length := by omega
              rw [List.take_length] at t3
              obtain ⟨v4, hv4⟩ : ∃ v, (v3 || c.packets.any fun x => !pfB x c.faces) = v := ⟨_, rfl⟩
              have hwr : wrongB c = v4 := by unfold wrongB; rw [hw0, hv1, hv2, hv3, hv4]
              rw [hv4] at t3
              rw [hwr]
              have hy := True.intro
              repeat' (first | simp (disch := first | rfl | omega | exact lt_new _ | assumption | decide | (simp [tk_here, tk_app, tk_0, tk_S, gr_here, gr_app, gr_0, gr_S] <;> omega) | fail) only [l18_27, r18_23, r18_28, r18_29, r18_30, rs18, gc18, loadV_ptr, storeV_ptr, List.append_assoc, List.length_append, List.length_cons, List.length_nil, List.set_cons_zero, List.set_cons_succ, tk_here, tk_app, gr_here, gr_app, st_here, st_app, t1, t87, t88, t89, t3, Int.lt_irrefl, go_sem, ↓reduceIte, Nat.reduceLT, Nat.reduceEqDiff, Nat.reduceAdd, Nat.reduceMul, Nat.reduceSub, Int.reduceAdd, Int.reduceSub, Nat.reduceLeDiff, Int.reduceLT, Int.reduceLE, Int.reduceEq, Int.reduceNeg, Int.reduceToNat, hy] | ((first | refine guardB_dec (fun hy => ?_) (fun hy => ?_) | refine guardB_bool (fun hy => ?_) (fun hy => ?_) | refine guardQ_ite (fun hy => ?_) (fun hy => ?_) | refine brQ_dec (fun hy => ?_) (fun hy => ?_) | refine brQ_bool (fun hy => ?_) (fun hy => ?_)) <;> (try simp only [Bool.not_eq_true', Bool.not_eq_false', Bool.and_eq_true, Bool.or_eq_false_iff, decide_eq_true_eq, decide_eq_false_iff_not] at hy)))
              all_goals (refine finQ_app ?_; simp (disch := first | rfl | omega | exact lt_new _ | assumption | decide | (simp [tk_here, tk_app, tk_0, tk_S, gr_here, gr_app, gr_0, gr_S] <;> omega) | fail) only [go_sem, ↓reduceIte, Nat.reduceLT, Nat.reduceEqDiff, Nat.reduceAdd, Nat.reduceMul, Nat.reduceSub, Int.reduceAdd, Int.reduceSub, Nat.reduceLeDiff, Int.reduceLT, Int.reduceLE, Int.reduceEq, Int.reduceNeg, Int.reduceToNat, hy])
end Go.Proofs.Ytdkeiaeaahpfdaa
