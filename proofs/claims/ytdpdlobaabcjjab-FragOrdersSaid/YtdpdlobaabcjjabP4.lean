/-
  Texts of this seat, laid together. No statement of the seat stands here.
-/
import Derived.Test.YtdpdlobaabcjjabP3
/-
  What this seat's program gives to the abstract machine: its types, its functions' code in short form (printed by a tool). No statement of the seat stands here.
-/
namespace Go.Proofs.Ytdpdlobaabcjjab
open Go Go.An

@[go_sem] theorem u3 : Try.prog.underlying 3 = some (.int .i64) := by kernel_rfl
@[go_sem] theorem z3 : szOf Try.prog 3 = some 1 := by kernel_rfl
@[go_sem] theorem y3 : bytesOf' Try.prog 3 = some 8 := by kernel_rfl
@[go_sem] theorem g3 : aggT Try.prog 3 = some false := by kernel_rfl
@[go_sem] theorem o3 : zeroV Try.prog 3 = some (.int .i64 0) := by kernel_rfl
@[go_sem] theorem u4 : Try.prog.underlying 4 = some (.bool) := by kernel_rfl
@[go_sem] theorem z4 : szOf Try.prog 4 = some 1 := by kernel_rfl
@[go_sem] theorem y4 : bytesOf' Try.prog 4 = some 1 := by kernel_rfl
@[go_sem] theorem g4 : aggT Try.prog 4 = some false := by kernel_rfl
@[go_sem] theorem o4 : zeroV Try.prog 4 = some (.bool false) := by kernel_rfl
@[go_sem] theorem u5 : Try.prog.underlying 5 = some (.int .u8) := by kernel_rfl
@[go_sem] theorem z5 : szOf Try.prog 5 = some 1 := by kernel_rfl
@[go_sem] theorem y5 : bytesOf' Try.prog 5 = some 1 := by kernel_rfl
@[go_sem] theorem g5 : aggT Try.prog 5 = some false := by kernel_rfl
@[go_sem] theorem o5 : zeroV Try.prog 5 = some (.int .u8 0) := by kernel_rfl
@[go_sem] theorem u9 : Try.prog.underlying 9 = some (.string) := by kernel_rfl
@[go_sem] theorem z9 : szOf Try.prog 9 = some 1 := by kernel_rfl
@[go_sem] theorem y9 : bytesOf' Try.prog 9 = some 16 := by kernel_rfl
@[go_sem] theorem g9 : aggT Try.prog 9 = some false := by kernel_rfl
@[go_sem] theorem o9 : zeroV Try.prog 9 = some (.str []) := by kernel_rfl
@[go_sem] theorem u21 : Try.prog.underlying 21 = some (.int .i32) := by kernel_rfl
@[go_sem] theorem z21 : szOf Try.prog 21 = some 1 := by kernel_rfl
@[go_sem] theorem y21 : bytesOf' Try.prog 21 = some 4 := by kernel_rfl
@[go_sem] theorem g21 : aggT Try.prog 21 = some false := by kernel_rfl
@[go_sem] theorem o21 : zeroV Try.prog 21 = some (.int .i32 0) := by kernel_rfl
@[go_sem] theorem u22 : Try.prog.underlying 22 = some (.slice 37) := by kernel_rfl
@[go_sem] theorem z22 : szOf Try.prog 22 = some 1 := by kernel_rfl
@[go_sem] theorem y22 : bytesOf' Try.prog 22 = some 24 := by kernel_rfl
@[go_sem] theorem g22 : aggT Try.prog 22 = some false := by kernel_rfl
@[go_sem] theorem o22 : zeroV Try.prog 22 = some .nilslice := by kernel_rfl
theorem s22 : sliceT Try.prog 22 5 = true := by kernel_rfl
@[go_sem] theorem i22 {id g off n : Nat} {cp : Cap} {k : IntKind} {j : Int} (hj : 0 ≤ j ∧ j < n) : indexAddrV Try.prog 22 (.slice id g off n 5 cp) (.int k j) = some (.ptr id g (off + j.toNat * 5)) := ia_slice (by kernel_rfl) hj
@[go_sem] theorem n22 {H : Hp} (id g off n : Nat) (cp : Cap) : lenV Try.prog 22 H (.slice id g off n 5 cp) = some (.int .i64 n) := len_slice (sz := 5) (by kernel_rfl) id g off n 5 cp
@[go_sem] theorem is22 {α : Type} {E : Enc α} {l : List α} {b : Bool} {k : IntKind} {j : Int} (hw : E.w = 5) (hj : 0 ≤ j ∧ j < (l.length : Int)) : indexAddrV Try.prog 22 (slV b E l) (.int k j) = some (.ipt (flatE E l) (j.toNat * 5)) := idx_slV s22 hw hj
@[go_sem] theorem ns22 {α : Type} {H : Hp} (b : Bool) (E : Enc α) (l : List α) : lenV Try.prog 22 H (slV b E l) = some (.int .i64 l.length) := len_slV s22 b E l
@[go_sem] theorem nb22 {H : Hp} (n g w : Nat) (xs : List (List V)) : lenV Try.prog 22 H (blV n g w xs) = some (.int .i64 xs.length) := len_blV s22 n g w xs
@[go_sem] theorem lo22 {H : Hp} (x : V) (hi : Option V) : sliceV Try.prog 22 H x none hi = sliceV Try.prog 22 H x (some (.int .i64 0)) hi := lo_slV ⟨_, u22⟩
@[go_sem] theorem hi22 {α : Type} {E : Enc α} {l : List α} {b : Bool} {H : Hp} (lo : Option V) : sliceV Try.prog 22 H (slV b E l) lo none = sliceV Try.prog 22 H (slV b E l) lo (some (.int .i64 l.length)) := hi_slV s22
@[go_sem] theorem ct22 {α : Type} {E : Enc α} {l : List α} {b : Bool} {H : Hp} {k k' : IntKind} {lo hi : Int} (hw : E.w = 5) (h : 0 ≤ lo ∧ lo ≤ hi ∧ hi ≤ (l.length : Int)) : sliceV Try.prog 22 H (slV b E l) (some (.int k lo)) (some (.int k' hi)) = some (slV (b && decide (l.length = 0)) E ((l.drop lo.toNat).take (hi.toNat - lo.toNat))) := cut_slV s22 hw h
@[go_sem] theorem m22 {H : Hp} : lenV Try.prog 22 H .nilslice = some (.int .i64 0) := len_nilslice (sz := 5) (by kernel_rfl)
@[go_sem] theorem u25 : Try.prog.underlying 25 = some (.slice 5) := by kernel_rfl
@[go_sem] theorem z25 : szOf Try.prog 25 = some 1 := by kernel_rfl
@[go_sem] theorem y25 : bytesOf' Try.prog 25 = some 24 := by kernel_rfl
@[go_sem] theorem g25 : aggT Try.prog 25 = some false := by kernel_rfl
@[go_sem] theorem o25 : zeroV Try.prog 25 = some .nilslice := by kernel_rfl
theorem s25 : sliceT Try.prog 25 1 = true := by kernel_rfl
@[go_sem] theorem i25 {id g off n : Nat} {cp : Cap} {k : IntKind} {j : Int} (hj : 0 ≤ j ∧ j < n) : indexAddrV Try.prog 25 (.slice id g off n 1 cp) (.int k j) = some (.ptr id g (off + j.toNat * 1)) := ia_slice (by kernel_rfl) hj
@[go_sem] theorem n25 {H : Hp} (id g off n : Nat) (cp : Cap) : lenV Try.prog 25 H (.slice id g off n 1 cp) = some (.int .i64 n) := len_slice (sz := 1) (by kernel_rfl) id g off n 1 cp
@[go_sem] theorem is25 {α : Type} {E : Enc α} {l : List α} {b : Bool} {k : IntKind} {j : Int} (hw : E.w = 1) (hj : 0 ≤ j ∧ j < (l.length : Int)) : indexAddrV Try.prog 25 (slV b E l) (.int k j) = some (.ipt (flatE E l) (j.toNat * 1)) := idx_slV s25 hw hj
@[go_sem] theorem ns25 {α : Type} {H : Hp} (b : Bool) (E : Enc α) (l : List α) : lenV Try.prog 25 H (slV b E l) = some (.int .i64 l.length) := len_slV s25 b E l
@[go_sem] theorem nb25 {H : Hp} (n g w : Nat) (xs : List (List V)) : lenV Try.prog 25 H (blV n g w xs) = some (.int .i64 xs.length) := len_blV s25 n g w xs
@[go_sem] theorem lo25 {H : Hp} (x : V) (hi : Option V) : sliceV Try.prog 25 H x none hi = sliceV Try.prog 25 H x (some (.int .i64 0)) hi := lo_slV ⟨_, u25⟩
@[go_sem] theorem hi25 {α : Type} {E : Enc α} {l : List α} {b : Bool} {H : Hp} (lo : Option V) : sliceV Try.prog 25 H (slV b E l) lo none = sliceV Try.prog 25 H (slV b E l) lo (some (.int .i64 l.length)) := hi_slV s25
@[go_sem] theorem ct25 {α : Type} {E : Enc α} {l : List α} {b : Bool} {H : Hp} {k k' : IntKind} {lo hi : Int} (hw : E.w = 1) (h : 0 ≤ lo ∧ lo ≤ hi ∧ hi ≤ (l.length : Int)) : sliceV Try.prog 25 H (slV b E l) (some (.int k lo)) (some (.int k' hi)) = some (slV (b && decide (l.length = 0)) E ((l.drop lo.toNat).take (hi.toNat - lo.toNat))) := cut_slV s25 hw h
@[go_sem] theorem m25 {H : Hp} : lenV Try.prog 25 H .nilslice = some (.int .i64 0) := len_nilslice (sz := 1) (by kernel_rfl)
@[go_sem] theorem u26 : Try.prog.underlying 26 = some (.int .i64) := by kernel_rfl
@[go_sem] theorem z26 : szOf Try.prog 26 = some 1 := by kernel_rfl
@[go_sem] theorem y26 : bytesOf' Try.prog 26 = some 8 := by kernel_rfl
@[go_sem] theorem g26 : aggT Try.prog 26 = some false := by kernel_rfl
@[go_sem] theorem o26 : zeroV Try.prog 26 = some (.int .i64 0) := by kernel_rfl
@[go_sem] theorem u30 : Try.prog.underlying 30 = some (.slice 39) := by kernel_rfl
@[go_sem] theorem z30 : szOf Try.prog 30 = some 1 := by kernel_rfl
@[go_sem] theorem y30 : bytesOf' Try.prog 30 = some 24 := by kernel_rfl
@[go_sem] theorem g30 : aggT Try.prog 30 = some false := by kernel_rfl
@[go_sem] theorem o30 : zeroV Try.prog 30 = some .nilslice := by kernel_rfl
theorem s30 : sliceT Try.prog 30 2 = true := by kernel_rfl
@[go_sem] theorem i30 {id g off n : Nat} {cp : Cap} {k : IntKind} {j : Int} (hj : 0 ≤ j ∧ j < n) : indexAddrV Try.prog 30 (.slice id g off n 2 cp) (.int k j) = some (.ptr id g (off + j.toNat * 2)) := ia_slice (by kernel_rfl) hj
@[go_sem] theorem n30 {H : Hp} (id g off n : Nat) (cp : Cap) : lenV Try.prog 30 H (.slice id g off n 2 cp) = some (.int .i64 n) := len_slice (sz := 2) (by kernel_rfl) id g off n 2 cp
@[go_sem] theorem is30 {α : Type} {E : Enc α} {l : List α} {b : Bool} {k : IntKind} {j : Int} (hw : E.w = 2) (hj : 0 ≤ j ∧ j < (l.length : Int)) : indexAddrV Try.prog 30 (slV b E l) (.int k j) = some (.ipt (flatE E l) (j.toNat * 2)) := idx_slV s30 hw hj
@[go_sem] theorem ns30 {α : Type} {H : Hp} (b : Bool) (E : Enc α) (l : List α) : lenV Try.prog 30 H (slV b E l) = some (.int .i64 l.length) := len_slV s30 b E l
@[go_sem] theorem nb30 {H : Hp} (n g w : Nat) (xs : List (List V)) : lenV Try.prog 30 H (blV n g w xs) = some (.int .i64 xs.length) := len_blV s30 n g w xs
@[go_sem] theorem lo30 {H : Hp} (x : V) (hi : Option V) : sliceV Try.prog 30 H x none hi = sliceV Try.prog 30 H x (some (.int .i64 0)) hi := lo_slV ⟨_, u30⟩
@[go_sem] theorem hi30 {α : Type} {E : Enc α} {l : List α} {b : Bool} {H : Hp} (lo : Option V) : sliceV Try.prog 30 H (slV b E l) lo none = sliceV Try.prog 30 H (slV b E l) lo (some (.int .i64 l.length)) := hi_slV s30
@[go_sem] theorem ct30 {α : Type} {E : Enc α} {l : List α} {b : Bool} {H : Hp} {k k' : IntKind} {lo hi : Int} (hw : E.w = 2) (h : 0 ≤ lo ∧ lo ≤ hi ∧ hi ≤ (l.length : Int)) : sliceV Try.prog 30 H (slV b E l) (some (.int k lo)) (some (.int k' hi)) = some (slV (b && decide (l.length = 0)) E ((l.drop lo.toNat).take (hi.toNat - lo.toNat))) := cut_slV s30 hw h
@[go_sem] theorem m30 {H : Hp} : lenV Try.prog 30 H .nilslice = some (.int .i64 0) := len_nilslice (sz := 2) (by kernel_rfl)
@[go_sem] theorem u34 : Try.prog.underlying 34 = some (.slice 3) := by kernel_rfl
@[go_sem] theorem z34 : szOf Try.prog 34 = some 1 := by kernel_rfl
@[go_sem] theorem y34 : bytesOf' Try.prog 34 = some 24 := by kernel_rfl
@[go_sem] theorem g34 : aggT Try.prog 34 = some false := by kernel_rfl
@[go_sem] theorem o34 : zeroV Try.prog 34 = some .nilslice := by kernel_rfl
theorem s34 : sliceT Try.prog 34 1 = true := by kernel_rfl
@[go_sem] theorem i34 {id g off n : Nat} {cp : Cap} {k : IntKind} {j : Int} (hj : 0 ≤ j ∧ j < n) : indexAddrV Try.prog 34 (.slice id g off n 1 cp) (.int k j) = some (.ptr id g (off + j.toNat * 1)) := ia_slice (by kernel_rfl) hj
@[go_sem] theorem n34 {H : Hp} (id g off n : Nat) (cp : Cap) : lenV Try.prog 34 H (.slice id g off n 1 cp) = some (.int .i64 n) := len_slice (sz := 1) (by kernel_rfl) id g off n 1 cp
@[go_sem] theorem is34 {α : Type} {E : Enc α} {l : List α} {b : Bool} {k : IntKind} {j : Int} (hw : E.w = 1) (hj : 0 ≤ j ∧ j < (l.length : Int)) : indexAddrV Try.prog 34 (slV b E l) (.int k j) = some (.ipt (flatE E l) (j.toNat * 1)) := idx_slV s34 hw hj
@[go_sem] theorem ns34 {α : Type} {H : Hp} (b : Bool) (E : Enc α) (l : List α) : lenV Try.prog 34 H (slV b E l) = some (.int .i64 l.length) := len_slV s34 b E l
@[go_sem] theorem nb34 {H : Hp} (n g w : Nat) (xs : List (List V)) : lenV Try.prog 34 H (blV n g w xs) = some (.int .i64 xs.length) := len_blV s34 n g w xs
@[go_sem] theorem lo34 {H : Hp} (x : V) (hi : Option V) : sliceV Try.prog 34 H x none hi = sliceV Try.prog 34 H x (some (.int .i64 0)) hi := lo_slV ⟨_, u34⟩
@[go_sem] theorem hi34 {α : Type} {E : Enc α} {l : List α} {b : Bool} {H : Hp} (lo : Option V) : sliceV Try.prog 34 H (slV b E l) lo none = sliceV Try.prog 34 H (slV b E l) lo (some (.int .i64 l.length)) := hi_slV s34
@[go_sem] theorem ct34 {α : Type} {E : Enc α} {l : List α} {b : Bool} {H : Hp} {k k' : IntKind} {lo hi : Int} (hw : E.w = 1) (h : 0 ≤ lo ∧ lo ≤ hi ∧ hi ≤ (l.length : Int)) : sliceV Try.prog 34 H (slV b E l) (some (.int k lo)) (some (.int k' hi)) = some (slV (b && decide (l.length = 0)) E ((l.drop lo.toNat).take (hi.toNat - lo.toNat))) := cut_slV s34 hw h
@[go_sem] theorem m34 {H : Hp} : lenV Try.prog 34 H .nilslice = some (.int .i64 0) := len_nilslice (sz := 1) (by kernel_rfl)
@[go_sem] theorem z37 : szOf Try.prog 37 = some 5 := by kernel_rfl
@[go_sem] theorem y37 : bytesOf' Try.prog 37 = some 56 := by kernel_rfl
@[go_sem] theorem g37 : aggT Try.prog 37 = some true := by kernel_rfl
@[go_sem] theorem o37 : zeroV Try.prog 37 = some (.agg [.int .i64 0, .int .i64 0, .bool false, .nilslice, .int .i64 0]) := by kernel_rfl
@[go_sem] theorem ai37 (cs : List V) (off i : Nat) : fieldAddrV Try.prog 37 (.ipt cs off) i = fieldAtI [0, 1, 2, 3, 4] cs off i := fieldAtI_eq (by kernel_rfl) cs off i
@[go_sem] theorem a37 (id g off i : Nat) : fieldAddrV Try.prog 37 (.ptr id g off) i = fieldAt [0, 1, 2, 3, 4] id g off i := fieldAt_eq (by kernel_rfl) id g off i
@[go_sem] theorem p37 (cs : List V) (i : Nat) : fieldV Try.prog 37 (.agg cs) i = fieldOf Try.prog [(3, 0), (3, 1), (4, 2), (25, 3), (3, 4)] cs i := fieldOf_eq (by kernel_rfl) cs i
@[go_sem] theorem h37 (ps : List (Nat × V)) : buildV Try.prog 37 ps = buildOf [.int .i64 0, .int .i64 0, .bool false, .nilslice, .int .i64 0] [(0, 1), (1, 1), (2, 1), (3, 1), (4, 1)] ps := buildOf_eq (by kernel_rfl) (by kernel_rfl) ps
@[go_sem] theorem u39 : Try.prog.underlying 39 = some (.array 2 3) := by kernel_rfl
@[go_sem] theorem z39 : szOf Try.prog 39 = some 2 := by kernel_rfl
@[go_sem] theorem y39 : bytesOf' Try.prog 39 = some 16 := by kernel_rfl
@[go_sem] theorem g39 : aggT Try.prog 39 = some true := by kernel_rfl
@[go_sem] theorem o39 : zeroV Try.prog 39 = some (.agg [.int .i64 0, .int .i64 0]) := by kernel_rfl
@[go_sem] theorem ii39 {cs : List V} {off : Nat} {k : IntKind} {j : Int} (hj : 0 ≤ j ∧ j < (2 : Nat)) : indexAddrV Try.prog 39 (.ipt cs off) (.int k j) = some (.ipt cs (off + j.toNat * 1)) := iai_arr (by kernel_rfl) hj
@[go_sem] theorem i39 {id g off : Nat} {k : IntKind} {j : Int} (hj : 0 ≤ j ∧ j < (2 : Nat)) : indexAddrV Try.prog 39 (.ptr id g off) (.int k j) = some (.ptr id g (off + j.toNat * 1)) := ia_arr (by kernel_rfl) hj
@[go_sem] theorem u46 : Try.prog.underlying 46 = some (.pointer 82) := by kernel_rfl
@[go_sem] theorem z46 : szOf Try.prog 46 = some 1 := by kernel_rfl
@[go_sem] theorem y46 : bytesOf' Try.prog 46 = some 8 := by kernel_rfl
@[go_sem] theorem g46 : aggT Try.prog 46 = some false := by kernel_rfl
@[go_sem] theorem o46 : zeroV Try.prog 46 = some .nilptr := by kernel_rfl
@[go_sem] theorem u47 : Try.prog.underlying 47 = some (.pointer 105) := by kernel_rfl
@[go_sem] theorem z47 : szOf Try.prog 47 = some 1 := by kernel_rfl
@[go_sem] theorem y47 : bytesOf' Try.prog 47 = some 8 := by kernel_rfl
@[go_sem] theorem g47 : aggT Try.prog 47 = some false := by kernel_rfl
@[go_sem] theorem o47 : zeroV Try.prog 47 = some .nilptr := by kernel_rfl
@[go_sem] theorem z63 : szOf Try.prog 63 = some 1 := by kernel_rfl
@[go_sem] theorem y63 : bytesOf' Try.prog 63 = some 8 := by kernel_rfl
@[go_sem] theorem g63 : aggT Try.prog 63 = some false := by kernel_rfl
@[go_sem] theorem o63 : zeroV Try.prog 63 = some .nilfn := by kernel_rfl
@[go_sem] theorem z74 : szOf Try.prog 74 = some 0 := by kernel_rfl
@[go_sem] theorem y74 : bytesOf' Try.prog 74 = some 0 := by kernel_rfl
@[go_sem] theorem g74 : aggT Try.prog 74 = some true := by kernel_rfl
@[go_sem] theorem o74 : zeroV Try.prog 74 = some (.agg []) := by kernel_rfl
@[go_sem] theorem ai74 (cs : List V) (off i : Nat) : fieldAddrV Try.prog 74 (.ipt cs off) i = fieldAtI [] cs off i := fieldAtI_eq (by kernel_rfl) cs off i
@[go_sem] theorem a74 (id g off i : Nat) : fieldAddrV Try.prog 74 (.ptr id g off) i = fieldAt [] id g off i := fieldAt_eq (by kernel_rfl) id g off i
@[go_sem] theorem p74 (cs : List V) (i : Nat) : fieldV Try.prog 74 (.agg cs) i = fieldOf Try.prog [] cs i := fieldOf_eq (by kernel_rfl) cs i
@[go_sem] theorem h74 (ps : List (Nat × V)) : buildV Try.prog 74 ps = buildOf [] [] ps := buildOf_eq (by kernel_rfl) (by kernel_rfl) ps
@[go_sem] theorem u75 : Try.prog.underlying 75 = some (.int .u32) := by kernel_rfl
@[go_sem] theorem z75 : szOf Try.prog 75 = some 1 := by kernel_rfl
@[go_sem] theorem y75 : bytesOf' Try.prog 75 = some 4 := by kernel_rfl
@[go_sem] theorem g75 : aggT Try.prog 75 = some false := by kernel_rfl
@[go_sem] theorem o75 : zeroV Try.prog 75 = some (.int .u32 0) := by kernel_rfl
@[go_sem] theorem z77 : szOf Try.prog 77 = some 2 := by kernel_rfl
@[go_sem] theorem y77 : bytesOf' Try.prog 77 = some 8 := by kernel_rfl
@[go_sem] theorem g77 : aggT Try.prog 77 = some true := by kernel_rfl
@[go_sem] theorem o77 : zeroV Try.prog 77 = some (.agg [.int .i32 0, .int .u32 0]) := by kernel_rfl
@[go_sem] theorem ai77 (cs : List V) (off i : Nat) : fieldAddrV Try.prog 77 (.ipt cs off) i = fieldAtI [0, 1] cs off i := fieldAtI_eq (by kernel_rfl) cs off i
@[go_sem] theorem a77 (id g off i : Nat) : fieldAddrV Try.prog 77 (.ptr id g off) i = fieldAt [0, 1] id g off i := fieldAt_eq (by kernel_rfl) id g off i
@[go_sem] theorem p77 (cs : List V) (i : Nat) : fieldV Try.prog 77 (.agg cs) i = fieldOf Try.prog [(21, 0), (75, 1)] cs i := fieldOf_eq (by kernel_rfl) cs i
@[go_sem] theorem h77 (ps : List (Nat × V)) : buildV Try.prog 77 ps = buildOf [.int .i32 0, .int .u32 0] [(0, 1), (1, 1)] ps := buildOf_eq (by kernel_rfl) (by kernel_rfl) ps
@[go_sem] theorem z79 : szOf Try.prog 79 = some 2 := by kernel_rfl
@[go_sem] theorem y79 : bytesOf' Try.prog 79 = some 8 := by kernel_rfl
@[go_sem] theorem g79 : aggT Try.prog 79 = some true := by kernel_rfl
@[go_sem] theorem o79 : zeroV Try.prog 79 = some (.agg [.int .i32 0, .int .u32 0]) := by kernel_rfl
@[go_sem] theorem p79 (cs : List V) (i : Nat) : fieldV Try.prog 79 (.agg cs) i = fieldOf Try.prog [(74, 0), (77, 0)] cs i := fieldOf_eq (by kernel_rfl) cs i
@[go_sem] theorem h79 (ps : List (Nat × V)) : buildV Try.prog 79 ps = buildOf [.int .i32 0, .int .u32 0] [(0, 0), (0, 2)] ps := buildOf_eq (by kernel_rfl) (by kernel_rfl) ps
@[go_sem] theorem u80 : Try.prog.underlying 80 = some (.map 3 83) := by kernel_rfl
@[go_sem] theorem z80 : szOf Try.prog 80 = some 1 := by kernel_rfl
@[go_sem] theorem y80 : bytesOf' Try.prog 80 = some 8 := by kernel_rfl
@[go_sem] theorem g80 : aggT Try.prog 80 = some false := by kernel_rfl
@[go_sem] theorem o80 : zeroV Try.prog 80 = some .nilmap := by kernel_rfl
@[go_sem] theorem z82 : szOf Try.prog 82 = some 4 := by kernel_rfl
@[go_sem] theorem y82 : bytesOf' Try.prog 82 = some 24 := by kernel_rfl
@[go_sem] theorem g82 : aggT Try.prog 82 = some true := by kernel_rfl
@[go_sem] theorem o82 : zeroV Try.prog 82 = some (.agg [.int .i32 0, .int .u32 0, .int .i64 0, .nilmap]) := by kernel_rfl
@[go_sem] theorem ai82 (cs : List V) (off i : Nat) : fieldAddrV Try.prog 82 (.ipt cs off) i = fieldAtI [0, 2, 3] cs off i := fieldAtI_eq (by kernel_rfl) cs off i
@[go_sem] theorem a82 (id g off i : Nat) : fieldAddrV Try.prog 82 (.ptr id g off) i = fieldAt [0, 2, 3] id g off i := fieldAt_eq (by kernel_rfl) id g off i
@[go_sem] theorem p82 (cs : List V) (i : Nat) : fieldV Try.prog 82 (.agg cs) i = fieldOf Try.prog [(79, 0), (3, 2), (80, 3)] cs i := fieldOf_eq (by kernel_rfl) cs i
@[go_sem] theorem h82 (ps : List (Nat × V)) : buildV Try.prog 82 ps = buildOf [.int .i32 0, .int .u32 0, .int .i64 0, .nilmap] [(0, 2), (2, 1), (3, 1)] ps := buildOf_eq (by kernel_rfl) (by kernel_rfl) ps
@[go_sem] theorem u83 : Try.prog.underlying 83 = some (.pointer 86) := by kernel_rfl
@[go_sem] theorem z83 : szOf Try.prog 83 = some 1 := by kernel_rfl
@[go_sem] theorem y83 : bytesOf' Try.prog 83 = some 8 := by kernel_rfl
@[go_sem] theorem g83 : aggT Try.prog 83 = some false := by kernel_rfl
@[go_sem] theorem o83 : zeroV Try.prog 83 = some .nilptr := by kernel_rfl
@[go_sem] theorem u84 : Try.prog.underlying 84 = some (.slice 97) := by kernel_rfl
@[go_sem] theorem z84 : szOf Try.prog 84 = some 1 := by kernel_rfl
@[go_sem] theorem y84 : bytesOf' Try.prog 84 = some 24 := by kernel_rfl
@[go_sem] theorem g84 : aggT Try.prog 84 = some false := by kernel_rfl
@[go_sem] theorem o84 : zeroV Try.prog 84 = some .nilslice := by kernel_rfl
theorem s84 : sliceT Try.prog 84 3 = true := by kernel_rfl
@[go_sem] theorem i84 {id g off n : Nat} {cp : Cap} {k : IntKind} {j : Int} (hj : 0 ≤ j ∧ j < n) : indexAddrV Try.prog 84 (.slice id g off n 3 cp) (.int k j) = some (.ptr id g (off + j.toNat * 3)) := ia_slice (by kernel_rfl) hj
@[go_sem] theorem n84 {H : Hp} (id g off n : Nat) (cp : Cap) : lenV Try.prog 84 H (.slice id g off n 3 cp) = some (.int .i64 n) := len_slice (sz := 3) (by kernel_rfl) id g off n 3 cp
@[go_sem] theorem is84 {α : Type} {E : Enc α} {l : List α} {b : Bool} {k : IntKind} {j : Int} (hw : E.w = 3) (hj : 0 ≤ j ∧ j < (l.length : Int)) : indexAddrV Try.prog 84 (slV b E l) (.int k j) = some (.ipt (flatE E l) (j.toNat * 3)) := idx_slV s84 hw hj
@[go_sem] theorem ns84 {α : Type} {H : Hp} (b : Bool) (E : Enc α) (l : List α) : lenV Try.prog 84 H (slV b E l) = some (.int .i64 l.length) := len_slV s84 b E l
@[go_sem] theorem nb84 {H : Hp} (n g w : Nat) (xs : List (List V)) : lenV Try.prog 84 H (blV n g w xs) = some (.int .i64 xs.length) := len_blV s84 n g w xs
@[go_sem] theorem lo84 {H : Hp} (x : V) (hi : Option V) : sliceV Try.prog 84 H x none hi = sliceV Try.prog 84 H x (some (.int .i64 0)) hi := lo_slV ⟨_, u84⟩
@[go_sem] theorem hi84 {α : Type} {E : Enc α} {l : List α} {b : Bool} {H : Hp} (lo : Option V) : sliceV Try.prog 84 H (slV b E l) lo none = sliceV Try.prog 84 H (slV b E l) lo (some (.int .i64 l.length)) := hi_slV s84
@[go_sem] theorem ct84 {α : Type} {E : Enc α} {l : List α} {b : Bool} {H : Hp} {k k' : IntKind} {lo hi : Int} (hw : E.w = 3) (h : 0 ≤ lo ∧ lo ≤ hi ∧ hi ≤ (l.length : Int)) : sliceV Try.prog 84 H (slV b E l) (some (.int k lo)) (some (.int k' hi)) = some (slV (b && decide (l.length = 0)) E ((l.drop lo.toNat).take (hi.toNat - lo.toNat))) := cut_slV s84 hw h
@[go_sem] theorem m84 {H : Hp} : lenV Try.prog 84 H .nilslice = some (.int .i64 0) := len_nilslice (sz := 3) (by kernel_rfl)
@[go_sem] theorem z86 : szOf Try.prog 86 = some 3 := by kernel_rfl
@[go_sem] theorem y86 : bytesOf' Try.prog 86 = some 40 := by kernel_rfl
@[go_sem] theorem g86 : aggT Try.prog 86 = some true := by kernel_rfl
@[go_sem] theorem o86 : zeroV Try.prog 86 = some (.agg [.nilslice, .int .i64 0, .int .i64 0]) := by kernel_rfl
@[go_sem] theorem ai86 (cs : List V) (off i : Nat) : fieldAddrV Try.prog 86 (.ipt cs off) i = fieldAtI [0, 1, 2] cs off i := fieldAtI_eq (by kernel_rfl) cs off i
@[go_sem] theorem a86 (id g off i : Nat) : fieldAddrV Try.prog 86 (.ptr id g off) i = fieldAt [0, 1, 2] id g off i := fieldAt_eq (by kernel_rfl) id g off i
@[go_sem] theorem p86 (cs : List V) (i : Nat) : fieldV Try.prog 86 (.agg cs) i = fieldOf Try.prog [(84, 0), (3, 1), (3, 2)] cs i := fieldOf_eq (by kernel_rfl) cs i
@[go_sem] theorem h86 (ps : List (Nat × V)) : buildV Try.prog 86 ps = buildOf [.nilslice, .int .i64 0, .int .i64 0] [(0, 1), (1, 1), (2, 1)] ps := buildOf_eq (by kernel_rfl) (by kernel_rfl) ps
@[go_sem] theorem z97 : szOf Try.prog 97 = some 3 := by kernel_rfl
@[go_sem] theorem y97 : bytesOf' Try.prog 97 = some 16 := by kernel_rfl
@[go_sem] theorem g97 : aggT Try.prog 97 = some true := by kernel_rfl
@[go_sem] theorem o97 : zeroV Try.prog 97 = some (.agg [.bool false, .int .u8 0, .int .i64 0]) := by kernel_rfl
@[go_sem] theorem ai97 (cs : List V) (off i : Nat) : fieldAddrV Try.prog 97 (.ipt cs off) i = fieldAtI [0, 1, 2] cs off i := fieldAtI_eq (by kernel_rfl) cs off i
@[go_sem] theorem a97 (id g off i : Nat) : fieldAddrV Try.prog 97 (.ptr id g off) i = fieldAt [0, 1, 2] id g off i := fieldAt_eq (by kernel_rfl) id g off i
@[go_sem] theorem p97 (cs : List V) (i : Nat) : fieldV Try.prog 97 (.agg cs) i = fieldOf Try.prog [(4, 0), (5, 1), (3, 2)] cs i := fieldOf_eq (by kernel_rfl) cs i
@[go_sem] theorem h97 (ps : List (Nat × V)) : buildV Try.prog 97 ps = buildOf [.bool false, .int .u8 0, .int .i64 0] [(0, 1), (1, 1), (2, 1)] ps := buildOf_eq (by kernel_rfl) (by kernel_rfl) ps
@[go_sem] theorem u103 : Try.prog.underlying 103 = some (.slice 108) := by kernel_rfl
@[go_sem] theorem z103 : szOf Try.prog 103 = some 1 := by kernel_rfl
@[go_sem] theorem y103 : bytesOf' Try.prog 103 = some 24 := by kernel_rfl
@[go_sem] theorem g103 : aggT Try.prog 103 = some false := by kernel_rfl
@[go_sem] theorem o103 : zeroV Try.prog 103 = some .nilslice := by kernel_rfl
theorem s103 : sliceT Try.prog 103 2 = true := by kernel_rfl
@[go_sem] theorem i103 {id g off n : Nat} {cp : Cap} {k : IntKind} {j : Int} (hj : 0 ≤ j ∧ j < n) : indexAddrV Try.prog 103 (.slice id g off n 2 cp) (.int k j) = some (.ptr id g (off + j.toNat * 2)) := ia_slice (by kernel_rfl) hj
@[go_sem] theorem n103 {H : Hp} (id g off n : Nat) (cp : Cap) : lenV Try.prog 103 H (.slice id g off n 2 cp) = some (.int .i64 n) := len_slice (sz := 2) (by kernel_rfl) id g off n 2 cp
@[go_sem] theorem is103 {α : Type} {E : Enc α} {l : List α} {b : Bool} {k : IntKind} {j : Int} (hw : E.w = 2) (hj : 0 ≤ j ∧ j < (l.length : Int)) : indexAddrV Try.prog 103 (slV b E l) (.int k j) = some (.ipt (flatE E l) (j.toNat * 2)) := idx_slV s103 hw hj
@[go_sem] theorem ns103 {α : Type} {H : Hp} (b : Bool) (E : Enc α) (l : List α) : lenV Try.prog 103 H (slV b E l) = some (.int .i64 l.length) := len_slV s103 b E l
@[go_sem] theorem nb103 {H : Hp} (n g w : Nat) (xs : List (List V)) : lenV Try.prog 103 H (blV n g w xs) = some (.int .i64 xs.length) := len_blV s103 n g w xs
@[go_sem] theorem lo103 {H : Hp} (x : V) (hi : Option V) : sliceV Try.prog 103 H x none hi = sliceV Try.prog 103 H x (some (.int .i64 0)) hi := lo_slV ⟨_, u103⟩
@[go_sem] theorem hi103 {α : Type} {E : Enc α} {l : List α} {b : Bool} {H : Hp} (lo : Option V) : sliceV Try.prog 103 H (slV b E l) lo none = sliceV Try.prog 103 H (slV b E l) lo (some (.int .i64 l.length)) := hi_slV s103
@[go_sem] theorem ct103 {α : Type} {E : Enc α} {l : List α} {b : Bool} {H : Hp} {k k' : IntKind} {lo hi : Int} (hw : E.w = 2) (h : 0 ≤ lo ∧ lo ≤ hi ∧ hi ≤ (l.length : Int)) : sliceV Try.prog 103 H (slV b E l) (some (.int k lo)) (some (.int k' hi)) = some (slV (b && decide (l.length = 0)) E ((l.drop lo.toNat).take (hi.toNat - lo.toNat))) := cut_slV s103 hw h
@[go_sem] theorem m103 {H : Hp} : lenV Try.prog 103 H .nilslice = some (.int .i64 0) := len_nilslice (sz := 2) (by kernel_rfl)
@[go_sem] theorem z105 : szOf Try.prog 105 = some 2 := by kernel_rfl
@[go_sem] theorem y105 : bytesOf' Try.prog 105 = some 32 := by kernel_rfl
@[go_sem] theorem g105 : aggT Try.prog 105 = some true := by kernel_rfl
@[go_sem] theorem o105 : zeroV Try.prog 105 = some (.agg [.int .i64 0, .nilslice]) := by kernel_rfl
@[go_sem] theorem ai105 (cs : List V) (off i : Nat) : fieldAddrV Try.prog 105 (.ipt cs off) i = fieldAtI [0, 1] cs off i := fieldAtI_eq (by kernel_rfl) cs off i
@[go_sem] theorem a105 (id g off i : Nat) : fieldAddrV Try.prog 105 (.ptr id g off) i = fieldAt [0, 1] id g off i := fieldAt_eq (by kernel_rfl) id g off i
@[go_sem] theorem p105 (cs : List V) (i : Nat) : fieldV Try.prog 105 (.agg cs) i = fieldOf Try.prog [(3, 0), (103, 1)] cs i := fieldOf_eq (by kernel_rfl) cs i
@[go_sem] theorem h105 (ps : List (Nat × V)) : buildV Try.prog 105 ps = buildOf [.int .i64 0, .nilslice] [(0, 1), (1, 1)] ps := buildOf_eq (by kernel_rfl) (by kernel_rfl) ps
@[go_sem] theorem z108 : szOf Try.prog 108 = some 2 := by kernel_rfl
@[go_sem] theorem y108 : bytesOf' Try.prog 108 = some 32 := by kernel_rfl
@[go_sem] theorem g108 : aggT Try.prog 108 = some true := by kernel_rfl
@[go_sem] theorem o108 : zeroV Try.prog 108 = some (.agg [.int .i64 0, .nilslice]) := by kernel_rfl
@[go_sem] theorem ai108 (cs : List V) (off i : Nat) : fieldAddrV Try.prog 108 (.ipt cs off) i = fieldAtI [0, 1] cs off i := fieldAtI_eq (by kernel_rfl) cs off i
@[go_sem] theorem a108 (id g off i : Nat) : fieldAddrV Try.prog 108 (.ptr id g off) i = fieldAt [0, 1] id g off i := fieldAt_eq (by kernel_rfl) id g off i
@[go_sem] theorem p108 (cs : List V) (i : Nat) : fieldV Try.prog 108 (.agg cs) i = fieldOf Try.prog [(3, 0), (22, 1)] cs i := fieldOf_eq (by kernel_rfl) cs i
@[go_sem] theorem h108 (ps : List (Nat × V)) : buildV Try.prog 108 ps = buildOf [.int .i64 0, .nilslice] [(0, 1), (1, 1)] ps := buildOf_eq (by kernel_rfl) (by kernel_rfl) ps
@[go_sem] theorem z120 : szOf Try.prog 120 = some 1 := by kernel_rfl
@[go_sem] theorem y120 : bytesOf' Try.prog 120 = some 8 := by kernel_rfl
@[go_sem] theorem g120 : aggT Try.prog 120 = some false := by kernel_rfl
@[go_sem] theorem o120 : zeroV Try.prog 120 = some .nilfn := by kernel_rfl
@[go_sem] theorem x25_9 {H : Hp} (c : Bool) (l : List UInt8) : convV Try.prog 25 9 H (slV c byE l) = some (.str l, H) := str_slV (by kernel_rfl) c l
@[go_sem] theorem v46a (a b c : Nat) : binV Try.prog .eql 46 (.ptr a b c) .nilptr = some (.bool false) := (pt_nil (by kernel_rfl) a b c).1
@[go_sem] theorem v46b (a b c : Nat) : binV Try.prog .neq 46 (.ptr a b c) .nilptr = some (.bool true) := (pt_nil (by kernel_rfl) a b c).2.1
@[go_sem] theorem v46c : binV Try.prog .eql 46 .nilptr .nilptr = some (.bool true) := (pt_nil (by kernel_rfl) 0 0 0).2.2.1
@[go_sem] theorem v46d : binV Try.prog .neq 46 .nilptr .nilptr = some (.bool false) := (pt_nil (by kernel_rfl) 0 0 0).2.2.2
@[go_sem] theorem v83a (a b c : Nat) : binV Try.prog .eql 83 (.ptr a b c) .nilptr = some (.bool false) := (pt_nil (by kernel_rfl) a b c).1
@[go_sem] theorem v83b (a b c : Nat) : binV Try.prog .neq 83 (.ptr a b c) .nilptr = some (.bool true) := (pt_nil (by kernel_rfl) a b c).2.1
@[go_sem] theorem v83c : binV Try.prog .eql 83 .nilptr .nilptr = some (.bool true) := (pt_nil (by kernel_rfl) 0 0 0).2.2.1
@[go_sem] theorem v83d : binV Try.prog .neq 83 .nilptr .nilptr = some (.bool false) := (pt_nil (by kernel_rfl) 0 0 0).2.2.2
@[go_sem] theorem v25s {α : Type} (b : Bool) (E : Enc α) (l : List α) : binV Try.prog .eql 25 (slV b E l) .nilslice = some (.bool (b && decide (l.length = 0))) := (nil_slV (by kernel_rfl) b E l).1
@[go_sem] theorem v25t {α : Type} (b : Bool) (E : Enc α) (l : List α) : binV Try.prog .neq 25 (slV b E l) .nilslice = some (.bool (!(b && decide (l.length = 0)))) := (nil_slV (by kernel_rfl) b E l).2
@[go_sem] theorem v25a (a b c d e : Nat) (cp : Cap) : binV Try.prog .eql 25 (.slice a b c d e cp) .nilslice = some (.bool false) := (sl_nil (by kernel_rfl) a b c d e cp).1
@[go_sem] theorem v25b (a b c d e : Nat) (cp : Cap) : binV Try.prog .neq 25 (.slice a b c d e cp) .nilslice = some (.bool true) := (sl_nil (by kernel_rfl) a b c d e cp).2.1
@[go_sem] theorem v25c : binV Try.prog .eql 25 .nilslice .nilslice = some (.bool true) := (sl_nil (by kernel_rfl) 0 0 0 0 0 .full).2.2.1
@[go_sem] theorem v25d : binV Try.prog .neq 25 .nilslice .nilslice = some (.bool false) := (sl_nil (by kernel_rfl) 0 0 0 0 0 .full).2.2.2
@[go_sem] theorem ga25_25 {α : Type} {E : Enc α} {l : List α} {b : Bool} (hw : E.w = 1) (h1 : l.length * 1 ≤ 2 ^ 40) (h2 : l.length ≤ 2 ^ 40) : immApp Try.prog 25 25 .nilslice (slV b E l) = some (slV true E l) := ia_slV (by kernel_rfl) hw h1 h2
@[go_sem] theorem w22_22 {H : Hp} (s x : V) : builtinV Try.prog .append #[22, 22] [s, x] H = appOf 5 56 H s x := app_eq (by kernel_rfl) s x
@[go_sem] theorem w30_30 {H : Hp} (s x : V) : builtinV Try.prog .append #[30, 30] [s, x] H = appOf 2 16 H s x := app_eq (by kernel_rfl) s x
@[go_sem] theorem w103_103 {H : Hp} (s x : V) : builtinV Try.prog .append #[103, 103] [s, x] H = appOf 2 32 H s x := app_eq (by kernel_rfl) s x
@[go_sem] theorem w25_25 {H : Hp} (s x : V) : builtinV Try.prog .append #[25, 25] [s, x] H = appOf 1 1 H s x := app_eq (by kernel_rfl) s x
@[go_sem] theorem w84_84 {H : Hp} (s x : V) : builtinV Try.prog .append #[84, 84] [s, x] H = appOf 3 16 H s x := app_eq (by kernel_rfl) s x
@[go_sem] theorem bb4e (x y : Bool) : binV Try.prog .eql 4 (.bool x) (.bool y) = some (.bool (x == y)) := b_beql 4 x y u4
@[go_sem] theorem bb4n (x y : Bool) : binV Try.prog .neq 4 (.bool x) (.bool y) = some (.bool (!(x == y))) := b_bneq 4 x y u4
@[go_sem] theorem qi22 (v : V) : immSl Try.prog 22 1 [(0, v)] = if immL v.cells = true ∧ v.cells.length = 5 then some (.isl v.cells 1 5) else none := is_one u22 z37 o37 rfl (by decide) (by decide) v
@[go_sem] theorem q22 {H : Hp} (v : V) : buildSliceV Try.prog 22 1 [(0, v)] H = if v.cells.all V.isCell = true ∧ v.cells.length = 5 then some (.slice H.length 0 0 1 5 .full, H ++ [.row 0 v.cells true]) else none := bs_if u22 z37 o37 rfl (by decide) (by decide) v
@[go_sem] theorem qi25 (v : V) : immSl Try.prog 25 1 [(0, v)] = if immL v.cells = true ∧ v.cells.length = 1 then some (.isl v.cells 1 1) else none := is_one u25 z5 o5 rfl (by decide) (by decide) v
@[go_sem] theorem q25 {H : Hp} (v : V) : buildSliceV Try.prog 25 1 [(0, v)] H = if v.cells.all V.isCell = true ∧ v.cells.length = 1 then some (.slice H.length 0 0 1 1 .full, H ++ [.row 0 v.cells true]) else none := bs_if u25 z5 o5 rfl (by decide) (by decide) v
@[go_sem] theorem qi30 (v : V) : immSl Try.prog 30 1 [(0, v)] = if immL v.cells = true ∧ v.cells.length = 2 then some (.isl v.cells 1 2) else none := is_one u30 z39 o39 rfl (by decide) (by decide) v
@[go_sem] theorem q30 {H : Hp} (v : V) : buildSliceV Try.prog 30 1 [(0, v)] H = if v.cells.all V.isCell = true ∧ v.cells.length = 2 then some (.slice H.length 0 0 1 2 .full, H ++ [.row 0 v.cells true]) else none := bs_if u30 z39 o39 rfl (by decide) (by decide) v
@[go_sem] theorem h39 (ps : List (Nat × V)) : buildV Try.prog 39 ps = (fillV (fun i => some (i * 1, 1)) [.int .i64 0, .int .i64 0] ps).map V.agg := buildArr_eq u39 z3 o39 ps
@[go_sem] theorem qi84 (v : V) : immSl Try.prog 84 1 [(0, v)] = if immL v.cells = true ∧ v.cells.length = 3 then some (.isl v.cells 1 3) else none := is_one u84 z97 o97 rfl (by decide) (by decide) v
@[go_sem] theorem q84 {H : Hp} (v : V) : buildSliceV Try.prog 84 1 [(0, v)] H = if v.cells.all V.isCell = true ∧ v.cells.length = 3 then some (.slice H.length 0 0 1 3 .full, H ++ [.row 0 v.cells true]) else none := bs_if u84 z97 o97 rfl (by decide) (by decide) v
@[go_sem] theorem qi103 (v : V) : immSl Try.prog 103 1 [(0, v)] = if immL v.cells = true ∧ v.cells.length = 2 then some (.isl v.cells 1 2) else none := is_one u103 z108 o108 rfl (by decide) (by decide) v
@[go_sem] theorem q103 {H : Hp} (v : V) : buildSliceV Try.prog 103 1 [(0, v)] H = if v.cells.all V.isCell = true ∧ v.cells.length = 2 then some (.slice H.length 0 0 1 2 .full, H ++ [.row 0 v.cells true]) else none := bs_if u103 z108 o108 rfl (by decide) (by decide) v
@[go_sem] theorem qz25 {H : Hp} : buildSliceV Try.prog 25 0 [] H = some (.slice H.length 0 0 0 1 .full, H ++ [.row 0 [] true]) := bs_zero u25 z5 o5 rfl (by decide)
def r3_0 : List Co := [
  ⟨some 4, .assign (.const (.bool false)), false, none, false, false, []⟩]
def r3_1 : List Co := [
  ⟨some 11, .move (.tmp 0), false, none, false, false, []⟩,
  ⟨some 12, .call ⟨.value (.func 10), #[(.tmp 11)], #[22]⟩, false, none, false, false, []⟩,
  ⟨some 13, .move (.tmp 12), false, none, false, false, []⟩,
  ⟨some 14, .move (.tmp 0), false, some (13, false), false, false, []⟩,
  ⟨some 15, .call ⟨.builtin .len, #[(.tmp 14)], #[22]⟩, false, some (13, false), false, false, []⟩,
  ⟨some 16, .binOp .gtr 3 (.tmp 15) (.const (.int .i64 250)) 3, false, some (13, false), false, false, []⟩,
  ⟨some 17, .pick (.tmp 13) (.const (.bool true)) (.tmp 16), false, none, false, false, []⟩]
def r3_2 : List Co := [
  ⟨some 18, .call ⟨.value (.func 11), #[], #[]⟩, false, none, false, false, []⟩,
  ⟨some 4, .assign (.tmp 18), false, none, false, false, []⟩]
def r3_3 : List Co := [
  ⟨some 20, .move (.tmp 0), false, none, false, false, []⟩,
  ⟨some 21, .move (.tmp 1), false, none, false, false, []⟩,
  ⟨some 22, .call ⟨.value (.func 12), #[(.tmp 20), (.tmp 21)], #[22, 3]⟩, false, none, false, false, []⟩,
  ⟨some 19, .move (.tmp 22), false, none, false, false, []⟩,
  ⟨some 23, .extract (.tmp 19) 0, false, none, false, false, []⟩,
  ⟨some 24, .extract (.tmp 19) 1, false, none, false, false, []⟩,
  ⟨some 25, .extract (.tmp 19) 2, false, none, false, false, []⟩,
  ⟨some 5, .assign (.tmp 23), false, none, false, false, []⟩,
  ⟨some 6, .assign (.tmp 24), false, none, false, false, []⟩,
  ⟨some 7, .assign (.tmp 25), false, none, false, false, []⟩]
def r3_4 : List Co := [
  ⟨some 27, .move (.tmp 0), false, none, false, false, []⟩,
  ⟨some 28, .move (.tmp 1), false, none, false, false, []⟩,
  ⟨some 29, .call ⟨.value (.func 13), #[(.tmp 27), (.tmp 28)], #[22, 3]⟩, false, none, false, false, []⟩,
  ⟨some 26, .move (.tmp 29), false, none, false, false, []⟩,
  ⟨some 30, .extract (.tmp 26) 0, false, none, false, false, []⟩,
  ⟨some 31, .extract (.tmp 26) 1, false, none, false, false, []⟩,
  ⟨some 32, .extract (.tmp 26) 2, false, none, false, false, []⟩,
  ⟨some 8, .assign (.tmp 30), false, none, false, false, []⟩,
  ⟨some 9, .assign (.tmp 31), false, none, false, false, []⟩,
  ⟨some 10, .assign (.tmp 32), false, none, false, false, []⟩]
def r3_5 : List Co := [
  ⟨some 33, .move (.tmp 5), false, none, false, false, []⟩,
  ⟨some 34, .convert 25 9 (.tmp 33), false, none, false, false, []⟩,
  ⟨some 35, .move (.tmp 8), false, none, false, false, []⟩,
  ⟨some 36, .convert 25 9 (.tmp 35), false, none, false, false, []⟩,
  ⟨some 37, .binOp .eql 9 (.tmp 34) (.tmp 36) 9, false, none, false, false, []⟩,
  ⟨some 38, .move (.tmp 37), false, none, false, false, []⟩,
  ⟨some 39, .move (.tmp 6), false, some (38, true), false, false, []⟩,
  ⟨some 40, .move (.tmp 9), false, some (38, true), false, false, []⟩,
  ⟨some 41, .binOp .eql 3 (.tmp 39) (.tmp 40) 3, false, some (38, true), false, false, []⟩,
  ⟨some 42, .pick (.tmp 38) (.tmp 41) (.const (.bool false)), false, none, false, false, []⟩,
  ⟨some 43, .move (.tmp 42), false, none, false, false, []⟩,
  ⟨some 44, .move (.tmp 7), false, some (43, true), false, false, []⟩,
  ⟨some 45, .move (.tmp 10), false, some (43, true), false, false, []⟩,
  ⟨some 46, .binOp .eql 26 (.tmp 44) (.tmp 45) 26, false, some (43, true), false, false, []⟩,
  ⟨some 47, .pick (.tmp 43) (.tmp 46) (.const (.bool false)), false, none, false, false, []⟩,
  ⟨some 48, .move (.tmp 47), false, none, false, false, []⟩,
  ⟨some 49, .call ⟨.value (.func 11), #[], #[]⟩, false, some (48, true), false, false, []⟩,
  ⟨some 50, .pick (.tmp 48) (.tmp 49) (.const (.bool false)), false, none, false, false, []⟩,
  ⟨some 4, .assign (.tmp 50), false, none, false, false, []⟩]
/-- wireglass/wireglasslaw18.FragWhole -/
def c3 : Cc := (.seq (.reg r3_0) (.seq (.seq (.reg r3_1) (.cond (.tmp 17) (.seq (.reg r3_2) .ret) .skip)) (.seq (.reg r3_3) (.seq (.reg r3_4) (.seq (.reg r3_5) .ret)))))
def r5_0 : List Co := [
  ⟨some 6, .assign (.const (.bool false)), false, none, false, false, []⟩]
def r5_1 : List Co := [
  ⟨some 17, .move (.tmp 0), false, none, false, false, []⟩,
  ⟨some 18, .call ⟨.value (.func 10), #[(.tmp 17)], #[22]⟩, false, none, false, false, []⟩,
  ⟨some 19, .move (.tmp 18), false, none, false, false, []⟩,
  ⟨some 20, .move (.tmp 0), false, some (19, false), false, false, []⟩,
  ⟨some 21, .call ⟨.builtin .len, #[(.tmp 20)], #[22]⟩, false, some (19, false), false, false, []⟩,
  ⟨some 22, .binOp .gtr 3 (.tmp 21) (.const (.int .i64 250)) 3, false, some (19, false), false, false, []⟩,
  ⟨some 23, .pick (.tmp 19) (.const (.bool true)) (.tmp 22), false, none, false, false, []⟩,
  ⟨some 24, .move (.tmp 23), false, none, false, false, []⟩,
  ⟨some 25, .move (.tmp 2), false, some (24, false), false, false, []⟩,
  ⟨some 26, .call ⟨.builtin .len, #[(.tmp 25)], #[34]⟩, false, some (24, false), false, false, []⟩,
  ⟨some 27, .binOp .gtr 3 (.tmp 26) (.const (.int .i64 32768)) 3, false, some (24, false), false, false, []⟩,
  ⟨some 28, .pick (.tmp 24) (.const (.bool true)) (.tmp 27), false, none, false, false, []⟩]
def r5_2 : List Co := [
  ⟨some 29, .call ⟨.value (.func 11), #[], #[]⟩, false, none, false, false, []⟩,
  ⟨some 6, .assign (.tmp 29), false, none, false, false, []⟩]
def r5_3 : List Co := [
  ⟨some 31, .move (.tmp 0), false, none, false, false, []⟩,
  ⟨some 32, .call ⟨.value (.func 14), #[(.tmp 31)], #[22]⟩, false, none, false, false, []⟩,
  ⟨some 30, .move (.tmp 32), false, none, false, false, []⟩,
  ⟨some 33, .extract (.tmp 30) 0, false, none, false, false, []⟩,
  ⟨some 34, .extract (.tmp 30) 1, false, none, false, false, []⟩,
  ⟨some 7, .assign (.tmp 33), false, none, false, false, []⟩,
  ⟨some 8, .assign (.tmp 34), false, none, false, false, []⟩]
def r5_4 : List Co := [
  ⟨some 36, .move (.tmp 0), false, none, false, false, []⟩,
  ⟨some 37, .move (.tmp 1), false, none, false, false, []⟩,
  ⟨some 38, .call ⟨.value (.func 12), #[(.tmp 36), (.tmp 37)], #[22, 3]⟩, false, none, false, false, []⟩,
  ⟨some 35, .move (.tmp 38), false, none, false, false, []⟩,
  ⟨some 39, .extract (.tmp 35) 0, false, none, false, false, []⟩,
  ⟨some 40, .extract (.tmp 35) 1, false, none, false, false, []⟩,
  ⟨some 41, .extract (.tmp 35) 2, false, none, false, false, []⟩,
  ⟨some 9, .assign (.tmp 39), false, none, false, false, []⟩,
  ⟨some 10, .assign (.tmp 40), false, none, false, false, []⟩,
  ⟨some 11, .assign (.tmp 41), false, none, false, false, []⟩]
def r5_5 : List Co := [
  ⟨some 43, .move (.tmp 0), false, none, false, false, []⟩,
  ⟨some 44, .move (.tmp 2), false, none, false, false, []⟩,
  ⟨some 45, .call ⟨.value (.func 17), #[(.tmp 43), (.tmp 44)], #[22, 34]⟩, false, none, false, false, []⟩,
  ⟨some 46, .move (.tmp 1), false, none, false, false, []⟩,
  ⟨some 47, .call ⟨.value (.func 12), #[(.tmp 45), (.tmp 46)], #[22, 3]⟩, false, none, false, false, []⟩,
  ⟨some 42, .move (.tmp 47), false, none, false, false, []⟩,
  ⟨some 48, .extract (.tmp 42) 0, false, none, false, false, []⟩,
  ⟨some 49, .extract (.tmp 42) 1, false, none, false, false, []⟩,
  ⟨some 50, .extract (.tmp 42) 2, false, none, false, false, []⟩,
  ⟨some 12, .assign (.tmp 48), false, none, false, false, []⟩,
  ⟨some 13, .assign (.tmp 49), false, none, false, false, []⟩,
  ⟨some 14, .assign (.tmp 50), false, none, false, false, []⟩]
def r5_6 : List Co := [
  ⟨some 51, .move (.tmp 8), false, none, false, false, []⟩,
  ⟨some 52, .binOp .neq 26 (.tmp 51) (.const (.int .i64 0)) 26, false, none, false, false, []⟩,
  ⟨some 53, .move (.tmp 52), false, none, false, false, []⟩,
  ⟨some 54, .move (.tmp 11), false, some (53, false), false, false, []⟩,
  ⟨some 55, .binOp .neq 26 (.tmp 54) (.const (.int .i64 0)) 26, false, some (53, false), false, false, []⟩,
  ⟨some 56, .pick (.tmp 53) (.const (.bool true)) (.tmp 55), false, none, false, false, []⟩,
  ⟨some 57, .move (.tmp 56), false, none, false, false, []⟩,
  ⟨some 58, .move (.tmp 14), false, some (57, false), false, false, []⟩,
  ⟨some 59, .binOp .neq 26 (.tmp 58) (.const (.int .i64 0)) 26, false, some (57, false), false, false, []⟩,
  ⟨some 60, .pick (.tmp 57) (.const (.bool true)) (.tmp 59), false, none, false, false, []⟩,
  ⟨some 61, .move (.tmp 60), false, none, false, false, []⟩,
  ⟨some 62, .move (.tmp 7), false, some (61, false), false, false, []⟩,
  ⟨some 63, .call ⟨.builtin .len, #[(.tmp 62)], #[30]⟩, false, some (61, false), false, false, []⟩,
  ⟨some 64, .binOp .gtr 3 (.tmp 63) (.const (.int .i64 0)) 3, false, some (61, false), false, false, []⟩,
  ⟨some 65, .pick (.tmp 61) (.const (.bool true)) (.tmp 64), false, none, false, false, []⟩]
def r5_7 : List Co := [
  ⟨some 66, .call ⟨.value (.func 11), #[], #[]⟩, false, none, false, false, []⟩,
  ⟨some 6, .assign (.tmp 66), false, none, false, false, []⟩]
def r5_8 : List Co := [
  ⟨some 15, .assign (.const (.int .i64 0)), false, none, false, false, []⟩]
def r5_9 : List Co := [
  ⟨some 16, .assign (.const (.int .i64 0)), false, none, false, false, []⟩]
def r5_10 : List Co := [
  ⟨some 67, .move (.tmp 16), false, none, false, false, []⟩,
  ⟨some 68, .move (.tmp 0), false, none, false, false, []⟩,
  ⟨some 69, .call ⟨.builtin .len, #[(.tmp 68)], #[22]⟩, false, none, false, false, []⟩,
  ⟨some 70, .binOp .lss 3 (.tmp 67) (.tmp 69) 3, false, none, false, false, []⟩]
def r5_11 : List Co := [
  ⟨some 73, .move (.tmp 0), false, none, false, false, []⟩,
  ⟨some 74, .move (.tmp 16), false, none, false, false, []⟩,
  ⟨some 75, .indexAddr 22 (.tmp 73) (.tmp 74), false, none, false, false, []⟩,
  ⟨some 76, .fieldAddr 37 (.tmp 75) 2, false, none, false, false, []⟩,
  ⟨some 77, .load 4 (.tmp 76), false, none, false, false, []⟩,
  ⟨some 78, .unOp .not 4 (.tmp 77), false, none, false, false, []⟩]
def r5_12 : List Co := [
  ⟨some 79, .move (.tmp 15), false, none, false, false, []⟩,
  ⟨some 80, .binOp .add 3 (.tmp 79) (.const (.int .i64 1)) 3, false, none, false, false, []⟩,
  ⟨some 15, .assign (.tmp 80), false, none, false, false, []⟩]
def r5_13 : List Co := [
  ⟨some 71, .move (.tmp 16), false, none, false, false, []⟩,
  ⟨some 72, .binOp .add 3 (.tmp 71) (.const (.int .i64 1)) 3, false, none, false, false, []⟩,
  ⟨some 16, .assign (.tmp 72), false, none, false, false, []⟩]
def l5_14 : Cc := (.seq (.seq (.reg r5_10) (.cond (.tmp 70) .skip (.exit 0))) (.seq (.block 1 (.seq (.reg r5_11) (.cond (.tmp 78) (.reg r5_12) .skip))) (.reg r5_13)))
def r5_15 : List Co := [
  ⟨some 81, .move (.tmp 10), false, none, false, false, []⟩,
  ⟨some 82, .binOp .eql 3 (.tmp 81) (.const (.int .i64 4)) 3, false, none, false, false, []⟩,
  ⟨some 83, .move (.tmp 82), false, none, false, false, []⟩,
  ⟨some 84, .move (.tmp 13), false, some (83, false), false, false, []⟩,
  ⟨some 85, .binOp .eql 3 (.tmp 84) (.const (.int .i64 4)) 3, false, some (83, false), false, false, []⟩,
  ⟨some 86, .pick (.tmp 83) (.const (.bool true)) (.tmp 85), false, none, false, false, []⟩,
  ⟨some 87, .move (.tmp 86), false, none, false, false, []⟩,
  ⟨some 88, .move (.tmp 15), false, some (87, false), false, false, []⟩,
  ⟨some 89, .binOp .gtr 3 (.tmp 88) (.const (.int .i64 1)) 3, false, some (87, false), false, false, []⟩,
  ⟨some 90, .pick (.tmp 87) (.const (.bool true)) (.tmp 89), false, none, false, false, []⟩]
def r5_16 : List Co := [
  ⟨some 91, .call ⟨.value (.func 11), #[], #[]⟩, false, none, false, false, []⟩,
  ⟨some 6, .assign (.tmp 91), false, none, false, false, []⟩]
def r5_17 : List Co := [
  ⟨some 92, .move (.tmp 9), false, none, false, false, []⟩,
  ⟨some 93, .convert 25 9 (.tmp 92), false, none, false, false, []⟩,
  ⟨some 94, .move (.tmp 12), false, none, false, false, []⟩,
  ⟨some 95, .convert 25 9 (.tmp 94), false, none, false, false, []⟩,
  ⟨some 96, .binOp .eql 9 (.tmp 93) (.tmp 95) 9, false, none, false, false, []⟩,
  ⟨some 97, .move (.tmp 96), false, none, false, false, []⟩,
  ⟨some 98, .move (.tmp 10), false, some (97, true), false, false, []⟩,
  ⟨some 99, .move (.tmp 13), false, some (97, true), false, false, []⟩,
  ⟨some 100, .binOp .eql 3 (.tmp 98) (.tmp 99) 3, false, some (97, true), false, false, []⟩,
  ⟨some 101, .pick (.tmp 97) (.tmp 100) (.const (.bool false)), false, none, false, false, []⟩,
  ⟨some 102, .move (.tmp 101), false, none, false, false, []⟩,
  ⟨some 103, .call ⟨.value (.func 11), #[], #[]⟩, false, some (102, true), false, false, []⟩,
  ⟨some 104, .pick (.tmp 102) (.tmp 103) (.const (.bool false)), false, none, false, false, []⟩,
  ⟨some 6, .assign (.tmp 104), false, none, false, false, []⟩]
/-- wireglass/wireglasslaw18.FragAlike -/
def c5 : Cc := (.seq (.reg r5_0) (.seq (.seq (.reg r5_1) (.cond (.tmp 28) (.seq (.reg r5_2) .ret) .skip)) (.seq (.reg r5_3) (.seq (.reg r5_4) (.seq (.reg r5_5) (.seq (.seq (.reg r5_6) (.cond (.tmp 65) (.seq (.reg r5_7) .ret) .skip)) (.seq (.reg r5_8) (.seq (.seq (.reg r5_9) (.block 0 (.loop l5_14))) (.seq (.seq (.reg r5_15) (.cond (.tmp 90) (.seq (.reg r5_16) .ret) .skip)) (.seq (.reg r5_17) .ret))))))))))
def r7_0 : List Co := [
  ⟨some 6, .assign (.const (.bool false)), false, none, false, false, []⟩]
def r7_1 : List Co := [
  ⟨some 18, .move (.tmp 0), false, none, false, false, []⟩,
  ⟨some 19, .call ⟨.builtin .len, #[(.tmp 18)], #[25]⟩, false, none, false, false, []⟩,
  ⟨some 20, .binOp .gtr 3 (.tmp 19) (.const (.int .i64 32768)) 3, false, none, false, false, []⟩,
  ⟨some 21, .move (.tmp 20), false, none, false, false, []⟩,
  ⟨some 22, .move (.tmp 2), false, some (21, false), false, false, []⟩,
  ⟨some 23, .call ⟨.builtin .len, #[(.tmp 22)], #[34]⟩, false, some (21, false), false, false, []⟩,
  ⟨some 24, .binOp .gtr 3 (.tmp 23) (.const (.int .i64 32768)) 3, false, some (21, false), false, false, []⟩,
  ⟨some 25, .pick (.tmp 21) (.const (.bool true)) (.tmp 24), false, none, false, false, []⟩]
def r7_2 : List Co := [
  ⟨some 26, .call ⟨.value (.func 11), #[], #[]⟩, false, none, false, false, []⟩,
  ⟨some 6, .assign (.tmp 26), false, none, false, false, []⟩]
def r7_3 : List Co := [
  ⟨some 28, .move (.tmp 0), false, none, false, false, []⟩,
  ⟨some 29, .move (.tmp 1), false, none, false, false, []⟩,
  ⟨some 30, .call ⟨.value (.func 18), #[(.const (.int .i64 7)), (.tmp 28), (.tmp 29), (.const (.int .i64 0))], #[3, 25, 3, 3]⟩, false, none, false, false, []⟩,
  ⟨some 27, .move (.tmp 30), false, none, false, false, []⟩,
  ⟨some 31, .extract (.tmp 27) 0, false, none, false, false, []⟩,
  ⟨some 32, .extract (.tmp 27) 1, false, none, false, false, []⟩,
  ⟨some 7, .assign (.tmp 31), false, none, false, false, []⟩,
  ⟨some 8, .assign (.tmp 32), false, none, false, false, []⟩]
def r7_4 : List Co := [
  ⟨some 33, .move (.tmp 8), false, none, false, false, []⟩,
  ⟨some 34, .binOp .neq 26 (.tmp 33) (.const (.int .i64 0)) 26, false, none, false, false, []⟩]
def r7_5 : List Co := [
  ⟨some 35, .call ⟨.value (.func 11), #[], #[]⟩, false, none, false, false, []⟩,
  ⟨some 6, .assign (.tmp 35), false, none, false, false, []⟩]
def r7_6 : List Co := [
  ⟨some 36, .move (.tmp 7), false, none, false, false, []⟩,
  ⟨some 37, .call ⟨.builtin .len, #[(.tmp 36)], #[22]⟩, false, none, false, false, []⟩,
  ⟨some 38, .binOp .eql 3 (.tmp 37) (.const (.int .i64 0)) 3, false, none, false, false, []⟩]
def r7_7 : List Co := [
  ⟨some 6, .assign (.const (.bool false)), false, none, false, false, []⟩]
def r7_8 : List Co := [
  ⟨some 39, .move (.tmp 7), false, none, false, false, []⟩,
  ⟨some 40, .move (.tmp 2), false, none, false, false, []⟩,
  ⟨some 41, .call ⟨.value (.func 17), #[(.tmp 39), (.tmp 40)], #[22, 34]⟩, false, none, false, false, []⟩,
  ⟨some 9, .assign (.tmp 41), false, none, false, false, []⟩]
def r7_9 : List Co := [
  ⟨some 42, .move (.tmp 9), false, none, false, false, []⟩,
  ⟨some 43, .move (.tmp 9), false, none, false, false, []⟩,
  ⟨some 44, .call ⟨.builtin .len, #[(.tmp 43)], #[22]⟩, false, none, false, false, []⟩,
  ⟨some 45, .binOp .quo 3 (.tmp 44) (.const (.int .i64 2)) 3, false, none, false, false, []⟩,
  ⟨some 46, .slice 22 (.tmp 42) none (some (.tmp 45)) none, false, none, false, false, []⟩,
  ⟨some 47, .call ⟨.builtin .append, #[(.const (.slice none 0 0)), (.tmp 46)], #[22, 22]⟩, false, none, false, false, []⟩,
  ⟨some 48, .move (.tmp 9), false, none, false, false, []⟩,
  ⟨some 49, .call ⟨.builtin .append, #[(.tmp 47), (.tmp 48)], #[22, 22]⟩, false, none, false, false, []⟩,
  ⟨some 10, .assign (.tmp 49), false, none, false, false, []⟩]
def r7_10 : List Co := [
  ⟨some 11, .assign (.const (.int .i64 0)), false, none, false, false, []⟩]
def r7_11 : List Co := [
  ⟨some 50, .move (.tmp 11), false, none, false, false, []⟩,
  ⟨some 51, .binOp .leq 3 (.tmp 50) (.const (.int .i64 3)) 3, false, none, false, false, []⟩]
def r7_12 : List Co := [
  ⟨some 55, .move (.tmp 9), false, none, false, false, []⟩,
  ⟨some 56, .move (.tmp 11), false, none, false, false, []⟩,
  ⟨some 57, .call ⟨.value (.func 12), #[(.tmp 55), (.tmp 56)], #[22, 3]⟩, false, none, false, false, []⟩,
  ⟨some 54, .move (.tmp 57), false, none, false, false, []⟩,
  ⟨some 58, .extract (.tmp 54) 0, false, none, false, false, []⟩,
  ⟨some 59, .extract (.tmp 54) 1, false, none, false, false, []⟩,
  ⟨some 60, .extract (.tmp 54) 2, false, none, false, false, []⟩,
  ⟨some 12, .assign (.tmp 58), false, none, false, false, []⟩,
  ⟨some 13, .assign (.tmp 59), false, none, false, false, []⟩,
  ⟨some 14, .assign (.tmp 60), false, none, false, false, []⟩]
def r7_13 : List Co := [
  ⟨some 62, .move (.tmp 10), false, none, false, false, []⟩,
  ⟨some 63, .move (.tmp 11), false, none, false, false, []⟩,
  ⟨some 64, .call ⟨.value (.func 12), #[(.tmp 62), (.tmp 63)], #[22, 3]⟩, false, none, false, false, []⟩,
  ⟨some 61, .move (.tmp 64), false, none, false, false, []⟩,
  ⟨some 65, .extract (.tmp 61) 0, false, none, false, false, []⟩,
  ⟨some 66, .extract (.tmp 61) 1, false, none, false, false, []⟩,
  ⟨some 67, .extract (.tmp 61) 2, false, none, false, false, []⟩,
  ⟨some 15, .assign (.tmp 65), false, none, false, false, []⟩,
  ⟨some 16, .assign (.tmp 66), false, none, false, false, []⟩,
  ⟨some 17, .assign (.tmp 67), false, none, false, false, []⟩]
def r7_14 : List Co := [
  ⟨some 68, .move (.tmp 12), false, none, false, false, []⟩,
  ⟨some 69, .convert 25 9 (.tmp 68), false, none, false, false, []⟩,
  ⟨some 70, .move (.tmp 0), false, none, false, false, []⟩,
  ⟨some 71, .convert 25 9 (.tmp 70), false, none, false, false, []⟩,
  ⟨some 72, .binOp .neq 9 (.tmp 69) (.tmp 71) 9, false, none, false, false, []⟩,
  ⟨some 73, .move (.tmp 72), false, none, false, false, []⟩,
  ⟨some 74, .move (.tmp 13), false, some (73, false), false, false, []⟩,
  ⟨some 75, .binOp .neq 3 (.tmp 74) (.const (.int .i64 1)) 3, false, some (73, false), false, false, []⟩,
  ⟨some 76, .pick (.tmp 73) (.const (.bool true)) (.tmp 75), false, none, false, false, []⟩,
  ⟨some 77, .move (.tmp 76), false, none, false, false, []⟩,
  ⟨some 78, .move (.tmp 14), false, some (77, false), false, false, []⟩,
  ⟨some 79, .binOp .neq 26 (.tmp 78) (.const (.int .i64 0)) 26, false, some (77, false), false, false, []⟩,
  ⟨some 80, .pick (.tmp 77) (.const (.bool true)) (.tmp 79), false, none, false, false, []⟩,
  ⟨some 81, .move (.tmp 80), false, none, false, false, []⟩,
  ⟨some 82, .move (.tmp 15), false, some (81, false), false, false, []⟩,
  ⟨some 83, .convert 25 9 (.tmp 82), false, some (81, false), false, false, []⟩,
  ⟨some 84, .move (.tmp 0), false, some (81, false), false, false, []⟩,
  ⟨some 85, .convert 25 9 (.tmp 84), false, some (81, false), false, false, []⟩,
  ⟨some 86, .binOp .neq 9 (.tmp 83) (.tmp 85) 9, false, some (81, false), false, false, []⟩,
  ⟨some 87, .pick (.tmp 81) (.const (.bool true)) (.tmp 86), false, none, false, false, []⟩,
  ⟨some 88, .move (.tmp 87), false, none, false, false, []⟩,
  ⟨some 89, .move (.tmp 16), false, some (88, false), false, false, []⟩,
  ⟨some 90, .binOp .neq 3 (.tmp 89) (.const (.int .i64 1)) 3, false, some (88, false), false, false, []⟩,
  ⟨some 91, .pick (.tmp 88) (.const (.bool true)) (.tmp 90), false, none, false, false, []⟩,
  ⟨some 92, .move (.tmp 91), false, none, false, false, []⟩,
  ⟨some 93, .move (.tmp 17), false, some (92, false), false, false, []⟩,
  ⟨some 94, .binOp .neq 26 (.tmp 93) (.const (.int .i64 0)) 26, false, some (92, false), false, false, []⟩,
  ⟨some 95, .pick (.tmp 92) (.const (.bool true)) (.tmp 94), false, none, false, false, []⟩]
def r7_15 : List Co := [
  ⟨some 6, .assign (.const (.bool false)), false, none, false, false, []⟩]
def r7_16 : List Co := [
  ⟨some 52, .move (.tmp 11), false, none, false, false, []⟩,
  ⟨some 53, .binOp .add 3 (.tmp 52) (.const (.int .i64 1)) 3, false, none, false, false, []⟩,
  ⟨some 11, .assign (.tmp 53), false, none, false, false, []⟩]
def l7_17 : Cc := (.seq (.seq (.reg r7_11) (.cond (.tmp 51) .skip (.exit 0))) (.seq (.block 1 (.seq (.reg r7_12) (.seq (.reg r7_13) (.seq (.reg r7_14) (.cond (.tmp 95) (.seq (.reg r7_15) .ret) .skip))))) (.reg r7_16)))
def r7_18 : List Co := [
  ⟨some 96, .call ⟨.value (.func 11), #[], #[]⟩, false, none, false, false, []⟩,
  ⟨some 6, .assign (.tmp 96), false, none, false, false, []⟩]
/-- wireglass/wireglasslaw18.FragOrders -/
def c7 : Cc := (.seq (.reg r7_0) (.seq (.seq (.reg r7_1) (.cond (.tmp 25) (.seq (.reg r7_2) .ret) .skip)) (.seq (.reg r7_3) (.seq (.seq (.reg r7_4) (.cond (.tmp 34) (.seq (.reg r7_5) .ret) .skip)) (.seq (.seq (.reg r7_6) (.cond (.tmp 38) (.seq (.reg r7_7) .ret) .skip)) (.seq (.reg r7_8) (.seq (.reg r7_9) (.seq (.seq (.reg r7_10) (.block 0 (.loop l7_17))) (.seq (.reg r7_18) .ret)))))))))
def r10_0 : List Co := [
  ⟨some 2, .assign (.const (.bool false)), false, none, false, false, []⟩]
def r10_1 : List Co := [
  ⟨some 5, .move (.tmp 0), false, none, false, false, []⟩,
  ⟨some 6, .call ⟨.builtin .len, #[(.tmp 5)], #[22]⟩, false, none, false, false, []⟩,
  ⟨some 7, .binOp .mul 3 (.const (.int .i64 4)) (.tmp 6) 3, false, none, false, false, []⟩,
  ⟨some 3, .assign (.tmp 7), false, none, false, false, []⟩]
def r10_2 : List Co := [
  ⟨some 4, .assign (.const (.int .i64 0)), false, none, false, false, []⟩]
def r10_3 : List Co := [
  ⟨some 8, .move (.tmp 4), false, none, false, false, []⟩,
  ⟨some 9, .move (.tmp 0), false, none, false, false, []⟩,
  ⟨some 10, .call ⟨.builtin .len, #[(.tmp 9)], #[22]⟩, false, none, false, false, []⟩,
  ⟨some 11, .binOp .lss 3 (.tmp 8) (.tmp 10) 3, false, none, false, false, []⟩]
def r10_4 : List Co := [
  ⟨some 14, .move (.tmp 3), false, none, false, false, []⟩,
  ⟨some 15, .move (.tmp 0), false, none, false, false, []⟩,
  ⟨some 16, .move (.tmp 4), false, none, false, false, []⟩,
  ⟨some 17, .indexAddr 22 (.tmp 15) (.tmp 16), false, none, false, false, []⟩,
  ⟨some 18, .fieldAddr 37 (.tmp 17) 3, false, none, false, false, []⟩,
  ⟨some 19, .load 25 (.tmp 18), false, none, false, false, []⟩,
  ⟨some 20, .call ⟨.builtin .len, #[(.tmp 19)], #[25]⟩, false, none, false, false, []⟩,
  ⟨some 21, .binOp .add 3 (.tmp 14) (.tmp 20) 3, false, none, false, false, []⟩,
  ⟨some 3, .assign (.tmp 21), false, none, false, false, []⟩]
def r10_5 : List Co := [
  ⟨some 12, .move (.tmp 4), false, none, false, false, []⟩,
  ⟨some 13, .binOp .add 3 (.tmp 12) (.const (.int .i64 1)) 3, false, none, false, false, []⟩,
  ⟨some 4, .assign (.tmp 13), false, none, false, false, []⟩]
def l10_6 : Cc := (.seq (.seq (.reg r10_3) (.cond (.tmp 11) .skip (.exit 0))) (.seq (.block 1 (.reg r10_4)) (.reg r10_5)))
def r10_7 : List Co := [
  ⟨some 22, .move (.tmp 3), false, none, false, false, []⟩,
  ⟨some 23, .binOp .gtr 3 (.tmp 22) (.const (.int .i64 32768)) 3, false, none, false, false, []⟩,
  ⟨some 2, .assign (.tmp 23), false, none, false, false, []⟩]
/-- wireglass/wireglasslaw18.over -/
def c10 : Cc := (.seq (.reg r10_0) (.seq (.reg r10_1) (.seq (.seq (.reg r10_2) (.block 0 (.loop l10_6))) (.seq (.reg r10_7) .ret))))
def r12_0 : List Co := [
  ⟨some 2, .box 22 (.tmp 0), false, none, false, false, []⟩,
  ⟨some 4, .assign (.const (.slice none 0 0)), false, none, false, false, []⟩,
  ⟨some 5, .assign (.const (.int .i64 0)), false, none, false, false, []⟩,
  ⟨some 6, .assign (.const (.int .i64 0)), false, none, false, false, []⟩]
def r12_1 : List Co := [
  ⟨some 15, .move (.tmp 1), false, none, false, false, []⟩,
  ⟨some 16, .call ⟨.value (.func 27), #[(.tmp 15)], #[3]⟩, false, none, false, false, []⟩,
  ⟨some 14, .move (.tmp 16), false, none, false, false, []⟩,
  ⟨some 17, .extract (.tmp 14) 0, false, none, false, false, []⟩,
  ⟨some 18, .extract (.tmp 14) 1, false, none, false, false, []⟩,
  ⟨some 7, .assign (.tmp 17), false, none, false, false, []⟩,
  ⟨some 8, .assign (.tmp 18), false, none, false, false, []⟩]
def r12_2 : List Co := [
  ⟨some 19, .move (.tmp 8), false, none, false, false, []⟩,
  ⟨some 20, .binOp .neq 26 (.tmp 19) (.const (.int .i64 0)) 26, false, none, false, false, []⟩]
def r12_3 : List Co := [
  ⟨some 21, .move (.tmp 8), false, none, false, false, []⟩,
  ⟨some 4, .assign (.const (.slice none 0 0)), false, none, false, false, []⟩,
  ⟨some 5, .assign (.const (.int .i64 0)), false, none, false, false, []⟩,
  ⟨some 6, .assign (.tmp 21), false, none, false, false, []⟩]
def r12_4 : List Co := [
  ⟨some 22, .load 22 (.tmp 2), false, none, false, false, []⟩,
  ⟨some 23, .makeFunc (.func 30) #[] #[(.tmp 2)], false, none, false, false, []⟩,
  ⟨some 24, .call ⟨.value (.func 29), #[(.tmp 22), (.tmp 23)], #[22, 63]⟩, false, none, false, false, []⟩]
def r12_5 : List Co := [
  ⟨some 4, .assign (.const (.slice none 0 0)), false, none, false, false, []⟩,
  ⟨some 5, .assign (.const (.int .i64 0)), false, none, false, false, []⟩,
  ⟨some 6, .assign (.const (.int .i64 10)), false, none, false, false, []⟩]
def r12_6 : List Co := [
  ⟨some 25, .load 22 (.tmp 2), false, none, false, false, []⟩,
  ⟨some 26, .call ⟨.builtin .len, #[(.tmp 25)], #[22]⟩, false, none, false, false, []⟩,
  ⟨some 27, .move (.const (.int .i64 0)), false, none, false, false, []⟩]
def r12_7 : List Co := [
  ⟨some 28, .binOp .lss 3 (.tmp 27) (.tmp 26) 3, false, none, false, false, []⟩]
def r12_8 : List Co := [
  ⟨some 29, .indexAddr 22 (.tmp 25) (.tmp 27), false, none, false, false, []⟩,
  ⟨some 30, .load 37 (.tmp 29), false, none, false, false, []⟩,
  ⟨some 10, .alloc 37, false, none, false, false, []⟩,
  ⟨none, .store 37 (.tmp 10) (.tmp 30), false, none, false, false, []⟩]
def r12_9 : List Co := [
  ⟨some 32, .move (.tmp 7), false, none, false, false, []⟩,
  ⟨some 33, .load 37 (.tmp 10), false, none, false, false, []⟩,
  ⟨some 34, .call ⟨.value (.func 22), #[(.tmp 32), (.tmp 33)], #[46, 37]⟩, false, none, false, false, []⟩,
  ⟨some 31, .move (.tmp 34), false, none, false, false, []⟩,
  ⟨some 35, .extract (.tmp 31) 0, false, none, false, false, []⟩,
  ⟨some 36, .extract (.tmp 31) 1, false, none, false, false, []⟩,
  ⟨some 37, .extract (.tmp 31) 2, false, none, false, false, []⟩,
  ⟨some 11, .assign (.tmp 35), false, none, false, false, []⟩,
  ⟨some 12, .assign (.tmp 36), false, none, false, false, []⟩,
  ⟨some 13, .assign (.tmp 37), false, none, false, false, []⟩]
def r12_10 : List Co := [
  ⟨some 38, .move (.tmp 13), false, none, false, false, []⟩,
  ⟨some 39, .binOp .neq 26 (.tmp 38) (.const (.int .i64 0)) 26, false, none, false, false, []⟩,
  ⟨some 40, .move (.tmp 39), false, none, false, false, []⟩,
  ⟨some 41, .move (.tmp 12), false, some (40, false), false, false, []⟩,
  ⟨some 42, .binOp .neq 3 (.tmp 41) (.const (.int .i64 0)) 3, false, some (40, false), false, false, []⟩,
  ⟨some 43, .move (.tmp 42), false, some (40, false), false, false, []⟩,
  ⟨some 44, .move (.tmp 12), false, some (43, true), false, false, []⟩,
  ⟨some 45, .binOp .neq 3 (.tmp 44) (.const (.int .i64 2)) 3, false, some (43, true), false, false, []⟩,
  ⟨some 46, .pick (.tmp 43) (.tmp 45) (.const (.bool false)), false, some (40, false), false, false, []⟩,
  ⟨some 47, .pick (.tmp 40) (.const (.bool true)) (.tmp 46), false, none, false, false, []⟩]
def r12_11 : List Co := [
  ⟨some 48, .move (.tmp 11), false, none, false, false, []⟩,
  ⟨some 49, .move (.tmp 12), false, none, false, false, []⟩,
  ⟨some 50, .move (.tmp 13), false, none, false, false, []⟩,
  ⟨some 4, .assign (.tmp 48), false, none, false, false, []⟩,
  ⟨some 5, .assign (.tmp 49), false, none, false, false, []⟩,
  ⟨some 6, .assign (.tmp 50), false, none, false, false, []⟩]
def r12_12 : List Co := [
  ⟨some 51, .binOp .add 3 (.tmp 27) (.const (.int .i64 1)) 3, false, none, false, false, []⟩,
  ⟨some 27, .move (.tmp 51), false, none, false, false, []⟩]
def l12_13 : Cc := (.seq (.reg r12_7) (.seq (.cond (.tmp 28) .skip (.exit 0)) (.seq (.block 1 (.seq (.reg r12_8) (.seq (.reg r12_9) (.seq (.reg r12_10) (.cond (.tmp 47) (.seq (.reg r12_11) .ret) .skip))))) (.reg r12_12))))
def r12_14 : List Co := [
  ⟨some 4, .assign (.const (.slice none 0 0)), false, none, false, false, []⟩,
  ⟨some 5, .assign (.const (.int .i64 0)), false, none, false, false, []⟩,
  ⟨some 6, .assign (.const (.int .i64 0)), false, none, false, false, []⟩]
/-- wireglass/frag.Whole -/
def c12 : Cc := (.seq (.reg r12_0) (.seq (.reg r12_1) (.seq (.seq (.reg r12_2) (.cond (.tmp 20) (.seq (.reg r12_3) .ret) .skip)) (.seq (.seq (.reg r12_4) (.cond (.tmp 24) (.seq (.reg r12_5) .ret) .skip)) (.seq (.seq (.reg r12_6) (.block 0 (.loop l12_13))) (.seq (.reg r12_14) .ret))))))
def r13_0 : List Co := [
  ⟨some 4, .assign (.const (.slice none 0 0)), false, none, false, false, []⟩,
  ⟨some 5, .assign (.const (.int .i64 0)), false, none, false, false, []⟩,
  ⟨some 6, .assign (.const (.int .i64 0)), false, none, false, false, []⟩]
def r13_1 : List Co := [
  ⟨some 15, .move (.tmp 1), false, none, false, false, []⟩,
  ⟨some 16, .call ⟨.value (.func 31), #[(.tmp 15)], #[3]⟩, false, none, false, false, []⟩,
  ⟨some 14, .move (.tmp 16), false, none, false, false, []⟩,
  ⟨some 17, .extract (.tmp 14) 0, false, none, false, false, []⟩,
  ⟨some 18, .extract (.tmp 14) 1, false, none, false, false, []⟩,
  ⟨some 7, .assign (.tmp 17), false, none, false, false, []⟩,
  ⟨some 8, .assign (.tmp 18), false, none, false, false, []⟩]
def r13_2 : List Co := [
  ⟨some 19, .move (.tmp 8), false, none, false, false, []⟩,
  ⟨some 20, .binOp .neq 26 (.tmp 19) (.const (.int .i64 0)) 26, false, none, false, false, []⟩]
def r13_3 : List Co := [
  ⟨some 21, .move (.tmp 8), false, none, false, false, []⟩,
  ⟨some 4, .assign (.const (.slice none 0 0)), false, none, false, false, []⟩,
  ⟨some 5, .assign (.const (.int .i64 0)), false, none, false, false, []⟩,
  ⟨some 6, .assign (.tmp 21), false, none, false, false, []⟩]
def r13_4 : List Co := [
  ⟨some 9, .assign (.const (.int .i64 0)), false, none, false, false, []⟩]
def r13_5 : List Co := [
  ⟨some 22, .move (.tmp 9), false, none, false, false, []⟩,
  ⟨some 23, .move (.tmp 0), false, none, false, false, []⟩,
  ⟨some 24, .call ⟨.builtin .len, #[(.tmp 23)], #[22]⟩, false, none, false, false, []⟩,
  ⟨some 25, .binOp .lss 3 (.tmp 22) (.tmp 24) 3, false, none, false, false, []⟩]
def r13_6 : List Co := [
  ⟨some 28, .move (.tmp 0), false, none, false, false, []⟩,
  ⟨some 29, .move (.tmp 9), false, none, false, false, []⟩,
  ⟨some 30, .indexAddr 22 (.tmp 28) (.tmp 29), false, none, false, false, []⟩,
  ⟨some 31, .fieldAddr 37 (.tmp 30) 0, false, none, false, false, []⟩,
  ⟨some 32, .load 3 (.tmp 31), false, none, false, false, []⟩,
  ⟨some 33, .move (.tmp 0), false, none, false, false, []⟩,
  ⟨some 34, .indexAddr 22 (.tmp 33) (.const (.int .i64 0)), false, none, false, false, []⟩,
  ⟨some 35, .fieldAddr 37 (.tmp 34) 0, false, none, false, false, []⟩,
  ⟨some 36, .load 3 (.tmp 35), false, none, false, false, []⟩,
  ⟨some 37, .binOp .neq 3 (.tmp 32) (.tmp 36) 3, false, none, false, false, []⟩]
def r13_7 : List Co := [
  ⟨some 4, .assign (.const (.slice none 0 0)), false, none, false, false, []⟩,
  ⟨some 5, .assign (.const (.int .i64 0)), false, none, false, false, []⟩,
  ⟨some 6, .assign (.const (.int .i64 10)), false, none, false, false, []⟩]
def r13_8 : List Co := [
  ⟨some 26, .move (.tmp 9), false, none, false, false, []⟩,
  ⟨some 27, .binOp .add 3 (.tmp 26) (.const (.int .i64 1)) 3, false, none, false, false, []⟩,
  ⟨some 9, .assign (.tmp 27), false, none, false, false, []⟩]
def l13_9 : Cc := (.seq (.seq (.reg r13_5) (.cond (.tmp 25) .skip (.exit 0))) (.seq (.block 1 (.seq (.reg r13_6) (.cond (.tmp 37) (.seq (.reg r13_7) .ret) .skip))) (.reg r13_8)))
def r13_10 : List Co := [
  ⟨some 10, .assign (.const (.int .i64 0)), false, none, false, false, []⟩]
def r13_11 : List Co := [
  ⟨some 38, .move (.tmp 10), false, none, false, false, []⟩,
  ⟨some 39, .move (.tmp 0), false, none, false, false, []⟩,
  ⟨some 40, .call ⟨.builtin .len, #[(.tmp 39)], #[22]⟩, false, none, false, false, []⟩,
  ⟨some 41, .binOp .lss 3 (.tmp 38) (.tmp 40) 3, false, none, false, false, []⟩]
def r13_12 : List Co := [
  ⟨some 45, .move (.tmp 7), false, none, false, false, []⟩,
  ⟨some 46, .move (.tmp 0), false, none, false, false, []⟩,
  ⟨some 47, .move (.tmp 10), false, none, false, false, []⟩,
  ⟨some 48, .indexAddr 22 (.tmp 46) (.tmp 47), false, none, false, false, []⟩,
  ⟨some 49, .load 37 (.tmp 48), false, none, false, false, []⟩,
  ⟨some 50, .call ⟨.value (.func 32), #[(.tmp 45), (.tmp 49)], #[47, 37]⟩, false, none, false, false, []⟩,
  ⟨some 44, .move (.tmp 50), false, none, false, false, []⟩,
  ⟨some 51, .extract (.tmp 44) 0, false, none, false, false, []⟩,
  ⟨some 52, .extract (.tmp 44) 1, false, none, false, false, []⟩,
  ⟨some 53, .extract (.tmp 44) 2, false, none, false, false, []⟩,
  ⟨some 11, .assign (.tmp 51), false, none, false, false, []⟩,
  ⟨some 12, .assign (.tmp 52), false, none, false, false, []⟩,
  ⟨some 13, .assign (.tmp 53), false, none, false, false, []⟩]
def r13_13 : List Co := [
  ⟨some 54, .move (.tmp 13), false, none, false, false, []⟩,
  ⟨some 55, .binOp .neq 26 (.tmp 54) (.const (.int .i64 0)) 26, false, none, false, false, []⟩]
def r13_14 : List Co := [
  ⟨some 56, .move (.tmp 13), false, none, false, false, []⟩,
  ⟨some 4, .assign (.const (.slice none 0 0)), false, none, false, false, []⟩,
  ⟨some 5, .assign (.const (.int .i64 0)), false, none, false, false, []⟩,
  ⟨some 6, .assign (.tmp 56), false, none, false, false, []⟩]
def r13_15 : List Co := [
  ⟨some 57, .move (.tmp 12), false, none, false, false, []⟩,
  ⟨some 58, .binOp .eql 3 (.tmp 57) (.const (.int .i64 1)) 3, false, none, false, false, []⟩,
  ⟨some 59, .move (.tmp 58), false, none, false, false, []⟩,
  ⟨some 60, .move (.tmp 12), false, some (59, false), false, false, []⟩,
  ⟨some 61, .binOp .eql 3 (.tmp 60) (.const (.int .i64 3)) 3, false, some (59, false), false, false, []⟩,
  ⟨some 62, .pick (.tmp 59) (.const (.bool true)) (.tmp 61), false, none, false, false, []⟩,
  ⟨some 63, .move (.tmp 62), false, none, false, false, []⟩,
  ⟨some 64, .move (.tmp 12), false, some (63, false), false, false, []⟩,
  ⟨some 65, .binOp .eql 3 (.tmp 64) (.const (.int .i64 4)) 3, false, some (63, false), false, false, []⟩,
  ⟨some 66, .pick (.tmp 63) (.const (.bool true)) (.tmp 65), false, none, false, false, []⟩]
def r13_16 : List Co := [
  ⟨some 67, .move (.tmp 11), false, none, false, false, []⟩,
  ⟨some 68, .move (.tmp 12), false, none, false, false, []⟩,
  ⟨some 4, .assign (.tmp 67), false, none, false, false, []⟩,
  ⟨some 5, .assign (.tmp 68), false, none, false, false, []⟩,
  ⟨some 6, .assign (.const (.int .i64 0)), false, none, false, false, []⟩]
def r13_17 : List Co := [
  ⟨some 42, .move (.tmp 10), false, none, false, false, []⟩,
  ⟨some 43, .binOp .add 3 (.tmp 42) (.const (.int .i64 1)) 3, false, none, false, false, []⟩,
  ⟨some 10, .assign (.tmp 43), false, none, false, false, []⟩]
def l13_18 : Cc := (.seq (.seq (.reg r13_11) (.cond (.tmp 41) .skip (.exit 2))) (.seq (.block 3 (.seq (.reg r13_12) (.seq (.seq (.reg r13_13) (.cond (.tmp 55) (.seq (.reg r13_14) .ret) .skip)) (.seq (.reg r13_15) (.cond (.tmp 66) (.seq (.reg r13_16) .ret) .skip))))) (.reg r13_17)))
def r13_19 : List Co := [
  ⟨some 4, .assign (.const (.slice none 0 0)), false, none, false, false, []⟩,
  ⟨some 5, .assign (.const (.int .i64 0)), false, none, false, false, []⟩,
  ⟨some 6, .assign (.const (.int .i64 0)), false, none, false, false, []⟩]
/-- wireglass/wireglassref18.Whole -/
def c13 : Cc := (.seq (.reg r13_0) (.seq (.reg r13_1) (.seq (.seq (.reg r13_2) (.cond (.tmp 20) (.seq (.reg r13_3) .ret) .skip)) (.seq (.seq (.reg r13_4) (.block 0 (.loop l13_9))) (.seq (.seq (.reg r13_10) (.block 2 (.loop l13_18))) (.seq (.reg r13_19) .ret))))))
def r14_0 : List Co := [
  ⟨some 2, .assign (.const (.slice none 0 0)), false, none, false, false, []⟩,
  ⟨some 3, .assign (.const (.int .i64 0)), false, none, false, false, []⟩]
def r14_1 : List Co := [
  ⟨some 9, .move (.tmp 0), false, none, false, false, []⟩,
  ⟨some 10, .call ⟨.value (.func 29), #[(.tmp 9), (.func 33)], #[22, 63]⟩, false, none, false, false, []⟩]
def r14_2 : List Co := [
  ⟨some 2, .assign (.const (.slice none 0 0)), false, none, false, false, []⟩,
  ⟨some 3, .assign (.const (.int .i64 1)), false, none, false, false, []⟩]
def r14_3 : List Co := [
  ⟨some 11, .move (.tmp 0), false, none, false, false, []⟩,
  ⟨some 12, .call ⟨.value (.func 29), #[(.tmp 11), (.func 35)], #[22, 63]⟩, false, none, false, false, []⟩,
  ⟨some 13, .move (.tmp 12), false, none, false, false, []⟩,
  ⟨some 14, .move (.tmp 0), false, some (13, false), false, false, []⟩,
  ⟨some 15, .call ⟨.builtin .len, #[(.tmp 14)], #[22]⟩, false, some (13, false), false, false, []⟩,
  ⟨some 16, .binOp .gtr 3 (.tmp 15) (.const (.int .i64 200)) 3, false, some (13, false), false, false, []⟩,
  ⟨some 17, .pick (.tmp 13) (.const (.bool true)) (.tmp 16), false, none, false, false, []⟩]
def r14_4 : List Co := [
  ⟨some 2, .assign (.const (.slice none 0 0)), false, none, false, false, []⟩,
  ⟨some 3, .assign (.const (.int .i64 3)), false, none, false, false, []⟩]
def r14_5 : List Co := [
  ⟨some 4, .assign (.const (.slice none 0 0)), false, none, false, false, []⟩]
def r14_6 : List Co := [
  ⟨some 18, .move (.tmp 0), false, none, false, false, []⟩,
  ⟨some 19, .call ⟨.builtin .len, #[(.tmp 18)], #[22]⟩, false, none, false, false, []⟩,
  ⟨some 20, .move (.const (.int .i64 0)), false, none, false, false, []⟩]
def r14_7 : List Co := [
  ⟨some 21, .binOp .lss 3 (.tmp 20) (.tmp 19) 3, false, none, false, false, []⟩]
def r14_8 : List Co := [
  ⟨some 22, .move (.tmp 20), false, none, false, false, []⟩,
  ⟨some 23, .indexAddr 22 (.tmp 18) (.tmp 20), false, none, false, false, []⟩,
  ⟨some 24, .load 37 (.tmp 23), false, none, false, false, []⟩,
  ⟨some 6, .alloc 37, false, none, false, false, []⟩,
  ⟨some 5, .assign (.tmp 22), false, none, false, false, []⟩,
  ⟨none, .store 37 (.tmp 6) (.tmp 24), false, none, false, false, []⟩]
def r14_9 : List Co := [
  ⟨some 25, .move (.tmp 5), false, none, false, false, []⟩,
  ⟨some 26, .binOp .add 3 (.tmp 25) (.const (.int .i64 1)) 3, false, none, false, false, []⟩,
  ⟨some 7, .assign (.tmp 26), false, none, false, false, []⟩]
def r14_10 : List Co := [
  ⟨some 27, .move (.tmp 7), false, none, false, false, []⟩,
  ⟨some 28, .move (.tmp 0), false, none, false, false, []⟩,
  ⟨some 29, .call ⟨.builtin .len, #[(.tmp 28)], #[22]⟩, false, none, false, false, []⟩,
  ⟨some 30, .binOp .lss 3 (.tmp 27) (.tmp 29) 3, false, none, false, false, []⟩]
def r14_11 : List Co := [
  ⟨some 33, .move (.tmp 0), false, none, false, false, []⟩,
  ⟨some 34, .move (.tmp 7), false, none, false, false, []⟩,
  ⟨some 35, .indexAddr 22 (.tmp 33) (.tmp 34), false, none, false, false, []⟩,
  ⟨some 36, .load 37 (.tmp 35), false, none, false, false, []⟩,
  ⟨some 8, .alloc 37, false, none, false, false, []⟩,
  ⟨none, .store 37 (.tmp 8) (.tmp 36), false, none, false, false, []⟩]
def r14_12 : List Co := [
  ⟨some 37, .fieldAddr 37 (.tmp 6) 0, false, none, false, false, []⟩,
  ⟨some 38, .load 3 (.tmp 37), false, none, false, false, []⟩,
  ⟨some 39, .fieldAddr 37 (.tmp 8) 0, false, none, false, false, []⟩,
  ⟨some 40, .load 3 (.tmp 39), false, none, false, false, []⟩,
  ⟨some 41, .binOp .eql 3 (.tmp 38) (.tmp 40) 3, false, none, false, false, []⟩,
  ⟨some 42, .move (.tmp 41), false, none, false, false, []⟩,
  ⟨some 43, .fieldAddr 37 (.tmp 6) 1, false, some (42, true), false, false, []⟩,
  ⟨some 44, .load 3 (.tmp 43), false, some (42, true), false, false, []⟩,
  ⟨some 45, .fieldAddr 37 (.tmp 8) 1, false, some (42, true), false, false, []⟩,
  ⟨some 46, .load 3 (.tmp 45), false, some (42, true), false, false, []⟩,
  ⟨some 47, .call ⟨.builtin .max, #[(.tmp 44), (.tmp 46)], #[3, 3]⟩, false, some (42, true), false, false, []⟩,
  ⟨some 48, .fieldAddr 37 (.tmp 6) 1, false, some (42, true), false, false, []⟩,
  ⟨some 49, .load 3 (.tmp 48), false, some (42, true), false, false, []⟩,
  ⟨some 50, .fieldAddr 37 (.tmp 6) 3, false, some (42, true), false, false, []⟩,
  ⟨some 51, .load 25 (.tmp 50), false, some (42, true), false, false, []⟩,
  ⟨some 52, .call ⟨.builtin .len, #[(.tmp 51)], #[25]⟩, false, some (42, true), false, false, []⟩,
  ⟨some 53, .binOp .add 3 (.tmp 49) (.tmp 52) 3, false, some (42, true), false, false, []⟩,
  ⟨some 54, .fieldAddr 37 (.tmp 8) 1, false, some (42, true), false, false, []⟩,
  ⟨some 55, .load 3 (.tmp 54), false, some (42, true), false, false, []⟩,
  ⟨some 56, .fieldAddr 37 (.tmp 8) 3, false, some (42, true), false, false, []⟩,
  ⟨some 57, .load 25 (.tmp 56), false, some (42, true), false, false, []⟩,
  ⟨some 58, .call ⟨.builtin .len, #[(.tmp 57)], #[25]⟩, false, some (42, true), false, false, []⟩,
  ⟨some 59, .binOp .add 3 (.tmp 55) (.tmp 58) 3, false, some (42, true), false, false, []⟩,
  ⟨some 60, .call ⟨.builtin .min, #[(.tmp 53), (.tmp 59)], #[3, 3]⟩, false, some (42, true), false, false, []⟩,
  ⟨some 61, .binOp .lss 3 (.tmp 47) (.tmp 60) 3, false, some (42, true), false, false, []⟩,
  ⟨some 62, .pick (.tmp 42) (.tmp 61) (.const (.bool false)), false, none, false, false, []⟩]
def r14_13 : List Co := [
  ⟨some 63, .move (.tmp 4), false, none, false, false, []⟩,
  ⟨some 64, .move (.tmp 5), false, none, false, false, []⟩,
  ⟨some 65, .move (.tmp 7), false, none, false, false, []⟩,
  ⟨some 66, .build 39 #[(0, (.tmp 64)), (1, (.tmp 65))], false, none, false, false, []⟩,
  ⟨some 67, .buildSlice 30 1 #[(0, (.tmp 66))], true, none, false, false, []⟩,
  ⟨some 68, .call ⟨.builtin .append, #[(.tmp 63), (.tmp 67)], #[30, 30]⟩, false, none, false, false, []⟩,
  ⟨some 4, .assign (.tmp 68), false, none, false, false, []⟩]
def r14_14 : List Co := [
  ⟨some 31, .move (.tmp 7), false, none, false, false, []⟩,
  ⟨some 32, .binOp .add 3 (.tmp 31) (.const (.int .i64 1)) 3, false, none, false, false, []⟩,
  ⟨some 7, .assign (.tmp 32), false, none, false, false, []⟩]
def l14_15 : Cc := (.seq (.seq (.reg r14_10) (.cond (.tmp 30) .skip (.exit 2))) (.seq (.block 3 (.seq (.reg r14_11) (.seq (.reg r14_12) (.cond (.tmp 62) (.reg r14_13) .skip)))) (.reg r14_14)))
def r14_16 : List Co := [
  ⟨some 69, .binOp .add 3 (.tmp 20) (.const (.int .i64 1)) 3, false, none, false, false, []⟩,
  ⟨some 20, .move (.tmp 69), false, none, false, false, []⟩]
def l14_17 : Cc := (.seq (.reg r14_7) (.seq (.cond (.tmp 21) .skip (.exit 0)) (.seq (.block 1 (.seq (.reg r14_8) (.seq (.reg r14_9) (.block 2 (.loop l14_15))))) (.reg r14_16))))
def r14_18 : List Co := [
  ⟨some 70, .move (.tmp 4), false, none, false, false, []⟩,
  ⟨some 2, .assign (.tmp 70), false, none, false, false, []⟩,
  ⟨some 3, .assign (.const (.int .i64 0)), false, none, false, false, []⟩]
/-- wireglass/frag.Overlaps -/
def c14 : Cc := (.seq (.reg r14_0) (.seq (.seq (.reg r14_1) (.cond (.tmp 10) (.seq (.reg r14_2) .ret) .skip)) (.seq (.seq (.reg r14_3) (.cond (.tmp 17) (.seq (.reg r14_4) .ret) .skip)) (.seq (.reg r14_5) (.seq (.seq (.reg r14_6) (.block 0 (.loop l14_17))) (.seq (.reg r14_18) .ret))))))
def r17_0 : List Co := [
  ⟨some 4, .assign (.const (.slice none 0 0)), false, none, false, false, []⟩]
def r17_1 : List Co := [
  ⟨some 9, .move (.tmp 0), false, none, false, false, []⟩,
  ⟨some 10, .call ⟨.builtin .append, #[(.const (.slice none 0 0)), (.tmp 9)], #[22, 22]⟩, false, none, false, false, []⟩,
  ⟨some 5, .assign (.tmp 10), false, none, false, false, []⟩]
def r17_2 : List Co := [
  ⟨some 6, .assign (.const (.slice none 0 0)), false, none, false, false, []⟩]
def r17_3 : List Co := [
  ⟨some 7, .assign (.const (.int .i64 0)), false, none, false, false, []⟩]
def r17_4 : List Co := [
  ⟨some 11, .move (.tmp 5), false, none, false, false, []⟩,
  ⟨some 12, .call ⟨.builtin .len, #[(.tmp 11)], #[22]⟩, false, none, false, false, []⟩,
  ⟨some 13, .binOp .gtr 3 (.tmp 12) (.const (.int .i64 0)) 3, false, none, false, false, []⟩]
def r17_5 : List Co := [
  ⟨some 8, .assign (.const (.int .i64 0)), false, none, false, false, []⟩]
def r17_6 : List Co := [
  ⟨some 16, .move (.tmp 1), false, none, false, false, []⟩,
  ⟨some 17, .call ⟨.builtin .len, #[(.tmp 16)], #[34]⟩, false, none, false, false, []⟩,
  ⟨some 18, .binOp .gtr 3 (.tmp 17) (.const (.int .i64 0)) 3, false, none, false, false, []⟩]
def r17_7 : List Co := [
  ⟨some 19, .move (.tmp 1), false, none, false, false, []⟩,
  ⟨some 20, .move (.tmp 7), false, none, false, false, []⟩,
  ⟨some 21, .move (.tmp 1), false, none, false, false, []⟩,
  ⟨some 22, .call ⟨.builtin .len, #[(.tmp 21)], #[34]⟩, false, none, false, false, []⟩,
  ⟨some 23, .binOp .rem 3 (.tmp 20) (.tmp 22) 3, false, none, false, false, []⟩,
  ⟨some 24, .indexAddr 34 (.tmp 19) (.tmp 23), false, none, false, false, []⟩,
  ⟨some 25, .load 3 (.tmp 24), false, none, false, false, []⟩,
  ⟨some 26, .move (.tmp 5), false, none, false, false, []⟩,
  ⟨some 27, .call ⟨.builtin .len, #[(.tmp 26)], #[22]⟩, false, none, false, false, []⟩,
  ⟨some 28, .binOp .rem 3 (.tmp 25) (.tmp 27) 3, false, none, false, false, []⟩,
  ⟨some 29, .move (.tmp 5), false, none, false, false, []⟩,
  ⟨some 30, .call ⟨.builtin .len, #[(.tmp 29)], #[22]⟩, false, none, false, false, []⟩,
  ⟨some 31, .binOp .add 3 (.tmp 28) (.tmp 30) 3, false, none, false, false, []⟩,
  ⟨some 32, .move (.tmp 5), false, none, false, false, []⟩,
  ⟨some 33, .call ⟨.builtin .len, #[(.tmp 32)], #[22]⟩, false, none, false, false, []⟩,
  ⟨some 34, .binOp .rem 3 (.tmp 31) (.tmp 33) 3, false, none, false, false, []⟩,
  ⟨some 8, .assign (.tmp 34), false, none, false, false, []⟩]
def r17_8 : List Co := [
  ⟨some 35, .move (.tmp 6), false, none, false, false, []⟩,
  ⟨some 36, .move (.tmp 5), false, none, false, false, []⟩,
  ⟨some 37, .move (.tmp 8), false, none, false, false, []⟩,
  ⟨some 38, .indexAddr 22 (.tmp 36) (.tmp 37), false, none, false, false, []⟩,
  ⟨some 39, .load 37 (.tmp 38), false, none, false, false, []⟩,
  ⟨some 40, .buildSlice 22 1 #[(0, (.tmp 39))], false, none, false, false, []⟩,
  ⟨some 41, .call ⟨.builtin .append, #[(.tmp 35), (.tmp 40)], #[22, 22]⟩, false, none, false, false, []⟩,
  ⟨some 6, .assign (.tmp 41), false, none, false, false, []⟩]
def r17_9 : List Co := [
  ⟨some 42, .move (.tmp 5), false, none, false, false, []⟩,
  ⟨some 43, .move (.tmp 8), false, none, false, false, []⟩,
  ⟨some 44, .slice 22 (.tmp 42) none (some (.tmp 43)) none, false, none, false, false, []⟩,
  ⟨some 45, .move (.tmp 5), false, none, false, false, []⟩,
  ⟨some 46, .move (.tmp 8), false, none, false, false, []⟩,
  ⟨some 47, .binOp .add 3 (.tmp 46) (.const (.int .i64 1)) 3, false, none, false, false, []⟩,
  ⟨some 48, .slice 22 (.tmp 45) (some (.tmp 47)) none none, false, none, false, false, []⟩,
  ⟨some 49, .call ⟨.builtin .append, #[(.tmp 44), (.tmp 48)], #[22, 22]⟩, false, none, false, false, []⟩,
  ⟨some 5, .assign (.tmp 49), false, none, false, false, []⟩]
def r17_10 : List Co := [
  ⟨some 14, .move (.tmp 7), false, none, false, false, []⟩,
  ⟨some 15, .binOp .add 3 (.tmp 14) (.const (.int .i64 1)) 3, false, none, false, false, []⟩,
  ⟨some 7, .assign (.tmp 15), false, none, false, false, []⟩]
def l17_11 : Cc := (.seq (.seq (.reg r17_4) (.cond (.tmp 13) .skip (.exit 0))) (.seq (.block 1 (.seq (.reg r17_5) (.seq (.seq (.reg r17_6) (.cond (.tmp 18) (.reg r17_7) .skip)) (.seq (.reg r17_8) (.reg r17_9))))) (.reg r17_10)))
def r17_12 : List Co := [
  ⟨some 50, .move (.tmp 6), false, none, false, false, []⟩,
  ⟨some 4, .assign (.tmp 50), false, none, false, false, []⟩]
/-- wireglass/wireglasslaw18.turned -/
def c17 : Cc := (.seq (.reg r17_0) (.seq (.reg r17_1) (.seq (.reg r17_2) (.seq (.seq (.reg r17_3) (.block 0 (.loop l17_11))) (.seq (.reg r17_12) .ret)))))
def r18_0 : List Co := [
  ⟨some 8, .assign (.const (.slice none 0 0)), false, none, false, false, []⟩,
  ⟨some 9, .assign (.const (.int .i64 0)), false, none, false, false, []⟩]
def r18_1 : List Co := [
  ⟨some 15, .move (.tmp 2), false, none, false, false, []⟩,
  ⟨some 16, .binOp .lss 3 (.tmp 15) (.const (.int .i64 1)) 3, false, none, false, false, []⟩,
  ⟨some 17, .move (.tmp 16), false, none, false, false, []⟩,
  ⟨some 18, .move (.tmp 2), false, some (17, false), false, false, []⟩,
  ⟨some 19, .binOp .gtr 3 (.tmp 18) (.const (.int .i64 4000)) 3, false, some (17, false), false, false, []⟩,
  ⟨some 20, .pick (.tmp 17) (.const (.bool true)) (.tmp 19), false, none, false, false, []⟩,
  ⟨some 14, .assign (.tmp 20), false, none, false, false, []⟩]
def r18_2 : List Co := [
  ⟨some 8, .assign (.const (.slice none 0 0)), false, none, false, false, []⟩,
  ⟨some 9, .assign (.const (.int .i64 1)), false, none, false, false, []⟩]
def r18_3 : List Co := [
  ⟨some 22, .move (.tmp 1), false, none, false, false, []⟩,
  ⟨some 23, .call ⟨.builtin .len, #[(.tmp 22)], #[25]⟩, false, none, false, false, []⟩,
  ⟨some 24, .binOp .gtr 3 (.tmp 23) (.const (.int .i64 4000)) 3, false, none, false, false, []⟩,
  ⟨some 25, .move (.tmp 24), false, none, false, false, []⟩,
  ⟨some 26, .move (.tmp 1), false, some (25, false), false, false, []⟩,
  ⟨some 27, .call ⟨.builtin .len, #[(.tmp 26)], #[25]⟩, false, some (25, false), false, false, []⟩,
  ⟨some 28, .move (.tmp 2), false, some (25, false), false, false, []⟩,
  ⟨some 29, .binOp .add 3 (.tmp 27) (.tmp 28) 3, false, some (25, false), false, false, []⟩,
  ⟨some 30, .binOp .sub 3 (.tmp 29) (.const (.int .i64 1)) 3, false, some (25, false), false, false, []⟩,
  ⟨some 31, .move (.tmp 2), false, some (25, false), false, false, []⟩,
  ⟨some 32, .binOp .quo 3 (.tmp 30) (.tmp 31) 3, false, some (25, false), false, false, []⟩,
  ⟨some 33, .binOp .gtr 3 (.tmp 32) (.const (.int .i64 200)) 3, false, some (25, false), false, false, []⟩,
  ⟨some 34, .pick (.tmp 25) (.const (.bool true)) (.tmp 33), false, none, false, false, []⟩,
  ⟨some 21, .assign (.tmp 34), false, none, false, false, []⟩]
def r18_4 : List Co := [
  ⟨some 8, .assign (.const (.slice none 0 0)), false, none, false, false, []⟩,
  ⟨some 9, .assign (.const (.int .i64 3)), false, none, false, false, []⟩]
def r18_5 : List Co := [
  ⟨some 36, .move (.tmp 0), false, none, false, false, []⟩,
  ⟨some 37, .move (.tmp 3), false, none, false, false, []⟩,
  ⟨some 38, .build 37 #[(0, (.tmp 36)), (4, (.tmp 37))], false, none, false, false, []⟩,
  ⟨some 39, .call ⟨.value (.func 34), #[(.tmp 38)], #[37]⟩, false, none, false, false, []⟩,
  ⟨some 40, .unOp .not 4 (.tmp 39), false, none, false, false, []⟩,
  ⟨some 35, .assign (.tmp 40), false, none, false, false, []⟩]
def r18_6 : List Co := [
  ⟨some 8, .assign (.const (.slice none 0 0)), false, none, false, false, []⟩,
  ⟨some 9, .assign (.const (.int .i64 1)), false, none, false, false, []⟩]
def r18_7 : List Co := [
  ⟨some 41, .move (.tmp 0), false, none, false, false, []⟩,
  ⟨some 42, .move (.tmp 3), false, none, false, false, []⟩,
  ⟨some 43, .build 37 #[(0, (.tmp 41)), (4, (.tmp 42))], false, none, false, false, []⟩,
  ⟨some 44, .buildSlice 22 1 #[(0, (.tmp 43))], false, none, false, false, []⟩,
  ⟨some 10, .assign (.tmp 44), false, none, false, false, []⟩]
def r18_8 : List Co := [
  ⟨some 11, .assign (.const (.int .i64 0)), false, none, false, false, []⟩]
def r18_9 : List Co := [
  ⟨some 45, .move (.tmp 11), false, none, false, false, []⟩,
  ⟨some 46, .move (.tmp 1), false, none, false, false, []⟩,
  ⟨some 47, .call ⟨.builtin .len, #[(.tmp 46)], #[25]⟩, false, none, false, false, []⟩,
  ⟨some 48, .binOp .lss 3 (.tmp 45) (.tmp 47) 3, false, none, false, false, []⟩]
def r18_10 : List Co := [
  ⟨some 52, .move (.tmp 11), false, none, false, false, []⟩,
  ⟨some 53, .move (.tmp 2), false, none, false, false, []⟩,
  ⟨some 54, .binOp .add 3 (.tmp 52) (.tmp 53) 3, false, none, false, false, []⟩,
  ⟨some 55, .move (.tmp 1), false, none, false, false, []⟩,
  ⟨some 56, .call ⟨.builtin .len, #[(.tmp 55)], #[25]⟩, false, none, false, false, []⟩,
  ⟨some 57, .call ⟨.builtin .min, #[(.tmp 54), (.tmp 56)], #[3, 3]⟩, false, none, false, false, []⟩,
  ⟨some 12, .assign (.tmp 57), false, none, false, false, []⟩]
def r18_11 : List Co := [
  ⟨some 58, .move (.tmp 0), false, none, false, false, []⟩,
  ⟨some 59, .move (.tmp 11), false, none, false, false, []⟩,
  ⟨some 60, .move (.tmp 12), false, none, false, false, []⟩,
  ⟨some 61, .move (.tmp 1), false, none, false, false, []⟩,
  ⟨some 62, .call ⟨.builtin .len, #[(.tmp 61)], #[25]⟩, false, none, false, false, []⟩,
  ⟨some 63, .binOp .lss 3 (.tmp 60) (.tmp 62) 3, false, none, false, false, []⟩,
  ⟨some 64, .move (.tmp 1), false, none, false, false, []⟩,
  ⟨some 65, .move (.tmp 11), false, none, false, false, []⟩,
  ⟨some 66, .move (.tmp 12), false, none, false, false, []⟩,
  ⟨some 67, .slice 25 (.tmp 64) (some (.tmp 65)) (some (.tmp 66)) none, false, none, false, false, []⟩,
  ⟨some 68, .call ⟨.value (.func 38), #[(.tmp 67)], #[25]⟩, false, none, false, false, []⟩,
  ⟨some 69, .move (.tmp 3), false, none, false, false, []⟩,
  ⟨some 70, .build 37 #[(0, (.tmp 58)), (1, (.tmp 59)), (2, (.tmp 63)), (3, (.tmp 68)), (4, (.tmp 69))], false, none, false, false, []⟩,
  ⟨some 13, .alloc 37, false, none, false, false, []⟩,
  ⟨none, .store 37 (.tmp 13) (.tmp 70), false, none, false, false, []⟩]
def r18_12 : List Co := [
  ⟨some 71, .move (.tmp 11), false, none, false, false, []⟩,
  ⟨some 72, .binOp .eql 3 (.tmp 71) (.const (.int .i64 0)) 3, false, none, false, false, []⟩]
def r18_13 : List Co := [
  ⟨some 10, .assign (.const (.slice none 0 0)), false, none, false, false, []⟩]
def r18_14 : List Co := [
  ⟨some 73, .move (.tmp 10), false, none, false, false, []⟩,
  ⟨some 74, .load 37 (.tmp 13), false, none, false, false, []⟩,
  ⟨some 75, .buildSlice 22 1 #[(0, (.tmp 74))], true, none, false, false, []⟩,
  ⟨some 76, .call ⟨.builtin .append, #[(.tmp 73), (.tmp 75)], #[22, 22]⟩, false, none, false, false, []⟩,
  ⟨some 10, .assign (.tmp 76), false, none, false, false, []⟩]
def r18_15 : List Co := [
  ⟨some 49, .move (.tmp 11), false, none, false, false, []⟩,
  ⟨some 50, .move (.tmp 2), false, none, false, false, []⟩,
  ⟨some 51, .binOp .add 3 (.tmp 49) (.tmp 50) 3, false, none, false, false, []⟩,
  ⟨some 11, .assign (.tmp 51), false, none, false, false, []⟩]
def l18_16 : Cc := (.seq (.seq (.reg r18_9) (.cond (.tmp 48) .skip (.exit 1))) (.seq (.block 2 (.seq (.reg r18_10) (.seq (.reg r18_11) (.seq (.seq (.reg r18_12) (.cond (.tmp 72) (.reg r18_13) .skip)) (.reg r18_14))))) (.reg r18_15)))
def r18_17 : List Co := [
  ⟨some 77, .move (.tmp 10), false, none, false, false, []⟩,
  ⟨some 8, .assign (.tmp 77), false, none, false, false, []⟩,
  ⟨some 9, .assign (.const (.int .i64 0)), false, none, false, false, []⟩]
/-- wireglass/frag.Cut -/
def c18 : Cc := (.seq (.reg r18_0) (.seq (.block 0 (.seq (.reg r18_1) (.cond (.tmp 14) (.seq (.reg r18_2) .ret) (.seq (.reg r18_3) (.cond (.tmp 21) (.seq (.reg r18_4) .ret) (.seq (.reg r18_5) (.cond (.tmp 35) (.seq (.reg r18_6) .ret) .skip))))))) (.seq (.reg r18_7) (.seq (.seq (.reg r18_8) (.block 1 (.loop l18_16))) (.seq (.reg r18_17) .ret)))))
def r22_0 : List Co := [
  ⟨some 3, .box 37 (.tmp 1), false, none, false, false, []⟩,
  ⟨some 4, .assign (.const (.slice none 0 0)), false, none, false, false, []⟩,
  ⟨some 5, .assign (.const (.int .i64 0)), false, none, false, false, []⟩,
  ⟨some 6, .assign (.const (.int .i64 0)), false, none, false, false, []⟩]
def r22_1 : List Co := [
  ⟨some 10, .move (.tmp 0), false, none, false, false, []⟩,
  ⟨some 11, .binOp .eql 46 (.tmp 10) (.const (.pointer none)) 46, false, none, false, false, []⟩]
def r22_2 : List Co := [
  ⟨some 4, .assign (.const (.slice none 0 0)), false, none, false, false, []⟩,
  ⟨some 5, .assign (.const (.int .i64 0)), false, none, false, false, []⟩,
  ⟨some 6, .assign (.const (.int .i64 9)), false, none, false, false, []⟩]
def r22_3 : List Co := [
  ⟨some 12, .move (.tmp 0), false, none, false, false, []⟩,
  ⟨some 13, .nilCheck (.tmp 12), false, none, false, false, []⟩,
  ⟨some 14, .fieldAddr 82 (.tmp 13) 0, false, none, false, false, []⟩,
  ⟨some 15, .call ⟨.value (.func 42), #[(.tmp 14)], #[79]⟩, false, none, false, false, []⟩]
def r22_4 : List Co := [
  ⟨some 16, .move (.tmp 0), false, none, false, false, []⟩,
  ⟨some 17, .nilCheck (.tmp 16), false, none, false, false, []⟩,
  ⟨some 18, .fieldAddr 82 (.tmp 17) 0, false, none, false, false, []⟩,
  ⟨none, .defer ⟨.value (.func 43), #[(.tmp 18)], #[79]⟩, false, none, false, false, []⟩]
def r22_5 : List Co := [
  ⟨some 19, .load 37 (.tmp 3), false, none, false, false, []⟩,
  ⟨some 20, .call ⟨.value (.func 34), #[(.tmp 19)], #[37]⟩, false, none, false, false, []⟩,
  ⟨some 21, .unOp .not 4 (.tmp 20), false, none, false, false, []⟩]
def r22_6 : List Co := [
  ⟨some 4, .assign (.const (.slice none 0 0)), false, none, false, false, []⟩,
  ⟨some 5, .assign (.const (.int .i64 0)), false, none, false, false, []⟩,
  ⟨some 6, .assign (.const (.int .i64 1)), false, none, false, false, []⟩]
def r22_7 : List Co := [
  ⟨some 22, .load 37 (.tmp 3), false, none, false, false, []⟩,
  ⟨some 23, .call ⟨.value (.func 35), #[(.tmp 22)], #[37]⟩, false, none, false, false, []⟩]
def r22_8 : List Co := [
  ⟨some 4, .assign (.const (.slice none 0 0)), false, none, false, false, []⟩,
  ⟨some 5, .assign (.const (.int .i64 0)), false, none, false, false, []⟩,
  ⟨some 6, .assign (.const (.int .i64 3)), false, none, false, false, []⟩]
def r22_9 : List Co := [
  ⟨some 24, .fieldAddr 37 (.tmp 3) 3, false, none, false, false, []⟩,
  ⟨some 25, .load 25 (.tmp 24), false, none, false, false, []⟩,
  ⟨some 26, .call ⟨.builtin .len, #[(.tmp 25)], #[25]⟩, false, none, false, false, []⟩,
  ⟨some 27, .binOp .eql 3 (.tmp 26) (.const (.int .i64 0)) 3, false, none, false, false, []⟩,
  ⟨some 28, .move (.tmp 27), false, none, false, false, []⟩,
  ⟨some 29, .fieldAddr 37 (.tmp 3) 2, false, some (28, true), false, false, []⟩,
  ⟨some 30, .load 4 (.tmp 29), false, some (28, true), false, false, []⟩,
  ⟨some 31, .pick (.tmp 28) (.tmp 30) (.const (.bool false)), false, none, false, false, []⟩]
def r22_10 : List Co := [
  ⟨some 4, .assign (.const (.slice none 0 0)), false, none, false, false, []⟩,
  ⟨some 5, .assign (.const (.int .i64 2)), false, none, false, false, []⟩,
  ⟨some 6, .assign (.const (.int .i64 0)), false, none, false, false, []⟩]
def r22_11 : List Co := [
  ⟨some 32, .move (.tmp 0), false, none, false, false, []⟩,
  ⟨some 33, .nilCheck (.tmp 32), false, none, false, false, []⟩,
  ⟨some 34, .fieldAddr 82 (.tmp 33) 2, false, none, false, false, []⟩,
  ⟨some 35, .load 80 (.tmp 34), false, none, false, false, []⟩,
  ⟨some 36, .fieldAddr 37 (.tmp 3) 0, false, none, false, false, []⟩,
  ⟨some 37, .load 3 (.tmp 36), false, none, false, false, []⟩,
  ⟨some 38, .lookup 80 (.tmp 35) (.tmp 37) false, false, none, false, false, []⟩,
  ⟨some 7, .assign (.tmp 38), false, none, false, false, []⟩]
def r22_12 : List Co := [
  ⟨some 39, .move (.tmp 7), false, none, false, false, []⟩,
  ⟨some 40, .binOp .eql 83 (.tmp 39) (.const (.pointer none)) 83, false, none, false, false, []⟩]
def r22_13 : List Co := [
  ⟨some 41, .move (.tmp 0), false, none, false, false, []⟩,
  ⟨some 42, .nilCheck (.tmp 41), false, none, false, false, []⟩,
  ⟨some 43, .fieldAddr 82 (.tmp 42) 2, false, none, false, false, []⟩,
  ⟨some 44, .load 80 (.tmp 43), false, none, false, false, []⟩,
  ⟨some 45, .call ⟨.builtin .len, #[(.tmp 44)], #[80]⟩, false, none, false, false, []⟩,
  ⟨some 46, .binOp .geq 3 (.tmp 45) (.const (.int .i64 200)) 3, false, none, false, false, []⟩]
def r22_14 : List Co := [
  ⟨some 4, .assign (.const (.slice none 0 0)), false, none, false, false, []⟩,
  ⟨some 5, .assign (.const (.int .i64 0)), false, none, false, false, []⟩,
  ⟨some 6, .assign (.const (.int .i64 3)), false, none, false, false, []⟩]
def r22_15 : List Co := [
  ⟨some 47, .fieldAddr 37 (.tmp 3) 4, false, none, false, false, []⟩,
  ⟨some 48, .load 3 (.tmp 47), false, none, false, false, []⟩,
  ⟨some 49, .build 86 #[(1, (.const (.int .i64 (-1)))), (2, (.tmp 48))], false, none, false, false, []⟩,
  ⟨some 50, .box 86 (.tmp 49), false, none, false, false, []⟩,
  ⟨some 7, .assign (.tmp 50), false, none, false, false, []⟩]
def r22_16 : List Co := [
  ⟨some 51, .move (.tmp 0), false, none, false, false, []⟩,
  ⟨some 52, .nilCheck (.tmp 51), false, none, false, false, []⟩,
  ⟨some 53, .fieldAddr 82 (.tmp 52) 2, false, none, false, false, []⟩,
  ⟨some 54, .load 80 (.tmp 53), false, none, false, false, []⟩,
  ⟨some 55, .fieldAddr 37 (.tmp 3) 0, false, none, false, false, []⟩,
  ⟨some 56, .load 3 (.tmp 55), false, none, false, false, []⟩,
  ⟨some 57, .move (.tmp 7), false, none, false, false, []⟩,
  ⟨none, .mapUpdate 80 (.tmp 54) (.tmp 56) (.tmp 57), false, none, false, false, []⟩]
def r22_17 : List Co := [
  ⟨some 58, .move (.tmp 7), false, none, false, false, []⟩,
  ⟨some 59, .load 37 (.tmp 3), false, none, false, false, []⟩,
  ⟨some 60, .call ⟨.value (.func 44), #[(.tmp 58), (.tmp 59)], #[83, 37]⟩, false, none, false, false, []⟩,
  ⟨some 61, .unOp .not 4 (.tmp 60), false, none, false, false, []⟩]
def r22_18 : List Co := [
  ⟨some 62, .move (.tmp 0), false, none, false, false, []⟩,
  ⟨some 63, .nilCheck (.tmp 62), false, none, false, false, []⟩,
  ⟨some 64, .fieldAddr 82 (.tmp 63) 2, false, none, false, false, []⟩,
  ⟨some 65, .load 80 (.tmp 64), false, none, false, false, []⟩,
  ⟨some 66, .fieldAddr 37 (.tmp 3) 0, false, none, false, false, []⟩,
  ⟨some 67, .load 3 (.tmp 66), false, none, false, false, []⟩,
  ⟨none, .call ⟨.builtin .delete, #[(.tmp 65), (.tmp 67)], #[80, 3]⟩, false, none, false, false, []⟩]
def r22_19 : List Co := [
  ⟨some 4, .assign (.const (.slice none 0 0)), false, none, false, false, []⟩,
  ⟨some 5, .assign (.const (.int .i64 4)), false, none, false, false, []⟩,
  ⟨some 6, .assign (.const (.int .i64 0)), false, none, false, false, []⟩]
def r22_20 : List Co := [
  ⟨some 69, .move (.tmp 7), false, none, false, false, []⟩,
  ⟨some 70, .load 37 (.tmp 3), false, none, false, false, []⟩,
  ⟨some 71, .move (.tmp 0), false, none, false, false, []⟩,
  ⟨some 72, .nilCheck (.tmp 71), false, none, false, false, []⟩,
  ⟨some 73, .fieldAddr 82 (.tmp 72) 1, false, none, false, false, []⟩,
  ⟨some 74, .load 3 (.tmp 73), false, none, false, false, []⟩,
  ⟨some 75, .call ⟨.value (.func 45), #[(.tmp 69), (.tmp 70), (.tmp 74)], #[83, 37, 3]⟩, false, none, false, false, []⟩,
  ⟨some 68, .move (.tmp 75), false, none, false, false, []⟩,
  ⟨some 76, .extract (.tmp 68) 0, false, none, false, false, []⟩,
  ⟨some 77, .extract (.tmp 68) 1, false, none, false, false, []⟩,
  ⟨some 8, .assign (.tmp 76), false, none, false, false, []⟩,
  ⟨some 9, .assign (.tmp 77), false, none, false, false, []⟩]
def r22_21 : List Co := [
  ⟨some 79, .move (.tmp 9), false, none, false, false, []⟩,
  ⟨some 80, .move (.tmp 79), false, none, false, false, []⟩,
  ⟨some 81, .move (.tmp 0), false, some (80, true), false, false, []⟩,
  ⟨some 82, .nilCheck (.tmp 81), false, some (80, true), false, false, []⟩,
  ⟨some 83, .fieldAddr 82 (.tmp 82) 1, false, some (80, true), false, false, []⟩,
  ⟨some 84, .load 3 (.tmp 83), false, some (80, true), false, false, []⟩,
  ⟨some 85, .binOp .eql 3 (.tmp 84) (.const (.int .i64 3)) 3, false, some (80, true), false, false, []⟩,
  ⟨some 86, .pick (.tmp 80) (.tmp 85) (.const (.bool false)), false, none, false, false, []⟩,
  ⟨some 78, .assign (.tmp 86), false, none, false, false, []⟩]
def r22_22 : List Co := [
  ⟨some 87, .move (.tmp 0), false, none, false, false, []⟩,
  ⟨some 88, .nilCheck (.tmp 87), false, none, false, false, []⟩,
  ⟨some 89, .fieldAddr 82 (.tmp 88) 2, false, none, false, false, []⟩,
  ⟨some 90, .load 80 (.tmp 89), false, none, false, false, []⟩,
  ⟨some 91, .fieldAddr 37 (.tmp 3) 0, false, none, false, false, []⟩,
  ⟨some 92, .load 3 (.tmp 91), false, none, false, false, []⟩,
  ⟨none, .call ⟨.builtin .delete, #[(.tmp 90), (.tmp 92)], #[80, 3]⟩, false, none, false, false, []⟩]
def r22_23 : List Co := [
  ⟨some 4, .assign (.const (.slice none 0 0)), false, none, false, false, []⟩,
  ⟨some 5, .assign (.const (.int .i64 3)), false, none, false, false, []⟩,
  ⟨some 6, .assign (.const (.int .i64 0)), false, none, false, false, []⟩]
def r22_24 : List Co := [
  ⟨some 94, .move (.tmp 7), false, none, false, false, []⟩,
  ⟨some 95, .call ⟨.value (.func 46), #[(.tmp 94)], #[83]⟩, false, none, false, false, []⟩,
  ⟨some 93, .assign (.tmp 95), false, none, false, false, []⟩]
def r22_25 : List Co := [
  ⟨some 96, .move (.tmp 0), false, none, false, false, []⟩,
  ⟨some 97, .nilCheck (.tmp 96), false, none, false, false, []⟩,
  ⟨some 98, .fieldAddr 82 (.tmp 97) 2, false, none, false, false, []⟩,
  ⟨some 99, .load 80 (.tmp 98), false, none, false, false, []⟩,
  ⟨some 100, .fieldAddr 37 (.tmp 3) 0, false, none, false, false, []⟩,
  ⟨some 101, .load 3 (.tmp 100), false, none, false, false, []⟩,
  ⟨none, .call ⟨.builtin .delete, #[(.tmp 99), (.tmp 101)], #[80, 3]⟩, false, none, false, false, []⟩]
def r22_26 : List Co := [
  ⟨some 102, .move (.tmp 7), false, none, false, false, []⟩,
  ⟨some 103, .call ⟨.value (.func 47), #[(.tmp 102)], #[83]⟩, false, none, false, false, []⟩,
  ⟨some 4, .assign (.tmp 103), false, none, false, false, []⟩,
  ⟨some 5, .assign (.const (.int .i64 1)), false, none, false, false, []⟩,
  ⟨some 6, .assign (.const (.int .i64 0)), false, none, false, false, []⟩]
def r22_27 : List Co := [
  ⟨some 105, .move (.tmp 8), false, none, false, false, []⟩,
  ⟨some 106, .unOp .not 4 (.tmp 105), false, none, false, false, []⟩,
  ⟨some 104, .assign (.tmp 106), false, none, false, false, []⟩]
def r22_28 : List Co := [
  ⟨some 4, .assign (.const (.slice none 0 0)), false, none, false, false, []⟩,
  ⟨some 5, .assign (.const (.int .i64 2)), false, none, false, false, []⟩,
  ⟨some 6, .assign (.const (.int .i64 0)), false, none, false, false, []⟩]
def r22_29 : List Co := [
  ⟨some 4, .assign (.const (.slice none 0 0)), false, none, false, false, []⟩,
  ⟨some 5, .assign (.const (.int .i64 0)), false, none, false, false, []⟩,
  ⟨some 6, .assign (.const (.int .i64 0)), false, none, false, false, []⟩]
/-- (*wireglass/frag.Table).Put -/
def c22 : Cc := (.seq (.reg r22_0) (.seq (.seq (.reg r22_1) (.cond (.tmp 11) (.seq (.reg r22_2) .ret) .skip)) (.seq (.reg r22_3) (.seq (.reg r22_4) (.seq (.seq (.reg r22_5) (.cond (.tmp 21) (.seq (.reg r22_6) .ret) .skip)) (.seq (.seq (.reg r22_7) (.cond (.tmp 23) (.seq (.reg r22_8) .ret) .skip)) (.seq (.seq (.reg r22_9) (.cond (.tmp 31) (.seq (.reg r22_10) .ret) .skip)) (.seq (.reg r22_11) (.seq (.seq (.reg r22_12) (.cond (.tmp 40) (.seq (.seq (.reg r22_13) (.cond (.tmp 46) (.seq (.reg r22_14) .ret) .skip)) (.seq (.reg r22_15) (.reg r22_16))) .skip)) (.seq (.seq (.reg r22_17) (.cond (.tmp 61) (.seq (.reg r22_18) (.seq (.reg r22_19) .ret)) .skip)) (.seq (.reg r22_20) (.seq (.block 0 (.seq (.reg r22_21) (.cond (.tmp 78) (.seq (.reg r22_22) (.seq (.reg r22_23) .ret)) (.seq (.reg r22_24) (.cond (.tmp 93) (.seq (.reg r22_25) (.seq (.reg r22_26) .ret)) (.seq (.reg r22_27) (.cond (.tmp 104) (.seq (.reg r22_28) .ret) .skip))))))) (.seq (.reg r22_29) .ret)))))))))))))
def r27_0 : List Co := [
  ⟨some 2, .assign (.const (.pointer none)), false, none, false, false, []⟩,
  ⟨some 3, .assign (.const (.int .i64 0)), false, none, false, false, []⟩]
def r27_1 : List Co := [
  ⟨some 4, .move (.tmp 0), false, none, false, false, []⟩,
  ⟨some 5, .binOp .lss 3 (.tmp 4) (.const (.int .i64 0)) 3, false, none, false, false, []⟩,
  ⟨some 6, .move (.tmp 5), false, none, false, false, []⟩,
  ⟨some 7, .move (.tmp 0), false, some (6, false), false, false, []⟩,
  ⟨some 8, .binOp .gtr 3 (.tmp 7) (.const (.int .i64 3)) 3, false, some (6, false), false, false, []⟩,
  ⟨some 9, .pick (.tmp 6) (.const (.bool true)) (.tmp 8), false, none, false, false, []⟩]
def r27_2 : List Co := [
  ⟨some 2, .assign (.const (.pointer none)), false, none, false, false, []⟩,
  ⟨some 3, .assign (.const (.int .i64 1)), false, none, false, false, []⟩]
def r27_3 : List Co := [
  ⟨some 10, .move (.tmp 0), false, none, false, false, []⟩,
  ⟨some 11, .makeMap 80 none, false, none, false, false, []⟩,
  ⟨some 12, .build 82 #[(1, (.tmp 10)), (2, (.tmp 11))], false, none, false, false, []⟩,
  ⟨some 13, .box 82 (.tmp 12), false, none, false, false, []⟩,
  ⟨some 2, .assign (.tmp 13), false, none, false, false, []⟩,
  ⟨some 3, .assign (.const (.int .i64 0)), false, none, false, false, []⟩]
/-- wireglass/frag.New -/
def c27 : Cc := (.seq (.reg r27_0) (.seq (.seq (.reg r27_1) (.cond (.tmp 9) (.seq (.reg r27_2) .ret) .skip)) (.seq (.reg r27_3) .ret)))
def r29_0 : List Co := [
  ⟨some 4, .assign (.const (.bool false)), false, none, false, false, []⟩]
def r29_1 : List Co := [
  ⟨some 5, .move (.tmp 0), false, none, false, false, []⟩,
  ⟨some 6, .move (.tmp 1), false, none, false, false, []⟩,
  ⟨some 7, .call ⟨.value (.func 57), #[(.tmp 5), (.tmp 6)], #[22, 63]⟩, false, none, false, false, []⟩,
  ⟨some 8, .binOp .geq 3 (.tmp 7) (.const (.int .i64 0)) 3, false, none, false, false, []⟩,
  ⟨some 4, .assign (.tmp 8), false, none, false, false, []⟩]
/-- slices.ContainsFunc[[]wireglass/api.Piece,wireglass/api.Piece] -/
def c29 : Cc := (.seq (.reg r29_0) (.seq (.reg r29_1) .ret))
def r30_0 : List Co := [
  ⟨some 2, .box 37 (.tmp 0), true, none, false, false, []⟩,
  ⟨some 3, .assign (.const (.bool false)), false, none, false, false, []⟩]
def r30_1 : List Co := [
  ⟨some 4, .fieldAddr 37 (.tmp 2) 0, false, none, false, false, []⟩,
  ⟨some 5, .load 3 (.tmp 4), false, none, false, false, []⟩,
  ⟨some 6, .load 22 (.tmp 1), false, none, false, false, []⟩,
  ⟨some 7, .indexAddr 22 (.tmp 6) (.const (.int .i64 0)), false, none, false, false, []⟩,
  ⟨some 8, .fieldAddr 37 (.tmp 7) 0, false, none, false, false, []⟩,
  ⟨some 9, .load 3 (.tmp 8), false, none, false, false, []⟩,
  ⟨some 10, .binOp .neq 3 (.tmp 5) (.tmp 9) 3, false, none, false, false, []⟩,
  ⟨some 3, .assign (.tmp 10), false, none, false, false, []⟩]
/-- wireglass/frag.Whole$1 -/
def c30 : Cc := (.seq (.reg r30_0) (.seq (.reg r30_1) .ret))
def r31_0 : List Co := [
  ⟨some 2, .assign (.const (.pointer none)), false, none, false, false, []⟩,
  ⟨some 3, .assign (.const (.int .i64 0)), false, none, false, false, []⟩]
def r31_1 : List Co := [
  ⟨some 4, .move (.tmp 0), false, none, false, false, []⟩,
  ⟨some 5, .binOp .lss 3 (.tmp 4) (.const (.int .i64 0)) 3, false, none, false, false, []⟩,
  ⟨some 6, .move (.tmp 5), false, none, false, false, []⟩,
  ⟨some 7, .move (.tmp 0), false, some (6, false), false, false, []⟩,
  ⟨some 8, .binOp .gtr 3 (.tmp 7) (.const (.int .i64 3)) 3, false, some (6, false), false, false, []⟩,
  ⟨some 9, .pick (.tmp 6) (.const (.bool true)) (.tmp 8), false, none, false, false, []⟩]
def r31_2 : List Co := [
  ⟨some 2, .assign (.const (.pointer none)), false, none, false, false, []⟩,
  ⟨some 3, .assign (.const (.int .i64 1)), false, none, false, false, []⟩]
def r31_3 : List Co := [
  ⟨some 10, .move (.tmp 0), false, none, false, false, []⟩,
  ⟨some 11, .build 105 #[(0, (.tmp 10))], false, none, false, false, []⟩,
  ⟨some 12, .box 105 (.tmp 11), false, none, false, false, []⟩,
  ⟨some 2, .assign (.tmp 12), false, none, false, false, []⟩,
  ⟨some 3, .assign (.const (.int .i64 0)), false, none, false, false, []⟩]
/-- wireglass/wireglassref18.New -/
def c31 : Cc := (.seq (.reg r31_0) (.seq (.seq (.reg r31_1) (.cond (.tmp 9) (.seq (.reg r31_2) .ret) .skip)) (.seq (.reg r31_3) .ret)))
def r32_0 : List Co := [
  ⟨some 3, .box 37 (.tmp 1), false, none, false, false, []⟩,
  ⟨some 4, .assign (.const (.slice none 0 0)), false, none, false, false, []⟩,
  ⟨some 5, .assign (.const (.int .i64 0)), false, none, false, false, []⟩,
  ⟨some 6, .assign (.const (.int .i64 0)), false, none, false, false, []⟩]
def r32_1 : List Co := [
  ⟨some 16, .load 37 (.tmp 3), false, none, false, false, []⟩,
  ⟨some 17, .call ⟨.value (.func 36), #[(.tmp 16)], #[37]⟩, false, none, false, false, []⟩,
  ⟨some 7, .assign (.tmp 17), false, none, false, false, []⟩]
def r32_2 : List Co := [
  ⟨some 18, .move (.tmp 7), false, none, false, false, []⟩,
  ⟨some 19, .binOp .neq 26 (.tmp 18) (.const (.int .i64 0)) 26, false, none, false, false, []⟩]
def r32_3 : List Co := [
  ⟨some 20, .move (.tmp 7), false, none, false, false, []⟩,
  ⟨some 4, .assign (.const (.slice none 0 0)), false, none, false, false, []⟩,
  ⟨some 5, .assign (.const (.int .i64 0)), false, none, false, false, []⟩,
  ⟨some 6, .assign (.tmp 20), false, none, false, false, []⟩]
def r32_4 : List Co := [
  ⟨some 21, .move (.tmp 0), false, none, false, false, []⟩,
  ⟨some 22, .fieldAddr 37 (.tmp 3) 0, false, none, false, false, []⟩,
  ⟨some 23, .load 3 (.tmp 22), false, none, false, false, []⟩,
  ⟨some 24, .call ⟨.value (.func 58), #[(.tmp 21), (.tmp 23)], #[47, 3]⟩, false, none, false, false, []⟩,
  ⟨some 8, .assign (.tmp 24), false, none, false, false, []⟩]
def r32_5 : List Co := [
  ⟨some 25, .fieldAddr 37 (.tmp 3) 3, false, none, false, false, []⟩,
  ⟨some 26, .load 25 (.tmp 25), false, none, false, false, []⟩,
  ⟨some 27, .call ⟨.builtin .len, #[(.tmp 26)], #[25]⟩, false, none, false, false, []⟩,
  ⟨some 28, .binOp .eql 3 (.tmp 27) (.const (.int .i64 0)) 3, false, none, false, false, []⟩,
  ⟨some 29, .move (.tmp 28), false, none, false, false, []⟩,
  ⟨some 30, .fieldAddr 37 (.tmp 3) 2, false, some (29, true), false, false, []⟩,
  ⟨some 31, .load 4 (.tmp 30), false, some (29, true), false, false, []⟩,
  ⟨some 32, .pick (.tmp 29) (.tmp 31) (.const (.bool false)), false, none, false, false, []⟩,
  ⟨some 9, .assign (.tmp 32), false, none, false, false, []⟩]
def r32_6 : List Co := [
  ⟨some 33, .move (.tmp 8), false, none, false, false, []⟩,
  ⟨some 34, .binOp .lss 3 (.tmp 33) (.const (.int .i64 0)) 3, false, none, false, false, []⟩,
  ⟨some 35, .move (.tmp 34), false, none, false, false, []⟩,
  ⟨some 36, .move (.tmp 9), false, some (35, true), false, false, []⟩,
  ⟨some 37, .unOp .not 4 (.tmp 36), false, some (35, true), false, false, []⟩,
  ⟨some 38, .pick (.tmp 35) (.tmp 37) (.const (.bool false)), false, none, false, false, []⟩]
def r32_7 : List Co := [
  ⟨some 39, .move (.tmp 0), false, none, false, false, []⟩,
  ⟨some 40, .nilCheck (.tmp 39), false, none, false, false, []⟩,
  ⟨some 41, .fieldAddr 105 (.tmp 40) 1, false, none, false, false, []⟩,
  ⟨some 42, .load 103 (.tmp 41), false, none, false, false, []⟩,
  ⟨some 43, .call ⟨.builtin .len, #[(.tmp 42)], #[103]⟩, false, none, false, false, []⟩,
  ⟨some 44, .binOp .geq 3 (.tmp 43) (.const (.int .i64 200)) 3, false, none, false, false, []⟩]
def r32_8 : List Co := [
  ⟨some 4, .assign (.const (.slice none 0 0)), false, none, false, false, []⟩,
  ⟨some 5, .assign (.const (.int .i64 0)), false, none, false, false, []⟩,
  ⟨some 6, .assign (.const (.int .i64 3)), false, none, false, false, []⟩]
def r32_9 : List Co := [
  ⟨some 45, .move (.tmp 0), false, none, false, false, []⟩,
  ⟨some 46, .nilCheck (.tmp 45), false, none, false, false, []⟩,
  ⟨some 47, .fieldAddr 105 (.tmp 46) 1, false, none, false, false, []⟩,
  ⟨some 48, .load 103 (.tmp 47), false, none, false, false, []⟩,
  ⟨some 49, .call ⟨.builtin .len, #[(.tmp 48)], #[103]⟩, false, none, false, false, []⟩,
  ⟨some 8, .assign (.tmp 49), false, none, false, false, []⟩]
def r32_10 : List Co := [
  ⟨some 50, .move (.tmp 0), false, none, false, false, []⟩,
  ⟨some 51, .move (.tmp 0), false, none, false, false, []⟩,
  ⟨some 52, .nilCheck (.tmp 51), false, none, false, false, []⟩,
  ⟨some 53, .fieldAddr 105 (.tmp 52) 1, false, none, false, false, []⟩,
  ⟨some 54, .load 103 (.tmp 53), false, none, false, false, []⟩,
  ⟨some 55, .call ⟨.builtin .append, #[(.const (.slice none 0 0)), (.tmp 54)], #[103, 103]⟩, false, none, true, false, []⟩,
  ⟨some 56, .fieldAddr 37 (.tmp 3) 0, false, none, true, false, []⟩,
  ⟨some 57, .load 3 (.tmp 56), false, none, true, true, []⟩,
  ⟨some 58, .build 108 #[(0, (.tmp 57))], false, none, false, false, []⟩,
  ⟨some 59, .buildSlice 103 1 #[(0, (.tmp 58))], true, none, false, false, []⟩,
  ⟨some 60, .call ⟨.builtin .append, #[(.tmp 55), (.tmp 59)], #[103, 103]⟩, false, none, false, false, []⟩,
  ⟨some 61, .nilCheck (.tmp 50), false, none, false, false, []⟩,
  ⟨some 62, .fieldAddr 105 (.tmp 61) 1, false, none, false, false, []⟩,
  ⟨none, .store 103 (.tmp 62) (.tmp 60), false, none, false, false, []⟩]
def r32_11 : List Co := [
  ⟨some 63, .move (.tmp 9), false, none, false, false, []⟩]
def r32_12 : List Co := [
  ⟨some 4, .assign (.const (.slice none 0 0)), false, none, false, false, []⟩,
  ⟨some 5, .assign (.const (.int .i64 2)), false, none, false, false, []⟩,
  ⟨some 6, .assign (.const (.int .i64 0)), false, none, false, false, []⟩]
def r32_13 : List Co := [
  ⟨some 64, .move (.tmp 0), false, none, false, false, []⟩,
  ⟨some 65, .nilCheck (.tmp 64), false, none, false, false, []⟩,
  ⟨some 66, .fieldAddr 105 (.tmp 65) 1, false, none, false, false, []⟩,
  ⟨some 67, .load 103 (.tmp 66), false, none, false, false, []⟩,
  ⟨some 68, .move (.tmp 8), false, none, false, false, []⟩,
  ⟨some 69, .indexAddr 103 (.tmp 67) (.tmp 68), false, none, false, false, []⟩,
  ⟨some 70, .fieldAddr 108 (.tmp 69) 1, false, none, false, false, []⟩,
  ⟨some 71, .load 22 (.tmp 70), false, none, false, false, []⟩,
  ⟨some 10, .assign (.tmp 71), false, none, false, false, []⟩]
def r32_14 : List Co := [
  ⟨some 73, .move (.tmp 10), false, none, false, false, []⟩,
  ⟨some 74, .move (.tmp 0), false, none, false, false, []⟩,
  ⟨some 75, .nilCheck (.tmp 74), false, none, false, false, []⟩,
  ⟨some 76, .fieldAddr 105 (.tmp 75) 0, false, none, false, false, []⟩,
  ⟨some 77, .load 3 (.tmp 76), false, none, false, false, []⟩,
  ⟨some 78, .load 37 (.tmp 3), false, none, false, false, []⟩,
  ⟨some 79, .call ⟨.value (.func 59), #[(.tmp 73), (.tmp 77), (.tmp 78)], #[22, 3, 37]⟩, false, none, false, false, []⟩,
  ⟨some 72, .move (.tmp 79), false, none, false, false, []⟩,
  ⟨some 80, .extract (.tmp 72) 0, false, none, false, false, []⟩,
  ⟨some 81, .extract (.tmp 72) 1, false, none, false, false, []⟩,
  ⟨some 11, .assign (.tmp 80), false, none, false, false, []⟩,
  ⟨some 12, .assign (.tmp 81), false, none, false, false, []⟩]
def r32_15 : List Co := [
  ⟨some 83, .move (.tmp 10), false, none, false, false, []⟩,
  ⟨some 84, .load 37 (.tmp 3), false, none, false, false, []⟩,
  ⟨some 85, .call ⟨.value (.func 60), #[(.tmp 83), (.tmp 84)], #[22, 37]⟩, false, none, false, false, []⟩,
  ⟨some 82, .assign (.tmp 85), false, none, false, false, []⟩]
def r32_16 : List Co := [
  ⟨some 86, .move (.tmp 0), false, none, false, false, []⟩,
  ⟨some 87, .move (.tmp 8), false, none, false, false, []⟩,
  ⟨some 88, .call ⟨.value (.func 61), #[(.tmp 86), (.tmp 87)], #[47, 3]⟩, false, none, false, false, []⟩]
def r32_17 : List Co := [
  ⟨some 4, .assign (.const (.slice none 0 0)), false, none, false, false, []⟩,
  ⟨some 5, .assign (.const (.int .i64 4)), false, none, false, false, []⟩,
  ⟨some 6, .assign (.const (.int .i64 0)), false, none, false, false, []⟩]
def r32_18 : List Co := [
  ⟨some 90, .move (.tmp 0), false, none, false, false, []⟩,
  ⟨some 91, .nilCheck (.tmp 90), false, none, false, false, []⟩,
  ⟨some 92, .fieldAddr 105 (.tmp 91) 0, false, none, false, false, []⟩,
  ⟨some 93, .load 3 (.tmp 92), false, none, false, false, []⟩,
  ⟨some 94, .binOp .eql 3 (.tmp 93) (.const (.int .i64 3)) 3, false, none, false, false, []⟩,
  ⟨some 95, .move (.tmp 94), false, none, false, false, []⟩,
  ⟨some 96, .move (.tmp 12), false, some (95, true), false, false, []⟩,
  ⟨some 97, .pick (.tmp 95) (.tmp 96) (.const (.bool false)), false, none, false, false, []⟩,
  ⟨some 89, .assign (.tmp 97), false, none, false, false, []⟩]
def r32_19 : List Co := [
  ⟨some 98, .move (.tmp 0), false, none, false, false, []⟩,
  ⟨some 99, .move (.tmp 8), false, none, false, false, []⟩,
  ⟨some 100, .call ⟨.value (.func 61), #[(.tmp 98), (.tmp 99)], #[47, 3]⟩, false, none, false, false, []⟩]
def r32_20 : List Co := [
  ⟨some 4, .assign (.const (.slice none 0 0)), false, none, false, false, []⟩,
  ⟨some 5, .assign (.const (.int .i64 3)), false, none, false, false, []⟩,
  ⟨some 6, .assign (.const (.int .i64 0)), false, none, false, false, []⟩]
def r32_21 : List Co := [
  ⟨some 101, .move (.tmp 11), false, none, false, false, []⟩,
  ⟨some 102, .move (.tmp 101), false, none, false, false, []⟩,
  ⟨some 103, .move (.tmp 12), false, some (102, false), false, false, []⟩,
  ⟨some 104, .pick (.tmp 102) (.const (.bool true)) (.tmp 103), false, none, false, false, []⟩,
  ⟨some 105, .move (.tmp 104), false, none, false, false, []⟩,
  ⟨some 106, .fieldAddr 37 (.tmp 3) 2, false, some (105, false), false, false, []⟩,
  ⟨some 107, .load 4 (.tmp 106), false, some (105, false), false, false, []⟩,
  ⟨some 108, .unOp .not 4 (.tmp 107), false, some (105, false), false, false, []⟩,
  ⟨some 109, .move (.tmp 108), false, some (105, false), false, false, []⟩,
  ⟨some 110, .move (.tmp 10), false, some (109, true), false, false, []⟩,
  ⟨some 111, .call ⟨.value (.func 62), #[(.tmp 110)], #[22]⟩, false, some (109, true), false, false, []⟩,
  ⟨some 112, .binOp .lss 3 (.tmp 111) (.const (.int .i64 0)) 3, false, some (109, true), false, false, []⟩,
  ⟨some 113, .pick (.tmp 109) (.tmp 112) (.const (.bool false)), false, some (105, false), false, false, []⟩,
  ⟨some 114, .pick (.tmp 105) (.const (.bool true)) (.tmp 113), false, none, false, false, []⟩,
  ⟨some 13, .assign (.tmp 114), false, none, false, false, []⟩]
def r32_22 : List Co := [
  ⟨some 115, .fieldAddr 37 (.tmp 3) 3, false, none, false, false, []⟩,
  ⟨some 116, .load 25 (.tmp 115), false, none, false, false, []⟩,
  ⟨some 117, .call ⟨.builtin .append, #[(.const (.slice none 0 0)), (.tmp 116)], #[25, 25]⟩, true, none, false, false, []⟩,
  ⟨some 118, .fieldAddr 37 (.tmp 3) 3, false, none, false, false, []⟩,
  ⟨none, .store 25 (.tmp 118) (.tmp 117), false, none, false, false, []⟩]
def r32_23 : List Co := [
  ⟨some 119, .move (.tmp 10), false, none, false, false, []⟩,
  ⟨some 120, .call ⟨.builtin .append, #[(.const (.slice none 0 0)), (.tmp 119)], #[22, 22]⟩, false, none, true, false, []⟩,
  ⟨some 121, .load 37 (.tmp 3), false, none, true, true, []⟩,
  ⟨some 122, .buildSlice 22 1 #[(0, (.tmp 121))], true, none, false, false, []⟩,
  ⟨some 123, .call ⟨.builtin .append, #[(.tmp 120), (.tmp 122)], #[22, 22]⟩, false, none, false, false, []⟩,
  ⟨some 10, .assign (.tmp 123), false, none, false, false, []⟩]
def r32_24 : List Co := [
  ⟨some 125, .move (.tmp 10), false, none, false, false, []⟩,
  ⟨some 126, .move (.tmp 0), false, none, false, false, []⟩,
  ⟨some 127, .nilCheck (.tmp 126), false, none, false, false, []⟩,
  ⟨some 128, .fieldAddr 105 (.tmp 127) 0, false, none, false, false, []⟩,
  ⟨some 129, .load 3 (.tmp 128), false, none, false, false, []⟩,
  ⟨some 130, .call ⟨.value (.func 63), #[(.tmp 125), (.tmp 129)], #[22, 3]⟩, false, none, false, false, []⟩,
  ⟨some 124, .move (.tmp 130), false, none, false, false, []⟩,
  ⟨some 131, .extract (.tmp 124) 0, false, none, false, false, []⟩,
  ⟨some 132, .extract (.tmp 124) 1, false, none, false, false, []⟩,
  ⟨some 14, .assign (.tmp 131), false, none, false, false, []⟩,
  ⟨some 15, .assign (.tmp 132), false, none, false, false, []⟩]
def r32_25 : List Co := [
  ⟨some 133, .move (.tmp 15), false, none, false, false, []⟩]
def r32_26 : List Co := [
  ⟨some 134, .move (.tmp 0), false, none, false, false, []⟩,
  ⟨some 135, .move (.tmp 8), false, none, false, false, []⟩,
  ⟨some 136, .call ⟨.value (.func 61), #[(.tmp 134), (.tmp 135)], #[47, 3]⟩, false, none, false, false, []⟩]
def r32_27 : List Co := [
  ⟨some 137, .move (.tmp 14), false, none, false, false, []⟩,
  ⟨some 4, .assign (.tmp 137), false, none, false, false, []⟩,
  ⟨some 5, .assign (.const (.int .i64 1)), false, none, false, false, []⟩,
  ⟨some 6, .assign (.const (.int .i64 0)), false, none, false, false, []⟩]
def r32_28 : List Co := [
  ⟨some 138, .move (.tmp 0), false, none, false, false, []⟩,
  ⟨some 139, .move (.tmp 0), false, none, false, false, []⟩,
  ⟨some 140, .nilCheck (.tmp 139), false, none, false, false, []⟩,
  ⟨some 141, .fieldAddr 105 (.tmp 140) 1, false, none, false, false, []⟩,
  ⟨some 142, .load 103 (.tmp 141), false, none, false, false, []⟩,
  ⟨some 143, .call ⟨.builtin .append, #[(.const (.slice none 0 0)), (.tmp 142)], #[103, 103]⟩, false, none, false, false, []⟩,
  ⟨some 144, .nilCheck (.tmp 138), false, none, false, false, []⟩,
  ⟨some 145, .fieldAddr 105 (.tmp 144) 1, false, none, false, false, []⟩,
  ⟨none, .store 103 (.tmp 145) (.tmp 143), false, none, false, false, []⟩]
def r32_29 : List Co := [
  ⟨some 146, .move (.tmp 0), false, none, false, false, []⟩,
  ⟨some 147, .nilCheck (.tmp 146), false, none, false, false, []⟩,
  ⟨some 148, .fieldAddr 105 (.tmp 147) 1, false, none, false, false, []⟩,
  ⟨some 149, .load 103 (.tmp 148), false, none, false, false, []⟩,
  ⟨some 150, .move (.tmp 8), false, none, false, false, []⟩,
  ⟨some 151, .move (.tmp 10), false, none, false, false, []⟩,
  ⟨some 152, .indexAddr 103 (.tmp 149) (.tmp 150), false, none, false, false, []⟩,
  ⟨some 153, .fieldAddr 108 (.tmp 152) 1, false, none, false, false, []⟩,
  ⟨none, .store 22 (.tmp 153) (.tmp 151), false, none, false, false, []⟩]
def r32_30 : List Co := [
  ⟨some 154, .move (.tmp 13), false, none, false, false, []⟩,
  ⟨some 155, .unOp .not 4 (.tmp 154), false, none, false, false, []⟩]
def r32_31 : List Co := [
  ⟨some 4, .assign (.const (.slice none 0 0)), false, none, false, false, []⟩,
  ⟨some 5, .assign (.const (.int .i64 2)), false, none, false, false, []⟩,
  ⟨some 6, .assign (.const (.int .i64 0)), false, none, false, false, []⟩]
def r32_32 : List Co := [
  ⟨some 4, .assign (.const (.slice none 0 0)), false, none, false, false, []⟩,
  ⟨some 5, .assign (.const (.int .i64 0)), false, none, false, false, []⟩,
  ⟨some 6, .assign (.const (.int .i64 0)), false, none, false, false, []⟩]
/-- (*wireglass/wireglassref18.Table).Put -/
def c32 : Cc := (.seq (.reg r32_0) (.seq (.seq (.reg r32_1) (.seq (.reg r32_2) (.cond (.tmp 19) (.seq (.reg r32_3) .ret) .skip))) (.seq (.reg r32_4) (.seq (.reg r32_5) (.seq (.seq (.reg r32_6) (.cond (.tmp 38) (.seq (.seq (.reg r32_7) (.cond (.tmp 44) (.seq (.reg r32_8) .ret) .skip)) (.seq (.reg r32_9) (.reg r32_10))) .skip)) (.seq (.seq (.reg r32_11) (.cond (.tmp 63) (.seq (.reg r32_12) .ret) .skip)) (.seq (.reg r32_13) (.seq (.reg r32_14) (.seq (.block 0 (.seq (.reg r32_15) (.cond (.tmp 82) (.seq (.reg r32_16) (.seq (.reg r32_17) .ret)) (.seq (.reg r32_18) (.cond (.tmp 89) (.seq (.reg r32_19) (.seq (.reg r32_20) .ret)) .skip))))) (.seq (.reg r32_21) (.seq (.reg r32_22) (.seq (.reg r32_23) (.seq (.seq (.reg r32_24) (.seq (.reg r32_25) (.cond (.tmp 133) (.seq (.reg r32_26) (.seq (.reg r32_27) .ret)) .skip))) (.seq (.reg r32_28) (.seq (.reg r32_29) (.seq (.seq (.reg r32_30) (.cond (.tmp 155) (.seq (.reg r32_31) .ret) .skip)) (.seq (.reg r32_32) .ret)))))))))))))))))
def r33_0 : List Co := [
  ⟨some 1, .box 37 (.tmp 0), true, none, false, false, []⟩,
  ⟨some 2, .assign (.const (.bool false)), false, none, false, false, []⟩]
def r33_1 : List Co := [
  ⟨some 3, .load 37 (.tmp 1), false, none, false, false, []⟩,
  ⟨some 4, .call ⟨.value (.func 34), #[(.tmp 3)], #[37]⟩, false, none, false, false, []⟩,
  ⟨some 5, .unOp .not 4 (.tmp 4), false, none, false, false, []⟩,
  ⟨some 2, .assign (.tmp 5), false, none, false, false, []⟩]
/-- wireglass/frag.Overlaps$1 -/
def c33 : Cc := (.seq (.reg r33_0) (.seq (.reg r33_1) .ret))
def r34_0 : List Co := [
  ⟨some 1, .box 37 (.tmp 0), true, none, false, false, []⟩,
  ⟨some 2, .assign (.const (.bool false)), false, none, false, false, []⟩]
def r34_1 : List Co := [
  ⟨some 3, .fieldAddr 37 (.tmp 1) 0, false, none, false, false, []⟩,
  ⟨some 4, .load 3 (.tmp 3), false, none, false, false, []⟩,
  ⟨some 5, .binOp .geq 3 (.tmp 4) (.const (.int .i64 0)) 3, false, none, false, false, []⟩,
  ⟨some 6, .move (.tmp 5), false, none, false, false, []⟩,
  ⟨some 7, .fieldAddr 37 (.tmp 1) 0, false, some (6, true), false, false, []⟩,
  ⟨some 8, .load 3 (.tmp 7), false, some (6, true), false, false, []⟩,
  ⟨some 9, .binOp .leq 3 (.tmp 8) (.const (.int .i64 4294967295)) 3, false, some (6, true), false, false, []⟩,
  ⟨some 10, .pick (.tmp 6) (.tmp 9) (.const (.bool false)), false, none, false, false, []⟩,
  ⟨some 11, .move (.tmp 10), false, none, false, false, []⟩,
  ⟨some 12, .fieldAddr 37 (.tmp 1) 1, false, some (11, true), false, false, []⟩,
  ⟨some 13, .load 3 (.tmp 12), false, some (11, true), false, false, []⟩,
  ⟨some 14, .binOp .geq 3 (.tmp 13) (.const (.int .i64 0)) 3, false, some (11, true), false, false, []⟩,
  ⟨some 15, .pick (.tmp 11) (.tmp 14) (.const (.bool false)), false, none, false, false, []⟩,
  ⟨some 16, .move (.tmp 15), false, none, false, false, []⟩,
  ⟨some 17, .fieldAddr 37 (.tmp 1) 4, false, some (16, true), false, false, []⟩,
  ⟨some 18, .load 3 (.tmp 17), false, some (16, true), false, false, []⟩,
  ⟨some 19, .call ⟨.value (.func 48), #[(.tmp 18)], #[3]⟩, false, some (16, true), false, false, []⟩,
  ⟨some 20, .pick (.tmp 16) (.tmp 19) (.const (.bool false)), false, none, false, false, []⟩,
  ⟨some 2, .assign (.tmp 20), false, none, false, false, []⟩]
/-- wireglass/frag.isPiece -/
def c34 : Cc := (.seq (.reg r34_0) (.seq (.reg r34_1) .ret))
def r35_0 : List Co := [
  ⟨some 1, .box 37 (.tmp 0), true, none, false, false, []⟩,
  ⟨some 2, .assign (.const (.bool false)), false, none, false, false, []⟩]
def r35_1 : List Co := [
  ⟨some 3, .fieldAddr 37 (.tmp 1) 1, false, none, false, false, []⟩,
  ⟨some 4, .load 3 (.tmp 3), false, none, false, false, []⟩,
  ⟨some 5, .binOp .gtr 3 (.tmp 4) (.const (.int .i64 4000)) 3, false, none, false, false, []⟩,
  ⟨some 6, .move (.tmp 5), false, none, false, false, []⟩,
  ⟨some 7, .fieldAddr 37 (.tmp 1) 1, false, some (6, false), false, false, []⟩,
  ⟨some 8, .load 3 (.tmp 7), false, some (6, false), false, false, []⟩,
  ⟨some 9, .fieldAddr 37 (.tmp 1) 3, false, some (6, false), false, false, []⟩,
  ⟨some 10, .load 25 (.tmp 9), false, some (6, false), false, false, []⟩,
  ⟨some 11, .call ⟨.builtin .len, #[(.tmp 10)], #[25]⟩, false, some (6, false), false, false, []⟩,
  ⟨some 12, .binOp .add 3 (.tmp 8) (.tmp 11) 3, false, some (6, false), false, false, []⟩,
  ⟨some 13, .binOp .gtr 3 (.tmp 12) (.const (.int .i64 4000)) 3, false, some (6, false), false, false, []⟩,
  ⟨some 14, .pick (.tmp 6) (.const (.bool true)) (.tmp 13), false, none, false, false, []⟩,
  ⟨some 2, .assign (.tmp 14), false, none, false, false, []⟩]
/-- wireglass/frag.isFar -/
def c35 : Cc := (.seq (.reg r35_0) (.seq (.reg r35_1) .ret))
def r36_0 : List Co := [
  ⟨some 1, .box 37 (.tmp 0), true, none, false, false, []⟩,
  ⟨some 2, .assign (.const (.int .i64 0)), false, none, false, false, []⟩]
def r36_1 : List Co := [
  ⟨some 3, .fieldAddr 37 (.tmp 1) 0, false, none, false, false, []⟩,
  ⟨some 4, .load 3 (.tmp 3), false, none, false, false, []⟩,
  ⟨some 5, .binOp .lss 3 (.tmp 4) (.const (.int .i64 0)) 3, false, none, false, false, []⟩,
  ⟨some 6, .move (.tmp 5), false, none, false, false, []⟩,
  ⟨some 7, .fieldAddr 37 (.tmp 1) 0, false, some (6, false), false, false, []⟩,
  ⟨some 8, .load 3 (.tmp 7), false, some (6, false), false, false, []⟩,
  ⟨some 9, .binOp .gtr 3 (.tmp 8) (.const (.int .i64 4294967295)) 3, false, some (6, false), false, false, []⟩,
  ⟨some 10, .pick (.tmp 6) (.const (.bool true)) (.tmp 9), false, none, false, false, []⟩,
  ⟨some 11, .move (.tmp 10), false, none, false, false, []⟩,
  ⟨some 12, .fieldAddr 37 (.tmp 1) 1, false, some (11, false), false, false, []⟩,
  ⟨some 13, .load 3 (.tmp 12), false, some (11, false), false, false, []⟩,
  ⟨some 14, .binOp .lss 3 (.tmp 13) (.const (.int .i64 0)) 3, false, some (11, false), false, false, []⟩,
  ⟨some 15, .pick (.tmp 11) (.const (.bool true)) (.tmp 14), false, none, false, false, []⟩,
  ⟨some 16, .move (.tmp 15), false, none, false, false, []⟩,
  ⟨some 17, .fieldAddr 37 (.tmp 1) 4, false, some (16, false), false, false, []⟩,
  ⟨some 18, .load 3 (.tmp 17), false, some (16, false), false, false, []⟩,
  ⟨some 19, .binOp .lss 3 (.tmp 18) (.const (.int .i64 0)) 3, false, some (16, false), false, false, []⟩,
  ⟨some 20, .pick (.tmp 16) (.const (.bool true)) (.tmp 19), false, none, false, false, []⟩,
  ⟨some 21, .move (.tmp 20), false, none, false, false, []⟩,
  ⟨some 22, .fieldAddr 37 (.tmp 1) 4, false, some (21, false), false, false, []⟩,
  ⟨some 23, .load 3 (.tmp 22), false, some (21, false), false, false, []⟩,
  ⟨some 24, .binOp .gtr 3 (.tmp 23) (.const (.int .i64 1000000000000000)) 3, false, some (21, false), false, false, []⟩,
  ⟨some 25, .pick (.tmp 21) (.const (.bool true)) (.tmp 24), false, none, false, false, []⟩]
def r36_2 : List Co := [
  ⟨some 2, .assign (.const (.int .i64 1)), false, none, false, false, []⟩]
def r36_3 : List Co := [
  ⟨some 26, .fieldAddr 37 (.tmp 1) 1, false, none, false, false, []⟩,
  ⟨some 27, .load 3 (.tmp 26), false, none, false, false, []⟩,
  ⟨some 28, .binOp .gtr 3 (.tmp 27) (.const (.int .i64 4000)) 3, false, none, false, false, []⟩,
  ⟨some 29, .move (.tmp 28), false, none, false, false, []⟩,
  ⟨some 30, .load 37 (.tmp 1), false, some (29, false), false, false, []⟩,
  ⟨some 31, .call ⟨.value (.func 37), #[(.tmp 30)], #[37]⟩, false, some (29, false), false, false, []⟩,
  ⟨some 32, .binOp .gtr 3 (.tmp 31) (.const (.int .i64 4000)) 3, false, some (29, false), false, false, []⟩,
  ⟨some 33, .pick (.tmp 29) (.const (.bool true)) (.tmp 32), false, none, false, false, []⟩]
def r36_4 : List Co := [
  ⟨some 2, .assign (.const (.int .i64 3)), false, none, false, false, []⟩]
def r36_5 : List Co := [
  ⟨some 2, .assign (.const (.int .i64 0)), false, none, false, false, []⟩]
/-- wireglass/wireglassref18.asked -/
def c36 : Cc := (.seq (.reg r36_0) (.seq (.seq (.reg r36_1) (.cond (.tmp 25) (.seq (.reg r36_2) .ret) .skip)) (.seq (.seq (.reg r36_3) (.cond (.tmp 33) (.seq (.reg r36_4) .ret) .skip)) (.seq (.reg r36_5) .ret))))
def r37_0 : List Co := [
  ⟨some 1, .box 37 (.tmp 0), true, none, false, false, []⟩,
  ⟨some 2, .assign (.const (.int .i64 0)), false, none, false, false, []⟩]
def r37_1 : List Co := [
  ⟨some 3, .fieldAddr 37 (.tmp 1) 1, false, none, false, false, []⟩,
  ⟨some 4, .load 3 (.tmp 3), false, none, false, false, []⟩,
  ⟨some 5, .fieldAddr 37 (.tmp 1) 3, false, none, false, false, []⟩,
  ⟨some 6, .load 25 (.tmp 5), false, none, false, false, []⟩,
  ⟨some 7, .call ⟨.builtin .len, #[(.tmp 6)], #[25]⟩, false, none, false, false, []⟩,
  ⟨some 8, .binOp .add 3 (.tmp 4) (.tmp 7) 3, false, none, false, false, []⟩,
  ⟨some 2, .assign (.tmp 8), false, none, false, false, []⟩]
/-- wireglass/wireglassref18.end -/
def c37 : Cc := (.seq (.reg r37_0) (.seq (.reg r37_1) .ret))
def r38_0 : List Co := [
  ⟨some 2, .assign (.const (.slice none 0 0)), false, none, false, false, []⟩]
def r38_1 : List Co := [
  ⟨some 3, .move (.tmp 0), false, none, false, false, []⟩,
  ⟨some 4, .binOp .eql 25 (.tmp 3) (.const (.slice none 0 0)) 25, false, none, false, false, []⟩]
def r38_2 : List Co := [
  ⟨some 2, .assign (.const (.slice none 0 0)), false, none, false, false, []⟩]
def r38_3 : List Co := [
  ⟨some 5, .buildSlice 25 0 #[], false, none, false, false, []⟩,
  ⟨some 6, .move (.tmp 0), false, none, false, false, []⟩,
  ⟨some 7, .call ⟨.builtin .append, #[(.tmp 5), (.tmp 6)], #[25, 25]⟩, false, none, false, false, []⟩,
  ⟨some 2, .assign (.tmp 7), false, none, false, false, []⟩]
/-- slices.Clone[[]byte,byte] -/
def c38 : Cc := (.seq (.reg r38_0) (.seq (.seq (.reg r38_1) (.cond (.tmp 4) (.seq (.reg r38_2) .ret) .skip)) (.seq (.reg r38_3) .ret)))
def r44_0 : List Co := [
  ⟨some 3, .box 37 (.tmp 1), false, none, false, false, []⟩,
  ⟨some 4, .assign (.const (.bool false)), false, none, false, false, []⟩]
def r44_1 : List Co := [
  ⟨some 6, .fieldAddr 37 (.tmp 3) 1, false, none, false, false, []⟩,
  ⟨some 7, .load 3 (.tmp 6), false, none, false, false, []⟩,
  ⟨some 8, .fieldAddr 37 (.tmp 3) 3, false, none, false, false, []⟩,
  ⟨some 9, .load 25 (.tmp 8), false, none, false, false, []⟩,
  ⟨some 10, .call ⟨.builtin .len, #[(.tmp 9)], #[25]⟩, false, none, false, false, []⟩,
  ⟨some 11, .binOp .add 3 (.tmp 7) (.tmp 10) 3, false, none, false, false, []⟩,
  ⟨some 5, .assign (.tmp 11), false, none, false, false, []⟩]
def r44_2 : List Co := [
  ⟨some 12, .move (.tmp 0), false, none, false, false, []⟩,
  ⟨some 13, .nilCheck (.tmp 12), false, none, false, false, []⟩,
  ⟨some 14, .fieldAddr 86 (.tmp 13) 1, false, none, false, false, []⟩,
  ⟨some 15, .load 3 (.tmp 14), false, none, false, false, []⟩,
  ⟨some 16, .binOp .geq 3 (.tmp 15) (.const (.int .i64 0)) 3, false, none, false, false, []⟩,
  ⟨some 17, .move (.tmp 16), false, none, false, false, []⟩,
  ⟨some 18, .move (.tmp 5), false, some (17, true), false, false, []⟩,
  ⟨some 19, .move (.tmp 0), false, some (17, true), false, false, []⟩,
  ⟨some 20, .nilCheck (.tmp 19), false, some (17, true), false, false, []⟩,
  ⟨some 21, .fieldAddr 86 (.tmp 20) 1, false, some (17, true), false, false, []⟩,
  ⟨some 22, .load 3 (.tmp 21), false, some (17, true), false, false, []⟩,
  ⟨some 23, .binOp .gtr 3 (.tmp 18) (.tmp 22) 3, false, some (17, true), false, false, []⟩,
  ⟨some 24, .move (.tmp 23), false, some (17, true), false, false, []⟩,
  ⟨some 25, .fieldAddr 37 (.tmp 3) 3, false, some (24, true), false, false, []⟩,
  ⟨some 26, .load 25 (.tmp 25), false, some (24, true), false, false, []⟩,
  ⟨some 27, .call ⟨.builtin .len, #[(.tmp 26)], #[25]⟩, false, some (24, true), false, false, []⟩,
  ⟨some 28, .binOp .gtr 3 (.tmp 27) (.const (.int .i64 0)) 3, false, some (24, true), false, false, []⟩,
  ⟨some 29, .pick (.tmp 24) (.tmp 28) (.const (.bool false)), false, some (17, true), false, false, []⟩,
  ⟨some 30, .move (.tmp 29), false, some (17, true), false, false, []⟩,
  ⟨some 31, .fieldAddr 37 (.tmp 3) 2, false, some (30, false), false, false, []⟩,
  ⟨some 32, .load 4 (.tmp 31), false, some (30, false), false, false, []⟩,
  ⟨some 33, .unOp .not 4 (.tmp 32), false, some (30, false), false, false, []⟩,
  ⟨some 34, .move (.tmp 33), false, some (30, false), false, false, []⟩,
  ⟨some 35, .move (.tmp 5), false, some (34, true), false, false, []⟩,
  ⟨some 36, .move (.tmp 0), false, some (34, true), false, false, []⟩,
  ⟨some 37, .nilCheck (.tmp 36), false, some (34, true), false, false, []⟩,
  ⟨some 38, .fieldAddr 86 (.tmp 37) 1, false, some (34, true), false, false, []⟩,
  ⟨some 39, .load 3 (.tmp 38), false, some (34, true), false, false, []⟩,
  ⟨some 40, .binOp .neq 3 (.tmp 35) (.tmp 39) 3, false, some (34, true), false, false, []⟩,
  ⟨some 41, .pick (.tmp 34) (.tmp 40) (.const (.bool false)), false, some (30, false), false, false, []⟩,
  ⟨some 42, .pick (.tmp 30) (.const (.bool true)) (.tmp 41), false, some (17, true), false, false, []⟩,
  ⟨some 43, .pick (.tmp 17) (.tmp 42) (.const (.bool false)), false, none, false, false, []⟩]
def r44_3 : List Co := [
  ⟨some 4, .assign (.const (.bool false)), false, none, false, false, []⟩]
def r44_4 : List Co := [
  ⟨some 44, .fieldAddr 37 (.tmp 3) 2, false, none, false, false, []⟩,
  ⟨some 45, .load 4 (.tmp 44), false, none, false, false, []⟩,
  ⟨some 46, .move (.tmp 45), false, none, false, false, []⟩,
  ⟨some 47, .move (.tmp 5), false, some (46, false), false, false, []⟩,
  ⟨some 48, .move (.tmp 0), false, some (46, false), false, false, []⟩,
  ⟨some 49, .nilCheck (.tmp 48), false, some (46, false), false, false, []⟩,
  ⟨some 50, .fieldAddr 86 (.tmp 49) 0, false, some (46, false), false, false, []⟩,
  ⟨some 51, .load 84 (.tmp 50), false, some (46, false), false, false, []⟩,
  ⟨some 52, .call ⟨.builtin .len, #[(.tmp 51)], #[84]⟩, false, some (46, false), false, false, []⟩,
  ⟨some 53, .binOp .geq 3 (.tmp 47) (.tmp 52) 3, false, some (46, false), false, false, []⟩,
  ⟨some 54, .pick (.tmp 46) (.const (.bool true)) (.tmp 53), false, none, false, false, []⟩,
  ⟨some 4, .assign (.tmp 54), false, none, false, false, []⟩]
/-- (*wireglass/frag.whole).fits -/
def c44 : Cc := (.seq (.reg r44_0) (.seq (.reg r44_1) (.seq (.seq (.reg r44_2) (.cond (.tmp 43) (.seq (.reg r44_3) .ret) .skip)) (.seq (.reg r44_4) .ret))))
def r45_0 : List Co := [
  ⟨some 4, .box 37 (.tmp 1), true, none, false, false, []⟩,
  ⟨some 6, .assign (.const (.bool false)), false, none, false, false, []⟩,
  ⟨some 7, .assign (.const (.bool false)), false, none, false, false, []⟩]
def r45_1 : List Co := [
  ⟨some 8, .assign (.const (.bool false)), false, none, false, false, []⟩,
  ⟨some 9, .assign (.const (.bool false)), false, none, false, false, []⟩]
def r45_2 : List Co := [
  ⟨some 13, .move (.tmp 0), false, none, false, false, []⟩,
  ⟨some 14, .nilCheck (.tmp 13), false, none, false, false, []⟩,
  ⟨some 15, .fieldAddr 86 (.tmp 14) 0, false, none, false, false, []⟩,
  ⟨some 16, .load 84 (.tmp 15), false, none, false, false, []⟩,
  ⟨some 17, .call ⟨.builtin .len, #[(.tmp 16)], #[84]⟩, false, none, false, false, []⟩,
  ⟨some 18, .fieldAddr 37 (.tmp 4) 1, false, none, false, false, []⟩,
  ⟨some 19, .load 3 (.tmp 18), false, none, false, false, []⟩,
  ⟨some 20, .fieldAddr 37 (.tmp 4) 3, false, none, false, false, []⟩,
  ⟨some 21, .load 25 (.tmp 20), false, none, false, false, []⟩,
  ⟨some 22, .call ⟨.builtin .len, #[(.tmp 21)], #[25]⟩, false, none, false, false, []⟩,
  ⟨some 23, .binOp .add 3 (.tmp 19) (.tmp 22) 3, false, none, false, false, []⟩,
  ⟨some 24, .binOp .lss 3 (.tmp 17) (.tmp 23) 3, false, none, false, false, []⟩,
  ⟨some 25, .move (.tmp 24), false, none, false, false, []⟩,
  ⟨some 26, .fieldAddr 37 (.tmp 4) 3, false, some (25, true), false, false, []⟩,
  ⟨some 27, .load 25 (.tmp 26), false, some (25, true), false, false, []⟩,
  ⟨some 28, .call ⟨.builtin .len, #[(.tmp 27)], #[25]⟩, false, some (25, true), false, false, []⟩,
  ⟨some 29, .binOp .gtr 3 (.tmp 28) (.const (.int .i64 0)) 3, false, some (25, true), false, false, []⟩,
  ⟨some 30, .pick (.tmp 25) (.tmp 29) (.const (.bool false)), false, none, false, false, []⟩]
def r45_3 : List Co := [
  ⟨some 31, .move (.tmp 0), false, none, false, false, []⟩,
  ⟨some 32, .move (.tmp 0), false, none, false, false, []⟩,
  ⟨some 33, .nilCheck (.tmp 32), false, none, false, false, []⟩,
  ⟨some 34, .fieldAddr 86 (.tmp 33) 0, false, none, false, false, []⟩,
  ⟨some 35, .load 84 (.tmp 34), false, none, false, false, []⟩,
  ⟨some 36, .build 97 #[], false, none, false, false, []⟩,
  ⟨some 37, .buildSlice 84 1 #[(0, (.tmp 36))], true, none, false, false, []⟩,
  ⟨some 38, .call ⟨.builtin .append, #[(.tmp 35), (.tmp 37)], #[84, 84]⟩, false, none, false, false, []⟩,
  ⟨some 39, .nilCheck (.tmp 31), false, none, false, false, []⟩,
  ⟨some 40, .fieldAddr 86 (.tmp 39) 0, false, none, false, false, []⟩,
  ⟨none, .store 84 (.tmp 40) (.tmp 38), false, none, false, false, []⟩]
def l45_4 : Cc := (.seq (.seq (.reg r45_2) (.cond (.tmp 30) .skip (.exit 0))) (.block 1 (.reg r45_3)))
def r45_5 : List Co := [
  ⟨some 41, .fieldAddr 37 (.tmp 4) 3, false, none, false, false, []⟩,
  ⟨some 42, .load 25 (.tmp 41), false, none, false, false, []⟩,
  ⟨some 43, .call ⟨.builtin .len, #[(.tmp 42)], #[25]⟩, false, none, false, false, []⟩,
  ⟨some 44, .move (.const (.int .i64 0)), false, none, false, false, []⟩]
def r45_6 : List Co := [
  ⟨some 45, .binOp .lss 3 (.tmp 44) (.tmp 43) 3, false, none, false, false, []⟩]
def r45_7 : List Co := [
  ⟨some 46, .move (.tmp 44), false, none, false, false, []⟩,
  ⟨some 47, .indexAddr 25 (.tmp 42) (.tmp 44), false, none, false, false, []⟩,
  ⟨some 48, .load 5 (.tmp 47), false, none, false, false, []⟩,
  ⟨some 10, .assign (.tmp 46), false, none, false, false, []⟩,
  ⟨some 11, .assign (.tmp 48), false, none, false, false, []⟩]
def r45_8 : List Co := [
  ⟨some 49, .move (.tmp 0), false, none, false, false, []⟩,
  ⟨some 50, .nilCheck (.tmp 49), false, none, false, false, []⟩,
  ⟨some 51, .fieldAddr 86 (.tmp 50) 0, false, none, false, false, []⟩,
  ⟨some 52, .load 84 (.tmp 51), false, none, false, false, []⟩,
  ⟨some 53, .fieldAddr 37 (.tmp 4) 1, false, none, false, false, []⟩,
  ⟨some 54, .load 3 (.tmp 53), false, none, false, false, []⟩,
  ⟨some 55, .move (.tmp 10), false, none, false, false, []⟩,
  ⟨some 56, .binOp .add 3 (.tmp 54) (.tmp 55) 3, false, none, false, false, []⟩,
  ⟨some 57, .indexAddr 84 (.tmp 52) (.tmp 56), false, none, false, false, []⟩,
  ⟨some 12, .assign (.tmp 57), false, none, false, false, []⟩]
def r45_9 : List Co := [
  ⟨some 58, .move (.tmp 12), false, none, false, false, []⟩,
  ⟨some 59, .nilCheck (.tmp 58), false, none, false, false, []⟩,
  ⟨some 60, .fieldAddr 97 (.tmp 59) 0, false, none, false, false, []⟩,
  ⟨some 61, .load 4 (.tmp 60), false, none, false, false, []⟩,
  ⟨some 62, .move (.tmp 61), false, none, false, false, []⟩,
  ⟨some 63, .move (.tmp 12), false, some (62, true), false, false, []⟩,
  ⟨some 64, .nilCheck (.tmp 63), false, some (62, true), false, false, []⟩,
  ⟨some 65, .fieldAddr 97 (.tmp 64) 1, false, some (62, true), false, false, []⟩,
  ⟨some 66, .load 5 (.tmp 65), false, some (62, true), false, false, []⟩,
  ⟨some 67, .move (.tmp 11), false, some (62, true), false, false, []⟩,
  ⟨some 68, .binOp .eql 5 (.tmp 66) (.tmp 67) 5, false, some (62, true), false, false, []⟩,
  ⟨some 69, .pick (.tmp 62) (.tmp 68) (.const (.bool false)), false, none, false, false, []⟩,
  ⟨some 70, .move (.tmp 69), false, none, false, false, []⟩,
  ⟨some 71, .move (.tmp 2), false, some (70, true), false, false, []⟩,
  ⟨some 72, .binOp .neq 3 (.tmp 71) (.const (.int .i64 2)) 3, false, some (70, true), false, false, []⟩,
  ⟨some 73, .move (.tmp 72), false, some (70, true), false, false, []⟩,
  ⟨some 74, .move (.tmp 12), false, some (73, false), false, false, []⟩,
  ⟨some 75, .nilCheck (.tmp 74), false, some (73, false), false, false, []⟩,
  ⟨some 76, .fieldAddr 97 (.tmp 75) 2, false, some (73, false), false, false, []⟩,
  ⟨some 77, .load 3 (.tmp 76), false, some (73, false), false, false, []⟩,
  ⟨some 78, .fieldAddr 37 (.tmp 4) 1, false, some (73, false), false, false, []⟩,
  ⟨some 79, .load 3 (.tmp 78), false, some (73, false), false, false, []⟩,
  ⟨some 80, .binOp .leq 3 (.tmp 77) (.tmp 79) 3, false, some (73, false), false, false, []⟩,
  ⟨some 81, .pick (.tmp 73) (.const (.bool true)) (.tmp 80), false, some (70, true), false, false, []⟩,
  ⟨some 82, .pick (.tmp 70) (.tmp 81) (.const (.bool false)), false, none, false, false, []⟩]
def r45_10 : List Co := [
  ⟨some 83, .move (.tmp 12), false, none, false, false, []⟩,
  ⟨some 84, .nilCheck (.tmp 83), false, none, false, false, []⟩,
  ⟨some 85, .fieldAddr 97 (.tmp 84) 0, false, none, false, false, []⟩,
  ⟨some 86, .load 4 (.tmp 85), false, none, false, false, []⟩,
  ⟨some 87, .unOp .not 4 (.tmp 86), false, none, false, false, []⟩,
  ⟨some 88, .move (.tmp 87), false, none, false, false, []⟩,
  ⟨some 89, .move (.tmp 12), false, some (88, false), false, false, []⟩,
  ⟨some 90, .nilCheck (.tmp 89), false, some (88, false), false, false, []⟩,
  ⟨some 91, .fieldAddr 97 (.tmp 90) 1, false, some (88, false), false, false, []⟩,
  ⟨some 92, .load 5 (.tmp 91), false, some (88, false), false, false, []⟩,
  ⟨some 93, .move (.tmp 11), false, some (88, false), false, false, []⟩,
  ⟨some 94, .binOp .neq 5 (.tmp 92) (.tmp 93) 5, false, some (88, false), false, false, []⟩,
  ⟨some 95, .pick (.tmp 88) (.const (.bool true)) (.tmp 94), false, none, false, false, []⟩]
def r45_11 : List Co := [
  ⟨some 8, .assign (.const (.bool true)), false, none, false, false, []⟩]
def r45_12 : List Co := [
  ⟨some 96, .move (.tmp 9), false, none, false, false, []⟩,
  ⟨some 97, .move (.tmp 96), false, none, false, false, []⟩,
  ⟨some 98, .move (.tmp 12), false, some (97, false), false, false, []⟩,
  ⟨some 99, .nilCheck (.tmp 98), false, some (97, false), false, false, []⟩,
  ⟨some 100, .fieldAddr 97 (.tmp 99) 0, false, some (97, false), false, false, []⟩,
  ⟨some 101, .load 4 (.tmp 100), false, some (97, false), false, false, []⟩,
  ⟨some 102, .move (.tmp 101), false, some (97, false), false, false, []⟩,
  ⟨some 103, .move (.tmp 12), false, some (102, true), false, false, []⟩,
  ⟨some 104, .nilCheck (.tmp 103), false, some (102, true), false, false, []⟩,
  ⟨some 105, .fieldAddr 97 (.tmp 104) 1, false, some (102, true), false, false, []⟩,
  ⟨some 106, .load 5 (.tmp 105), false, some (102, true), false, false, []⟩,
  ⟨some 107, .move (.tmp 11), false, some (102, true), false, false, []⟩,
  ⟨some 108, .binOp .neq 5 (.tmp 106) (.tmp 107) 5, false, some (102, true), false, false, []⟩,
  ⟨some 109, .pick (.tmp 102) (.tmp 108) (.const (.bool false)), false, some (97, false), false, false, []⟩,
  ⟨some 110, .pick (.tmp 97) (.const (.bool true)) (.tmp 109), false, none, false, false, []⟩,
  ⟨some 9, .assign (.tmp 110), false, none, false, false, []⟩]
def r45_13 : List Co := [
  ⟨some 111, .move (.tmp 12), false, none, false, false, []⟩,
  ⟨some 112, .nilCheck (.tmp 111), false, none, false, false, []⟩,
  ⟨some 113, .fieldAddr 97 (.tmp 112) 0, false, none, false, false, []⟩,
  ⟨some 114, .load 4 (.tmp 113), false, none, false, false, []⟩,
  ⟨some 115, .unOp .not 4 (.tmp 114), false, none, false, false, []⟩,
  ⟨some 116, .move (.tmp 115), false, none, false, false, []⟩,
  ⟨some 117, .move (.tmp 2), false, some (116, false), false, false, []⟩,
  ⟨some 118, .binOp .eql 3 (.tmp 117) (.const (.int .i64 1)) 3, false, some (116, false), false, false, []⟩,
  ⟨some 119, .pick (.tmp 116) (.const (.bool true)) (.tmp 118), false, none, false, false, []⟩,
  ⟨some 120, .move (.tmp 119), false, none, false, false, []⟩,
  ⟨some 121, .move (.tmp 2), false, some (120, false), false, false, []⟩,
  ⟨some 122, .binOp .eql 3 (.tmp 121) (.const (.int .i64 2)) 3, false, some (120, false), false, false, []⟩,
  ⟨some 123, .move (.tmp 122), false, some (120, false), false, false, []⟩,
  ⟨some 124, .fieldAddr 37 (.tmp 4) 1, false, some (123, true), false, false, []⟩,
  ⟨some 125, .load 3 (.tmp 124), false, some (123, true), false, false, []⟩,
  ⟨some 126, .move (.tmp 12), false, some (123, true), false, false, []⟩,
  ⟨some 127, .nilCheck (.tmp 126), false, some (123, true), false, false, []⟩,
  ⟨some 128, .fieldAddr 97 (.tmp 127) 2, false, some (123, true), false, false, []⟩,
  ⟨some 129, .load 3 (.tmp 128), false, some (123, true), false, false, []⟩,
  ⟨some 130, .binOp .lss 3 (.tmp 125) (.tmp 129) 3, false, some (123, true), false, false, []⟩,
  ⟨some 131, .pick (.tmp 123) (.tmp 130) (.const (.bool false)), false, some (120, false), false, false, []⟩,
  ⟨some 132, .pick (.tmp 120) (.const (.bool true)) (.tmp 131), false, none, false, false, []⟩]
def r45_14 : List Co := [
  ⟨some 133, .move (.tmp 12), false, none, false, false, []⟩,
  ⟨some 134, .move (.tmp 11), false, none, false, false, []⟩,
  ⟨some 135, .fieldAddr 37 (.tmp 4) 1, false, none, false, false, []⟩,
  ⟨some 136, .load 3 (.tmp 135), false, none, false, false, []⟩,
  ⟨some 137, .build 97 #[(0, (.const (.bool true))), (1, (.tmp 134)), (2, (.tmp 136))], false, none, false, false, []⟩,
  ⟨some 138, .nilCheck (.tmp 133), false, none, false, false, []⟩,
  ⟨none, .store 97 (.tmp 138) (.tmp 137), false, none, false, false, []⟩]
def r45_15 : List Co := [
  ⟨some 139, .binOp .add 3 (.tmp 44) (.const (.int .i64 1)) 3, false, none, false, false, []⟩,
  ⟨some 44, .move (.tmp 139), false, none, false, false, []⟩]
def l45_16 : Cc := (.seq (.reg r45_6) (.seq (.cond (.tmp 45) .skip (.exit 2)) (.seq (.block 3 (.seq (.reg r45_7) (.seq (.reg r45_8) (.seq (.seq (.reg r45_9) (.cond (.tmp 82) (.exit 3) .skip)) (.seq (.seq (.reg r45_10) (.cond (.tmp 95) (.reg r45_11) .skip)) (.seq (.reg r45_12) (.seq (.reg r45_13) (.cond (.tmp 132) (.reg r45_14) .skip)))))))) (.reg r45_15))))
def r45_17 : List Co := [
  ⟨some 140, .fieldAddr 37 (.tmp 4) 2, false, none, false, false, []⟩,
  ⟨some 141, .load 4 (.tmp 140), false, none, false, false, []⟩,
  ⟨some 142, .unOp .not 4 (.tmp 141), false, none, false, false, []⟩,
  ⟨some 143, .move (.tmp 142), false, none, false, false, []⟩,
  ⟨some 144, .move (.tmp 0), false, some (143, true), false, false, []⟩,
  ⟨some 145, .nilCheck (.tmp 144), false, some (143, true), false, false, []⟩,
  ⟨some 146, .fieldAddr 86 (.tmp 145) 1, false, some (143, true), false, false, []⟩,
  ⟨some 147, .load 3 (.tmp 146), false, some (143, true), false, false, []⟩,
  ⟨some 148, .binOp .lss 3 (.tmp 147) (.const (.int .i64 0)) 3, false, some (143, true), false, false, []⟩,
  ⟨some 149, .pick (.tmp 143) (.tmp 148) (.const (.bool false)), false, none, false, false, []⟩]
def r45_18 : List Co := [
  ⟨some 150, .move (.tmp 0), false, none, false, false, []⟩,
  ⟨some 151, .fieldAddr 37 (.tmp 4) 1, false, none, false, false, []⟩,
  ⟨some 152, .load 3 (.tmp 151), false, none, false, false, []⟩,
  ⟨some 153, .fieldAddr 37 (.tmp 4) 3, false, none, false, false, []⟩,
  ⟨some 154, .load 25 (.tmp 153), false, none, false, false, []⟩,
  ⟨some 155, .call ⟨.builtin .len, #[(.tmp 154)], #[25]⟩, false, none, false, false, []⟩,
  ⟨some 156, .binOp .add 3 (.tmp 152) (.tmp 155) 3, false, none, false, false, []⟩,
  ⟨some 157, .nilCheck (.tmp 150), false, none, false, false, []⟩,
  ⟨some 158, .fieldAddr 86 (.tmp 157) 1, false, none, false, false, []⟩,
  ⟨none, .store 3 (.tmp 158) (.tmp 156), false, none, false, false, []⟩]
def r45_19 : List Co := [
  ⟨some 8, .assign (.const (.bool true)), false, none, false, false, []⟩]
def r45_20 : List Co := [
  ⟨some 159, .move (.tmp 8), false, none, false, false, []⟩,
  ⟨some 160, .move (.tmp 9), false, none, false, false, []⟩,
  ⟨some 6, .assign (.tmp 159), false, none, false, false, []⟩,
  ⟨some 7, .assign (.tmp 160), false, none, false, false, []⟩]
/-- (*wireglass/frag.whole).put -/
def c45 : Cc := (.seq (.reg r45_0) (.seq (.reg r45_1) (.seq (.block 0 (.loop l45_4)) (.seq (.seq (.reg r45_5) (.block 2 (.loop l45_16))) (.seq (.seq (.reg r45_17) (.cond (.tmp 149) (.seq (.reg r45_18) (.reg r45_19)) .skip)) (.seq (.reg r45_20) .ret))))))
def r46_0 : List Co := [
  ⟨some 2, .assign (.const (.bool false)), false, none, false, false, []⟩]
def r46_1 : List Co := [
  ⟨some 3, .move (.tmp 0), false, none, false, false, []⟩,
  ⟨some 4, .nilCheck (.tmp 3), false, none, false, false, []⟩,
  ⟨some 5, .fieldAddr 86 (.tmp 4) 1, false, none, false, false, []⟩,
  ⟨some 6, .load 3 (.tmp 5), false, none, false, false, []⟩,
  ⟨some 7, .move (.tmp 0), false, none, false, false, []⟩,
  ⟨some 8, .nilCheck (.tmp 7), false, none, false, false, []⟩,
  ⟨some 9, .fieldAddr 86 (.tmp 8) 0, false, none, false, false, []⟩,
  ⟨some 10, .load 84 (.tmp 9), false, none, false, false, []⟩,
  ⟨some 11, .call ⟨.builtin .len, #[(.tmp 10)], #[84]⟩, false, none, false, false, []⟩,
  ⟨some 12, .binOp .eql 3 (.tmp 6) (.tmp 11) 3, false, none, false, false, []⟩,
  ⟨some 13, .move (.tmp 12), false, none, false, false, []⟩,
  ⟨some 14, .move (.tmp 0), false, some (13, true), false, false, []⟩,
  ⟨some 15, .nilCheck (.tmp 14), false, some (13, true), false, false, []⟩,
  ⟨some 16, .fieldAddr 86 (.tmp 15) 0, false, some (13, true), false, false, []⟩,
  ⟨some 17, .load 84 (.tmp 16), false, some (13, true), false, false, []⟩,
  ⟨some 18, .call ⟨.value (.func 70), #[(.tmp 17), (.func 71)], #[84, 120]⟩, false, some (13, true), false, false, []⟩,
  ⟨some 19, .unOp .not 4 (.tmp 18), false, some (13, true), false, false, []⟩,
  ⟨some 20, .pick (.tmp 13) (.tmp 19) (.const (.bool false)), false, none, false, false, []⟩,
  ⟨some 2, .assign (.tmp 20), false, none, false, false, []⟩]
/-- (*wireglass/frag.whole).isComplete -/
def c46 : Cc := (.seq (.reg r46_0) (.seq (.reg r46_1) .ret))
def r47_0 : List Co := [
  ⟨some 2, .assign (.const (.slice none 0 0)), false, none, false, false, []⟩]
def r47_1 : List Co := [
  ⟨some 3, .assign (.const (.slice none 0 0)), false, none, false, false, []⟩]
def r47_2 : List Co := [
  ⟨some 6, .move (.tmp 0), false, none, false, false, []⟩,
  ⟨some 7, .nilCheck (.tmp 6), false, none, false, false, []⟩,
  ⟨some 8, .fieldAddr 86 (.tmp 7) 0, false, none, false, false, []⟩,
  ⟨some 9, .load 84 (.tmp 8), false, none, false, false, []⟩,
  ⟨some 10, .call ⟨.builtin .len, #[(.tmp 9)], #[84]⟩, false, none, false, false, []⟩,
  ⟨some 11, .move (.const (.int .i64 0)), false, none, false, false, []⟩]
def r47_3 : List Co := [
  ⟨some 12, .binOp .lss 3 (.tmp 11) (.tmp 10) 3, false, none, false, false, []⟩]
def r47_4 : List Co := [
  ⟨some 13, .indexAddr 84 (.tmp 9) (.tmp 11), false, none, false, false, []⟩,
  ⟨some 14, .load 97 (.tmp 13), false, none, false, false, []⟩,
  ⟨some 5, .alloc 97, false, none, false, false, []⟩,
  ⟨none, .store 97 (.tmp 5) (.tmp 14), false, none, false, false, []⟩]
def r47_5 : List Co := [
  ⟨some 15, .move (.tmp 3), false, none, false, false, []⟩,
  ⟨some 16, .fieldAddr 97 (.tmp 5) 1, false, none, false, false, []⟩,
  ⟨some 17, .load 5 (.tmp 16), false, none, false, false, []⟩,
  ⟨some 18, .buildSlice 25 1 #[(0, (.tmp 17))], true, none, false, false, []⟩,
  ⟨some 19, .call ⟨.builtin .append, #[(.tmp 15), (.tmp 18)], #[25, 25]⟩, false, none, false, false, []⟩,
  ⟨some 3, .assign (.tmp 19), false, none, false, false, []⟩]
def r47_6 : List Co := [
  ⟨some 20, .binOp .add 3 (.tmp 11) (.const (.int .i64 1)) 3, false, none, false, false, []⟩,
  ⟨some 11, .move (.tmp 20), false, none, false, false, []⟩]
def l47_7 : Cc := (.seq (.reg r47_3) (.seq (.cond (.tmp 12) .skip (.exit 0)) (.seq (.block 1 (.seq (.reg r47_4) (.reg r47_5))) (.reg r47_6))))
def r47_8 : List Co := [
  ⟨some 21, .move (.tmp 3), false, none, false, false, []⟩,
  ⟨some 2, .assign (.tmp 21), false, none, false, false, []⟩]
/-- (*wireglass/frag.whole).bytes -/
def c47 : Cc := (.seq (.reg r47_0) (.seq (.reg r47_1) (.seq (.seq (.reg r47_2) (.block 0 (.loop l47_7))) (.seq (.reg r47_8) .ret))))
def r48_0 : List Co := [
  ⟨some 2, .assign (.const (.bool false)), false, none, false, false, []⟩]
def r48_1 : List Co := [
  ⟨some 3, .move (.tmp 0), false, none, false, false, []⟩,
  ⟨some 4, .binOp .geq 3 (.tmp 3) (.const (.int .i64 0)) 3, false, none, false, false, []⟩,
  ⟨some 5, .move (.tmp 4), false, none, false, false, []⟩,
  ⟨some 6, .move (.tmp 0), false, some (5, true), false, false, []⟩,
  ⟨some 7, .binOp .leq 3 (.tmp 6) (.const (.int .i64 1000000000000000)) 3, false, some (5, true), false, false, []⟩,
  ⟨some 8, .pick (.tmp 5) (.tmp 7) (.const (.bool false)), false, none, false, false, []⟩,
  ⟨some 2, .assign (.tmp 8), false, none, false, false, []⟩]
/-- wireglass/frag.isTime -/
def c48 : Cc := (.seq (.reg r48_0) (.seq (.reg r48_1) .ret))
def r57_0 : List Co := [
  ⟨some 4, .assign (.const (.int .i64 0)), false, none, false, false, []⟩]
def r57_1 : List Co := [
  ⟨some 6, .move (.tmp 0), false, none, false, false, []⟩,
  ⟨some 7, .call ⟨.builtin .len, #[(.tmp 6)], #[22]⟩, false, none, false, false, []⟩,
  ⟨some 8, .move (.const (.int .i64 0)), false, none, false, false, []⟩]
def r57_2 : List Co := [
  ⟨some 9, .binOp .lss 3 (.tmp 8) (.tmp 7) 3, false, none, false, false, []⟩]
def r57_3 : List Co := [
  ⟨some 10, .move (.tmp 8), false, none, false, false, []⟩,
  ⟨some 5, .assign (.tmp 10), false, none, false, false, []⟩]
def r57_4 : List Co := [
  ⟨some 11, .move (.tmp 1), false, none, false, false, []⟩,
  ⟨some 12, .move (.tmp 0), false, none, false, false, []⟩,
  ⟨some 13, .move (.tmp 5), false, none, false, false, []⟩,
  ⟨some 14, .indexAddr 22 (.tmp 12) (.tmp 13), false, none, false, false, []⟩,
  ⟨some 15, .load 37 (.tmp 14), false, none, false, false, []⟩,
  ⟨some 16, .call ⟨.value (.tmp 11), #[(.tmp 15)], #[37]⟩, false, none, false, false, []⟩]
def r57_5 : List Co := [
  ⟨some 17, .move (.tmp 5), false, none, false, false, []⟩,
  ⟨some 4, .assign (.tmp 17), false, none, false, false, []⟩]
def r57_6 : List Co := [
  ⟨some 18, .binOp .add 3 (.tmp 8) (.const (.int .i64 1)) 3, false, none, false, false, []⟩,
  ⟨some 8, .move (.tmp 18), false, none, false, false, []⟩]
def l57_7 : Cc := (.seq (.reg r57_2) (.seq (.cond (.tmp 9) .skip (.exit 0)) (.seq (.block 1 (.seq (.reg r57_3) (.seq (.reg r57_4) (.cond (.tmp 16) (.seq (.reg r57_5) .ret) .skip)))) (.reg r57_6))))
def r57_8 : List Co := [
  ⟨some 4, .assign (.const (.int .i64 (-1))), false, none, false, false, []⟩]
/-- slices.IndexFunc[[]wireglass/api.Piece,wireglass/api.Piece] -/
def c57 : Cc := (.seq (.reg r57_0) (.seq (.seq (.reg r57_1) (.block 0 (.loop l57_7))) (.seq (.reg r57_8) .ret)))
def r58_0 : List Co := [
  ⟨some 4, .assign (.const (.int .i64 0)), false, none, false, false, []⟩]
def r58_1 : List Co := [
  ⟨some 5, .assign (.const (.int .i64 0)), false, none, false, false, []⟩]
def r58_2 : List Co := [
  ⟨some 6, .move (.tmp 5), false, none, false, false, []⟩,
  ⟨some 7, .move (.tmp 0), false, none, false, false, []⟩,
  ⟨some 8, .nilCheck (.tmp 7), false, none, false, false, []⟩,
  ⟨some 9, .fieldAddr 105 (.tmp 8) 1, false, none, false, false, []⟩,
  ⟨some 10, .load 103 (.tmp 9), false, none, false, false, []⟩,
  ⟨some 11, .call ⟨.builtin .len, #[(.tmp 10)], #[103]⟩, false, none, false, false, []⟩,
  ⟨some 12, .binOp .lss 3 (.tmp 6) (.tmp 11) 3, false, none, false, false, []⟩]
def r58_3 : List Co := [
  ⟨some 15, .move (.tmp 0), false, none, false, false, []⟩,
  ⟨some 16, .nilCheck (.tmp 15), false, none, false, false, []⟩,
  ⟨some 17, .fieldAddr 105 (.tmp 16) 1, false, none, false, false, []⟩,
  ⟨some 18, .load 103 (.tmp 17), false, none, false, false, []⟩,
  ⟨some 19, .move (.tmp 5), false, none, false, false, []⟩,
  ⟨some 20, .indexAddr 103 (.tmp 18) (.tmp 19), false, none, false, false, []⟩,
  ⟨some 21, .fieldAddr 108 (.tmp 20) 0, false, none, false, false, []⟩,
  ⟨some 22, .load 3 (.tmp 21), false, none, false, false, []⟩,
  ⟨some 23, .move (.tmp 1), false, none, false, false, []⟩,
  ⟨some 24, .binOp .eql 3 (.tmp 22) (.tmp 23) 3, false, none, false, false, []⟩]
def r58_4 : List Co := [
  ⟨some 25, .move (.tmp 5), false, none, false, false, []⟩,
  ⟨some 4, .assign (.tmp 25), false, none, false, false, []⟩]
def r58_5 : List Co := [
  ⟨some 13, .move (.tmp 5), false, none, false, false, []⟩,
  ⟨some 14, .binOp .add 3 (.tmp 13) (.const (.int .i64 1)) 3, false, none, false, false, []⟩,
  ⟨some 5, .assign (.tmp 14), false, none, false, false, []⟩]
def l58_6 : Cc := (.seq (.seq (.reg r58_2) (.cond (.tmp 12) .skip (.exit 0))) (.seq (.block 1 (.seq (.reg r58_3) (.cond (.tmp 24) (.seq (.reg r58_4) .ret) .skip))) (.reg r58_5)))
def r58_7 : List Co := [
  ⟨some 4, .assign (.const (.int .i64 (-1))), false, none, false, false, []⟩]
/-- (*wireglass/wireglassref18.Table).find -/
def c58 : Cc := (.seq (.reg r58_0) (.seq (.seq (.reg r58_1) (.block 0 (.loop l58_6))) (.seq (.reg r58_7) .ret)))
def r59_0 : List Co := [
  ⟨some 5, .box 37 (.tmp 2), true, none, false, false, []⟩,
  ⟨some 6, .assign (.const (.bool false)), false, none, false, false, []⟩,
  ⟨some 7, .assign (.const (.bool false)), false, none, false, false, []⟩]
def r59_1 : List Co := [
  ⟨some 8, .assign (.const (.bool false)), false, none, false, false, []⟩,
  ⟨some 9, .assign (.const (.bool false)), false, none, false, false, []⟩]
def r59_2 : List Co := [
  ⟨some 13, .fieldAddr 37 (.tmp 5) 1, false, none, false, false, []⟩,
  ⟨some 14, .load 3 (.tmp 13), false, none, false, false, []⟩,
  ⟨some 10, .assign (.tmp 14), false, none, false, false, []⟩]
def r59_3 : List Co := [
  ⟨some 15, .move (.tmp 10), false, none, false, false, []⟩,
  ⟨some 16, .load 37 (.tmp 5), false, none, false, false, []⟩,
  ⟨some 17, .call ⟨.value (.func 37), #[(.tmp 16)], #[37]⟩, false, none, false, false, []⟩,
  ⟨some 18, .binOp .lss 3 (.tmp 15) (.tmp 17) 3, false, none, false, false, []⟩]
def r59_4 : List Co := [
  ⟨some 22, .move (.tmp 0), false, none, false, false, []⟩,
  ⟨some 23, .move (.tmp 1), false, none, false, false, []⟩,
  ⟨some 24, .move (.tmp 10), false, none, false, false, []⟩,
  ⟨some 25, .call ⟨.value (.func 75), #[(.tmp 22), (.tmp 23), (.tmp 24)], #[22, 3, 3]⟩, false, none, false, false, []⟩,
  ⟨some 21, .move (.tmp 25), false, none, false, false, []⟩,
  ⟨some 26, .extract (.tmp 21) 0, false, none, false, false, []⟩,
  ⟨some 27, .extract (.tmp 21) 1, false, none, false, false, []⟩,
  ⟨some 11, .assign (.tmp 26), false, none, false, false, []⟩,
  ⟨some 12, .assign (.tmp 27), false, none, false, false, []⟩]
def r59_5 : List Co := [
  ⟨some 28, .move (.tmp 8), false, none, false, false, []⟩,
  ⟨some 29, .move (.tmp 28), false, none, false, false, []⟩,
  ⟨some 30, .move (.tmp 12), false, some (29, false), false, false, []⟩,
  ⟨some 31, .unOp .not 4 (.tmp 30), false, some (29, false), false, false, []⟩,
  ⟨some 32, .pick (.tmp 29) (.const (.bool true)) (.tmp 31), false, none, false, false, []⟩,
  ⟨some 8, .assign (.tmp 32), false, none, false, false, []⟩]
def r59_6 : List Co := [
  ⟨some 33, .move (.tmp 9), false, none, false, false, []⟩,
  ⟨some 34, .move (.tmp 33), false, none, false, false, []⟩,
  ⟨some 35, .move (.tmp 12), false, some (34, false), false, false, []⟩,
  ⟨some 36, .move (.tmp 35), false, some (34, false), false, false, []⟩,
  ⟨some 37, .move (.tmp 11), false, some (36, true), false, false, []⟩,
  ⟨some 38, .fieldAddr 37 (.tmp 5) 3, false, some (36, true), false, false, []⟩,
  ⟨some 39, .load 25 (.tmp 38), false, some (36, true), false, false, []⟩,
  ⟨some 40, .move (.tmp 10), false, some (36, true), false, false, []⟩,
  ⟨some 41, .fieldAddr 37 (.tmp 5) 1, false, some (36, true), false, false, []⟩,
  ⟨some 42, .load 3 (.tmp 41), false, some (36, true), false, false, []⟩,
  ⟨some 43, .binOp .sub 3 (.tmp 40) (.tmp 42) 3, false, some (36, true), false, false, []⟩,
  ⟨some 44, .indexAddr 25 (.tmp 39) (.tmp 43), false, some (36, true), false, false, []⟩,
  ⟨some 45, .load 5 (.tmp 44), false, some (36, true), false, false, []⟩,
  ⟨some 46, .binOp .neq 5 (.tmp 37) (.tmp 45) 5, false, some (36, true), false, false, []⟩,
  ⟨some 47, .pick (.tmp 36) (.tmp 46) (.const (.bool false)), false, some (34, false), false, false, []⟩,
  ⟨some 48, .pick (.tmp 34) (.const (.bool true)) (.tmp 47), false, none, false, false, []⟩,
  ⟨some 9, .assign (.tmp 48), false, none, false, false, []⟩]
def r59_7 : List Co := [
  ⟨some 19, .move (.tmp 10), false, none, false, false, []⟩,
  ⟨some 20, .binOp .add 3 (.tmp 19) (.const (.int .i64 1)) 3, false, none, false, false, []⟩,
  ⟨some 10, .assign (.tmp 20), false, none, false, false, []⟩]
def l59_8 : Cc := (.seq (.seq (.reg r59_3) (.cond (.tmp 18) .skip (.exit 0))) (.seq (.block 1 (.seq (.reg r59_4) (.seq (.reg r59_5) (.reg r59_6)))) (.reg r59_7)))
def r59_9 : List Co := [
  ⟨some 49, .move (.tmp 8), false, none, false, false, []⟩,
  ⟨some 50, .move (.tmp 9), false, none, false, false, []⟩,
  ⟨some 6, .assign (.tmp 49), false, none, false, false, []⟩,
  ⟨some 7, .assign (.tmp 50), false, none, false, false, []⟩]
/-- wireglass/wireglassref18.fresh -/
def c59 : Cc := (.seq (.reg r59_0) (.seq (.reg r59_1) (.seq (.seq (.reg r59_2) (.block 0 (.loop l59_8))) (.seq (.reg r59_9) .ret))))
def r60_0 : List Co := [
  ⟨some 3, .box 37 (.tmp 1), false, none, false, false, []⟩,
  ⟨some 4, .assign (.const (.bool false)), false, none, false, false, []⟩]
def r60_1 : List Co := [
  ⟨some 6, .move (.tmp 0), false, none, false, false, []⟩,
  ⟨some 7, .call ⟨.value (.func 62), #[(.tmp 6)], #[22]⟩, false, none, false, false, []⟩,
  ⟨some 5, .assign (.tmp 7), false, none, false, false, []⟩]
def r60_2 : List Co := [
  ⟨some 8, .move (.tmp 5), false, none, false, false, []⟩,
  ⟨some 9, .binOp .geq 3 (.tmp 8) (.const (.int .i64 0)) 3, false, none, false, false, []⟩,
  ⟨some 10, .move (.tmp 9), false, none, false, false, []⟩,
  ⟨some 11, .fieldAddr 37 (.tmp 3) 3, false, some (10, true), false, false, []⟩,
  ⟨some 12, .load 25 (.tmp 11), false, some (10, true), false, false, []⟩,
  ⟨some 13, .call ⟨.builtin .len, #[(.tmp 12)], #[25]⟩, false, some (10, true), false, false, []⟩,
  ⟨some 14, .binOp .gtr 3 (.tmp 13) (.const (.int .i64 0)) 3, false, some (10, true), false, false, []⟩,
  ⟨some 15, .pick (.tmp 10) (.tmp 14) (.const (.bool false)), false, none, false, false, []⟩,
  ⟨some 16, .move (.tmp 15), false, none, false, false, []⟩,
  ⟨some 17, .load 37 (.tmp 3), false, some (16, true), false, false, []⟩,
  ⟨some 18, .call ⟨.value (.func 37), #[(.tmp 17)], #[37]⟩, false, some (16, true), false, false, []⟩,
  ⟨some 19, .move (.tmp 5), false, some (16, true), false, false, []⟩,
  ⟨some 20, .binOp .gtr 3 (.tmp 18) (.tmp 19) 3, false, some (16, true), false, false, []⟩,
  ⟨some 21, .pick (.tmp 16) (.tmp 20) (.const (.bool false)), false, none, false, false, []⟩]
def r60_3 : List Co := [
  ⟨some 4, .assign (.const (.bool true)), false, none, false, false, []⟩]
def r60_4 : List Co := [
  ⟨some 22, .fieldAddr 37 (.tmp 3) 2, false, none, false, false, []⟩,
  ⟨some 23, .load 4 (.tmp 22), false, none, false, false, []⟩,
  ⟨some 24, .unOp .not 4 (.tmp 23), false, none, false, false, []⟩,
  ⟨some 25, .move (.tmp 24), false, none, false, false, []⟩,
  ⟨some 26, .move (.tmp 5), false, some (25, true), false, false, []⟩,
  ⟨some 27, .binOp .geq 3 (.tmp 26) (.const (.int .i64 0)) 3, false, some (25, true), false, false, []⟩,
  ⟨some 28, .move (.tmp 27), false, some (25, true), false, false, []⟩,
  ⟨some 29, .move (.tmp 5), false, some (28, true), false, false, []⟩,
  ⟨some 30, .load 37 (.tmp 3), false, some (28, true), false, false, []⟩,
  ⟨some 31, .call ⟨.value (.func 37), #[(.tmp 30)], #[37]⟩, false, some (28, true), false, false, []⟩,
  ⟨some 32, .binOp .neq 3 (.tmp 29) (.tmp 31) 3, false, some (28, true), false, false, []⟩,
  ⟨some 33, .pick (.tmp 28) (.tmp 32) (.const (.bool false)), false, some (25, true), false, false, []⟩,
  ⟨some 34, .move (.tmp 33), false, some (25, true), false, false, []⟩,
  ⟨some 35, .load 37 (.tmp 3), false, some (34, false), false, false, []⟩,
  ⟨some 36, .call ⟨.value (.func 37), #[(.tmp 35)], #[37]⟩, false, some (34, false), false, false, []⟩,
  ⟨some 37, .move (.tmp 0), false, some (34, false), false, false, []⟩,
  ⟨some 38, .call ⟨.value (.func 76), #[(.tmp 37)], #[22]⟩, false, some (34, false), false, false, []⟩,
  ⟨some 39, .binOp .lss 3 (.tmp 36) (.tmp 38) 3, false, some (34, false), false, false, []⟩,
  ⟨some 40, .pick (.tmp 34) (.const (.bool true)) (.tmp 39), false, some (25, true), false, false, []⟩,
  ⟨some 41, .pick (.tmp 25) (.tmp 40) (.const (.bool false)), false, none, false, false, []⟩,
  ⟨some 4, .assign (.tmp 41), false, none, false, false, []⟩]
/-- wireglass/wireglassref18.strange -/
def c60 : Cc := (.seq (.reg r60_0) (.seq (.reg r60_1) (.seq (.seq (.reg r60_2) (.cond (.tmp 21) (.seq (.reg r60_3) .ret) .skip)) (.seq (.reg r60_4) .ret))))
def r61_0 : List Co := [
  ⟨some 4, .move (.tmp 0), false, none, false, false, []⟩,
  ⟨some 5, .move (.tmp 0), false, none, false, false, []⟩,
  ⟨some 6, .nilCheck (.tmp 5), false, none, false, false, []⟩,
  ⟨some 7, .fieldAddr 105 (.tmp 6) 1, false, none, false, false, []⟩,
  ⟨some 8, .load 103 (.tmp 7), false, none, false, false, []⟩,
  ⟨some 9, .move (.tmp 1), false, none, false, false, []⟩,
  ⟨some 10, .slice 103 (.tmp 8) none (some (.tmp 9)) none, false, none, false, false, []⟩,
  ⟨some 11, .call ⟨.builtin .append, #[(.const (.slice none 0 0)), (.tmp 10)], #[103, 103]⟩, false, none, true, false, []⟩,
  ⟨some 12, .move (.tmp 0), false, none, true, false, []⟩,
  ⟨some 13, .nilCheck (.tmp 12), false, none, true, false, []⟩,
  ⟨some 14, .fieldAddr 105 (.tmp 13) 1, false, none, true, false, []⟩,
  ⟨some 15, .load 103 (.tmp 14), false, none, true, true, []⟩,
  ⟨some 16, .move (.tmp 1), false, none, true, false, []⟩,
  ⟨some 17, .binOp .add 3 (.tmp 16) (.const (.int .i64 1)) 3, false, none, true, false, []⟩,
  ⟨some 18, .slice 103 (.tmp 15) (some (.tmp 17)) none none, false, none, true, true, []⟩,
  ⟨some 19, .call ⟨.builtin .append, #[(.tmp 11), (.tmp 18)], #[103, 103]⟩, false, none, false, false, []⟩,
  ⟨some 20, .nilCheck (.tmp 4), false, none, false, false, []⟩,
  ⟨some 21, .fieldAddr 105 (.tmp 20) 1, false, none, false, false, []⟩,
  ⟨none, .store 103 (.tmp 21) (.tmp 19), false, none, false, false, []⟩]
/-- (*wireglass/wireglassref18.Table).drop -/
def c61 : Cc := (.reg r61_0)
def r62_0 : List Co := [
  ⟨some 2, .assign (.const (.int .i64 0)), false, none, false, false, []⟩]
def r62_1 : List Co := [
  ⟨some 3, .assign (.const (.int .i64 0)), false, none, false, false, []⟩]
def r62_2 : List Co := [
  ⟨some 4, .move (.tmp 3), false, none, false, false, []⟩,
  ⟨some 5, .move (.tmp 0), false, none, false, false, []⟩,
  ⟨some 6, .call ⟨.builtin .len, #[(.tmp 5)], #[22]⟩, false, none, false, false, []⟩,
  ⟨some 7, .binOp .lss 3 (.tmp 4) (.tmp 6) 3, false, none, false, false, []⟩]
def r62_3 : List Co := [
  ⟨some 10, .move (.tmp 0), false, none, false, false, []⟩,
  ⟨some 11, .move (.tmp 3), false, none, false, false, []⟩,
  ⟨some 12, .indexAddr 22 (.tmp 10) (.tmp 11), false, none, false, false, []⟩,
  ⟨some 13, .fieldAddr 37 (.tmp 12) 2, false, none, false, false, []⟩,
  ⟨some 14, .load 4 (.tmp 13), false, none, false, false, []⟩,
  ⟨some 15, .unOp .not 4 (.tmp 14), false, none, false, false, []⟩]
def r62_4 : List Co := [
  ⟨some 16, .move (.tmp 0), false, none, false, false, []⟩,
  ⟨some 17, .move (.tmp 3), false, none, false, false, []⟩,
  ⟨some 18, .indexAddr 22 (.tmp 16) (.tmp 17), false, none, false, false, []⟩,
  ⟨some 19, .load 37 (.tmp 18), false, none, false, false, []⟩,
  ⟨some 20, .call ⟨.value (.func 37), #[(.tmp 19)], #[37]⟩, false, none, false, false, []⟩,
  ⟨some 2, .assign (.tmp 20), false, none, false, false, []⟩]
def r62_5 : List Co := [
  ⟨some 8, .move (.tmp 3), false, none, false, false, []⟩,
  ⟨some 9, .binOp .add 3 (.tmp 8) (.const (.int .i64 1)) 3, false, none, false, false, []⟩,
  ⟨some 3, .assign (.tmp 9), false, none, false, false, []⟩]
def l62_6 : Cc := (.seq (.seq (.reg r62_2) (.cond (.tmp 7) .skip (.exit 0))) (.seq (.block 1 (.seq (.reg r62_3) (.cond (.tmp 15) (.seq (.reg r62_4) .ret) .skip))) (.reg r62_5)))
def r62_7 : List Co := [
  ⟨some 2, .assign (.const (.int .i64 (-1))), false, none, false, false, []⟩]
/-- wireglass/wireglassref18.told -/
def c62 : Cc := (.seq (.reg r62_0) (.seq (.seq (.reg r62_1) (.block 0 (.loop l62_6))) (.seq (.reg r62_7) .ret)))
def r63_0 : List Co := [
  ⟨some 4, .assign (.const (.slice none 0 0)), false, none, false, false, []⟩,
  ⟨some 5, .assign (.const (.bool false)), false, none, false, false, []⟩]
def r63_1 : List Co := [
  ⟨some 11, .move (.tmp 0), false, none, false, false, []⟩,
  ⟨some 12, .call ⟨.value (.func 62), #[(.tmp 11)], #[22]⟩, false, none, false, false, []⟩,
  ⟨some 6, .assign (.tmp 12), false, none, false, false, []⟩]
def r63_2 : List Co := [
  ⟨some 7, .assign (.const (.slice none 0 0)), false, none, false, false, []⟩]
def r63_3 : List Co := [
  ⟨some 8, .assign (.const (.int .i64 0)), false, none, false, false, []⟩]
def r63_4 : List Co := [
  ⟨some 13, .move (.tmp 8), false, none, false, false, []⟩,
  ⟨some 14, .move (.tmp 6), false, none, false, false, []⟩,
  ⟨some 15, .binOp .lss 3 (.tmp 13) (.tmp 14) 3, false, none, false, false, []⟩]
def r63_5 : List Co := [
  ⟨some 19, .move (.tmp 0), false, none, false, false, []⟩,
  ⟨some 20, .move (.tmp 1), false, none, false, false, []⟩,
  ⟨some 21, .move (.tmp 8), false, none, false, false, []⟩,
  ⟨some 22, .call ⟨.value (.func 75), #[(.tmp 19), (.tmp 20), (.tmp 21)], #[22, 3, 3]⟩, false, none, false, false, []⟩,
  ⟨some 18, .move (.tmp 22), false, none, false, false, []⟩,
  ⟨some 23, .extract (.tmp 18) 0, false, none, false, false, []⟩,
  ⟨some 24, .extract (.tmp 18) 1, false, none, false, false, []⟩,
  ⟨some 9, .assign (.tmp 23), false, none, false, false, []⟩,
  ⟨some 10, .assign (.tmp 24), false, none, false, false, []⟩]
def r63_6 : List Co := [
  ⟨some 25, .move (.tmp 10), false, none, false, false, []⟩,
  ⟨some 26, .unOp .not 4 (.tmp 25), false, none, false, false, []⟩]
def r63_7 : List Co := [
  ⟨some 4, .assign (.const (.slice none 0 0)), false, none, false, false, []⟩,
  ⟨some 5, .assign (.const (.bool false)), false, none, false, false, []⟩]
def r63_8 : List Co := [
  ⟨some 27, .move (.tmp 7), false, none, false, false, []⟩,
  ⟨some 28, .move (.tmp 9), false, none, false, false, []⟩,
  ⟨some 29, .buildSlice 25 1 #[(0, (.tmp 28))], true, none, false, false, []⟩,
  ⟨some 30, .call ⟨.builtin .append, #[(.tmp 27), (.tmp 29)], #[25, 25]⟩, false, none, false, false, []⟩,
  ⟨some 7, .assign (.tmp 30), false, none, false, false, []⟩]
def r63_9 : List Co := [
  ⟨some 16, .move (.tmp 8), false, none, false, false, []⟩,
  ⟨some 17, .binOp .add 3 (.tmp 16) (.const (.int .i64 1)) 3, false, none, false, false, []⟩,
  ⟨some 8, .assign (.tmp 17), false, none, false, false, []⟩]
def l63_10 : Cc := (.seq (.seq (.reg r63_4) (.cond (.tmp 15) .skip (.exit 0))) (.seq (.block 1 (.seq (.reg r63_5) (.seq (.seq (.reg r63_6) (.cond (.tmp 26) (.seq (.reg r63_7) .ret) .skip)) (.reg r63_8)))) (.reg r63_9)))
def r63_11 : List Co := [
  ⟨some 31, .move (.tmp 7), false, none, false, false, []⟩,
  ⟨some 32, .move (.tmp 6), false, none, false, false, []⟩,
  ⟨some 33, .binOp .geq 3 (.tmp 32) (.const (.int .i64 0)) 3, false, none, false, false, []⟩,
  ⟨some 4, .assign (.tmp 31), false, none, false, false, []⟩,
  ⟨some 5, .assign (.tmp 33), false, none, false, false, []⟩]
/-- wireglass/wireglassref18.bytes -/
def c63 : Cc := (.seq (.reg r63_0) (.seq (.reg r63_1) (.seq (.reg r63_2) (.seq (.seq (.reg r63_3) (.block 0 (.loop l63_10))) (.seq (.reg r63_11) .ret)))))
def r64_0 : List Co := [
  ⟨some 4, .alloc 37, false, none, false, false, []⟩]
def r64_1 : List Co := [
  ⟨some 5, .move (.tmp 1), false, none, false, false, []⟩,
  ⟨some 6, .binOp .lss 3 (.tmp 5) (.const (.int .i64 0)) 3, false, none, false, false, []⟩,
  ⟨some 7, .move (.tmp 6), false, none, false, false, []⟩,
  ⟨some 8, .move (.tmp 1), false, some (7, false), false, false, []⟩,
  ⟨some 9, .move (.tmp 0), false, some (7, false), false, false, []⟩,
  ⟨some 10, .call ⟨.builtin .len, #[(.tmp 9)], #[22]⟩, false, some (7, false), false, false, []⟩,
  ⟨some 11, .binOp .geq 3 (.tmp 8) (.tmp 10) 3, false, some (7, false), false, false, []⟩,
  ⟨some 12, .pick (.tmp 7) (.const (.bool true)) (.tmp 11), false, none, false, false, []⟩]
def r64_2 : List Co := [
  ⟨some 13, .build 37 #[], false, none, false, false, []⟩,
  ⟨none, .store 37 (.tmp 4) (.tmp 13), false, none, false, false, []⟩]
def r64_3 : List Co := [
  ⟨some 14, .move (.tmp 0), false, none, false, false, []⟩,
  ⟨some 15, .move (.tmp 1), false, none, false, false, []⟩,
  ⟨some 16, .indexAddr 22 (.tmp 14) (.tmp 15), false, none, false, false, []⟩,
  ⟨some 17, .load 37 (.tmp 16), false, none, false, false, []⟩,
  ⟨none, .store 37 (.tmp 4) (.tmp 17), false, none, false, false, []⟩]
/-- wireglass/wireglasslaw18.piece -/
def c64 : Cc := (.seq (.reg r64_0) (.seq (.seq (.reg r64_1) (.cond (.tmp 12) (.seq (.reg r64_2) .ret) .skip)) (.seq (.reg r64_3) .ret)))
def r70_0 : List Co := [
  ⟨some 4, .assign (.const (.bool false)), false, none, false, false, []⟩]
def r70_1 : List Co := [
  ⟨some 5, .move (.tmp 0), false, none, false, false, []⟩,
  ⟨some 6, .move (.tmp 1), false, none, false, false, []⟩,
  ⟨some 7, .call ⟨.value (.func 85), #[(.tmp 5), (.tmp 6)], #[84, 120]⟩, false, none, false, false, []⟩,
  ⟨some 8, .binOp .geq 3 (.tmp 7) (.const (.int .i64 0)) 3, false, none, false, false, []⟩,
  ⟨some 4, .assign (.tmp 8), false, none, false, false, []⟩]
/-- slices.ContainsFunc[[]wireglass/frag.cell,wireglass/frag.cell] -/
def c70 : Cc := (.seq (.reg r70_0) (.seq (.reg r70_1) .ret))
def r71_0 : List Co := [
  ⟨some 1, .box 97 (.tmp 0), true, none, false, false, []⟩,
  ⟨some 2, .assign (.const (.bool false)), false, none, false, false, []⟩]
def r71_1 : List Co := [
  ⟨some 3, .fieldAddr 97 (.tmp 1) 0, false, none, false, false, []⟩,
  ⟨some 4, .load 4 (.tmp 3), false, none, false, false, []⟩,
  ⟨some 5, .unOp .not 4 (.tmp 4), false, none, false, false, []⟩,
  ⟨some 2, .assign (.tmp 5), false, none, false, false, []⟩]
/-- (*wireglass/frag.whole).isComplete$1 -/
def c71 : Cc := (.seq (.reg r71_0) (.seq (.reg r71_1) .ret))
def r75_0 : List Co := [
  ⟨some 6, .assign (.const (.int .u8 0)), false, none, false, false, []⟩,
  ⟨some 7, .assign (.const (.bool false)), false, none, false, false, []⟩]
def r75_1 : List Co := [
  ⟨some 8, .assign (.const (.int .i64 (-1))), false, none, false, false, []⟩]
def r75_2 : List Co := [
  ⟨some 9, .assign (.const (.int .i64 0)), false, none, false, false, []⟩]
def r75_3 : List Co := [
  ⟨some 10, .move (.tmp 9), false, none, false, false, []⟩,
  ⟨some 11, .move (.tmp 0), false, none, false, false, []⟩,
  ⟨some 12, .call ⟨.builtin .len, #[(.tmp 11)], #[22]⟩, false, none, false, false, []⟩,
  ⟨some 13, .binOp .lss 3 (.tmp 10) (.tmp 12) 3, false, none, false, false, []⟩]
def r75_4 : List Co := [
  ⟨some 16, .move (.tmp 0), false, none, false, false, []⟩,
  ⟨some 17, .move (.tmp 9), false, none, false, false, []⟩,
  ⟨some 18, .indexAddr 22 (.tmp 16) (.tmp 17), false, none, false, false, []⟩,
  ⟨some 19, .load 37 (.tmp 18), false, none, false, false, []⟩,
  ⟨some 20, .move (.tmp 2), false, none, false, false, []⟩,
  ⟨some 21, .call ⟨.value (.func 89), #[(.tmp 19), (.tmp 20)], #[37, 3]⟩, false, none, false, false, []⟩,
  ⟨some 22, .unOp .not 4 (.tmp 21), false, none, false, false, []⟩]
def r75_5 : List Co := [
  ⟨some 23, .move (.tmp 8), false, none, false, false, []⟩,
  ⟨some 24, .binOp .lss 3 (.tmp 23) (.const (.int .i64 0)) 3, false, none, false, false, []⟩,
  ⟨some 25, .move (.tmp 24), false, none, false, false, []⟩,
  ⟨some 26, .move (.tmp 1), false, some (25, false), false, false, []⟩,
  ⟨some 27, .binOp .eql 3 (.tmp 26) (.const (.int .i64 1)) 3, false, some (25, false), false, false, []⟩,
  ⟨some 28, .pick (.tmp 25) (.const (.bool true)) (.tmp 27), false, none, false, false, []⟩,
  ⟨some 29, .move (.tmp 28), false, none, false, false, []⟩,
  ⟨some 30, .move (.tmp 1), false, some (29, false), false, false, []⟩,
  ⟨some 31, .binOp .eql 3 (.tmp 30) (.const (.int .i64 2)) 3, false, some (29, false), false, false, []⟩,
  ⟨some 32, .move (.tmp 31), false, some (29, false), false, false, []⟩,
  ⟨some 33, .move (.tmp 0), false, some (32, true), false, false, []⟩,
  ⟨some 34, .move (.tmp 9), false, some (32, true), false, false, []⟩,
  ⟨some 35, .indexAddr 22 (.tmp 33) (.tmp 34), false, some (32, true), false, false, []⟩,
  ⟨some 36, .fieldAddr 37 (.tmp 35) 1, false, some (32, true), false, false, []⟩,
  ⟨some 37, .load 3 (.tmp 36), false, some (32, true), false, false, []⟩,
  ⟨some 38, .move (.tmp 0), false, some (32, true), false, false, []⟩,
  ⟨some 39, .move (.tmp 8), false, some (32, true), false, false, []⟩,
  ⟨some 40, .indexAddr 22 (.tmp 38) (.tmp 39), false, some (32, true), false, false, []⟩,
  ⟨some 41, .fieldAddr 37 (.tmp 40) 1, false, some (32, true), false, false, []⟩,
  ⟨some 42, .load 3 (.tmp 41), false, some (32, true), false, false, []⟩,
  ⟨some 43, .binOp .lss 3 (.tmp 37) (.tmp 42) 3, false, some (32, true), false, false, []⟩,
  ⟨some 44, .pick (.tmp 32) (.tmp 43) (.const (.bool false)), false, some (29, false), false, false, []⟩,
  ⟨some 45, .pick (.tmp 29) (.const (.bool true)) (.tmp 44), false, none, false, false, []⟩]
def r75_6 : List Co := [
  ⟨some 46, .move (.tmp 9), false, none, false, false, []⟩,
  ⟨some 8, .assign (.tmp 46), false, none, false, false, []⟩]
def r75_7 : List Co := [
  ⟨some 14, .move (.tmp 9), false, none, false, false, []⟩,
  ⟨some 15, .binOp .add 3 (.tmp 14) (.const (.int .i64 1)) 3, false, none, false, false, []⟩,
  ⟨some 9, .assign (.tmp 15), false, none, false, false, []⟩]
def l75_8 : Cc := (.seq (.seq (.reg r75_3) (.cond (.tmp 13) .skip (.exit 0))) (.seq (.block 1 (.seq (.seq (.reg r75_4) (.cond (.tmp 22) (.exit 1) .skip)) (.seq (.reg r75_5) (.cond (.tmp 45) (.reg r75_6) .skip)))) (.reg r75_7)))
def r75_9 : List Co := [
  ⟨some 47, .move (.tmp 8), false, none, false, false, []⟩,
  ⟨some 48, .binOp .lss 3 (.tmp 47) (.const (.int .i64 0)) 3, false, none, false, false, []⟩]
def r75_10 : List Co := [
  ⟨some 6, .assign (.const (.int .u8 0)), false, none, false, false, []⟩,
  ⟨some 7, .assign (.const (.bool false)), false, none, false, false, []⟩]
def r75_11 : List Co := [
  ⟨some 49, .move (.tmp 0), false, none, false, false, []⟩,
  ⟨some 50, .move (.tmp 8), false, none, false, false, []⟩,
  ⟨some 51, .indexAddr 22 (.tmp 49) (.tmp 50), false, none, false, false, []⟩,
  ⟨some 52, .fieldAddr 37 (.tmp 51) 3, false, none, false, false, []⟩,
  ⟨some 53, .load 25 (.tmp 52), false, none, false, false, []⟩,
  ⟨some 54, .move (.tmp 2), false, none, false, false, []⟩,
  ⟨some 55, .move (.tmp 0), false, none, false, false, []⟩,
  ⟨some 56, .move (.tmp 8), false, none, false, false, []⟩,
  ⟨some 57, .indexAddr 22 (.tmp 55) (.tmp 56), false, none, false, false, []⟩,
  ⟨some 58, .fieldAddr 37 (.tmp 57) 1, false, none, false, false, []⟩,
  ⟨some 59, .load 3 (.tmp 58), false, none, false, false, []⟩,
  ⟨some 60, .binOp .sub 3 (.tmp 54) (.tmp 59) 3, false, none, false, false, []⟩,
  ⟨some 61, .indexAddr 25 (.tmp 53) (.tmp 60), false, none, false, false, []⟩,
  ⟨some 62, .load 5 (.tmp 61), false, none, false, false, []⟩,
  ⟨some 6, .assign (.tmp 62), false, none, false, false, []⟩,
  ⟨some 7, .assign (.const (.bool true)), false, none, false, false, []⟩]
/-- wireglass/wireglassref18.at -/
def c75 : Cc := (.seq (.reg r75_0) (.seq (.reg r75_1) (.seq (.seq (.reg r75_2) (.block 0 (.loop l75_8))) (.seq (.seq (.reg r75_9) (.cond (.tmp 48) (.seq (.reg r75_10) .ret) .skip)) (.seq (.reg r75_11) .ret)))))
def r76_0 : List Co := [
  ⟨some 2, .assign (.const (.int .i64 0)), false, none, false, false, []⟩]
def r76_1 : List Co := [
  ⟨some 3, .assign (.const (.int .i64 0)), false, none, false, false, []⟩]
def r76_2 : List Co := [
  ⟨some 4, .assign (.const (.int .i64 0)), false, none, false, false, []⟩]
def r76_3 : List Co := [
  ⟨some 5, .move (.tmp 4), false, none, false, false, []⟩,
  ⟨some 6, .move (.tmp 0), false, none, false, false, []⟩,
  ⟨some 7, .call ⟨.builtin .len, #[(.tmp 6)], #[22]⟩, false, none, false, false, []⟩,
  ⟨some 8, .binOp .lss 3 (.tmp 5) (.tmp 7) 3, false, none, false, false, []⟩]
def r76_4 : List Co := [
  ⟨some 11, .move (.tmp 0), false, none, false, false, []⟩,
  ⟨some 12, .move (.tmp 4), false, none, false, false, []⟩,
  ⟨some 13, .indexAddr 22 (.tmp 11) (.tmp 12), false, none, false, false, []⟩,
  ⟨some 14, .fieldAddr 37 (.tmp 13) 3, false, none, false, false, []⟩,
  ⟨some 15, .load 25 (.tmp 14), false, none, false, false, []⟩,
  ⟨some 16, .call ⟨.builtin .len, #[(.tmp 15)], #[25]⟩, false, none, false, false, []⟩,
  ⟨some 17, .binOp .gtr 3 (.tmp 16) (.const (.int .i64 0)) 3, false, none, false, false, []⟩]
def r76_5 : List Co := [
  ⟨some 18, .move (.tmp 3), false, none, false, false, []⟩,
  ⟨some 19, .move (.tmp 0), false, none, false, false, []⟩,
  ⟨some 20, .move (.tmp 4), false, none, false, false, []⟩,
  ⟨some 21, .indexAddr 22 (.tmp 19) (.tmp 20), false, none, false, false, []⟩,
  ⟨some 22, .load 37 (.tmp 21), false, none, false, false, []⟩,
  ⟨some 23, .call ⟨.value (.func 37), #[(.tmp 22)], #[37]⟩, false, none, false, false, []⟩,
  ⟨some 24, .call ⟨.builtin .max, #[(.tmp 18), (.tmp 23)], #[3, 3]⟩, false, none, false, false, []⟩,
  ⟨some 3, .assign (.tmp 24), false, none, false, false, []⟩]
def r76_6 : List Co := [
  ⟨some 9, .move (.tmp 4), false, none, false, false, []⟩,
  ⟨some 10, .binOp .add 3 (.tmp 9) (.const (.int .i64 1)) 3, false, none, false, false, []⟩,
  ⟨some 4, .assign (.tmp 10), false, none, false, false, []⟩]
def l76_7 : Cc := (.seq (.seq (.reg r76_3) (.cond (.tmp 8) .skip (.exit 0))) (.seq (.block 1 (.seq (.reg r76_4) (.cond (.tmp 17) (.reg r76_5) .skip))) (.reg r76_6)))
def r76_8 : List Co := [
  ⟨some 25, .move (.tmp 3), false, none, false, false, []⟩,
  ⟨some 2, .assign (.tmp 25), false, none, false, false, []⟩]
/-- wireglass/wireglassref18.behind -/
def c76 : Cc := (.seq (.reg r76_0) (.seq (.reg r76_1) (.seq (.seq (.reg r76_2) (.block 0 (.loop l76_7))) (.seq (.reg r76_8) .ret))))
def r85_0 : List Co := [
  ⟨some 4, .assign (.const (.int .i64 0)), false, none, false, false, []⟩]
def r85_1 : List Co := [
  ⟨some 6, .move (.tmp 0), false, none, false, false, []⟩,
  ⟨some 7, .call ⟨.builtin .len, #[(.tmp 6)], #[84]⟩, false, none, false, false, []⟩,
  ⟨some 8, .move (.const (.int .i64 0)), false, none, false, false, []⟩]
def r85_2 : List Co := [
  ⟨some 9, .binOp .lss 3 (.tmp 8) (.tmp 7) 3, false, none, false, false, []⟩]
def r85_3 : List Co := [
  ⟨some 10, .move (.tmp 8), false, none, false, false, []⟩,
  ⟨some 5, .assign (.tmp 10), false, none, false, false, []⟩]
def r85_4 : List Co := [
  ⟨some 11, .move (.tmp 1), false, none, false, false, []⟩,
  ⟨some 12, .move (.tmp 0), false, none, false, false, []⟩,
  ⟨some 13, .move (.tmp 5), false, none, false, false, []⟩,
  ⟨some 14, .indexAddr 84 (.tmp 12) (.tmp 13), false, none, false, false, []⟩,
  ⟨some 15, .load 97 (.tmp 14), false, none, false, false, []⟩,
  ⟨some 16, .call ⟨.value (.tmp 11), #[(.tmp 15)], #[97]⟩, false, none, false, false, []⟩]
def r85_5 : List Co := [
  ⟨some 17, .move (.tmp 5), false, none, false, false, []⟩,
  ⟨some 4, .assign (.tmp 17), false, none, false, false, []⟩]
def r85_6 : List Co := [
  ⟨some 18, .binOp .add 3 (.tmp 8) (.const (.int .i64 1)) 3, false, none, false, false, []⟩,
  ⟨some 8, .move (.tmp 18), false, none, false, false, []⟩]
def l85_7 : Cc := (.seq (.reg r85_2) (.seq (.cond (.tmp 9) .skip (.exit 0)) (.seq (.block 1 (.seq (.reg r85_3) (.seq (.reg r85_4) (.cond (.tmp 16) (.seq (.reg r85_5) .ret) .skip)))) (.reg r85_6))))
def r85_8 : List Co := [
  ⟨some 4, .assign (.const (.int .i64 (-1))), false, none, false, false, []⟩]
/-- slices.IndexFunc[[]wireglass/frag.cell,wireglass/frag.cell] -/
def c85 : Cc := (.seq (.reg r85_0) (.seq (.seq (.reg r85_1) (.block 0 (.loop l85_7))) (.seq (.reg r85_8) .ret)))
def r89_0 : List Co := [
  ⟨some 2, .box 37 (.tmp 0), true, none, false, false, []⟩,
  ⟨some 4, .assign (.const (.bool false)), false, none, false, false, []⟩]
def r89_1 : List Co := [
  ⟨some 5, .move (.tmp 1), false, none, false, false, []⟩,
  ⟨some 6, .fieldAddr 37 (.tmp 2) 1, false, none, false, false, []⟩,
  ⟨some 7, .load 3 (.tmp 6), false, none, false, false, []⟩,
  ⟨some 8, .binOp .geq 3 (.tmp 5) (.tmp 7) 3, false, none, false, false, []⟩,
  ⟨some 9, .move (.tmp 8), false, none, false, false, []⟩,
  ⟨some 10, .move (.tmp 1), false, some (9, true), false, false, []⟩,
  ⟨some 11, .load 37 (.tmp 2), false, some (9, true), false, false, []⟩,
  ⟨some 12, .call ⟨.value (.func 37), #[(.tmp 11)], #[37]⟩, false, some (9, true), false, false, []⟩,
  ⟨some 13, .binOp .lss 3 (.tmp 10) (.tmp 12) 3, false, some (9, true), false, false, []⟩,
  ⟨some 14, .pick (.tmp 9) (.tmp 13) (.const (.bool false)), false, none, false, false, []⟩,
  ⟨some 4, .assign (.tmp 14), false, none, false, false, []⟩]
/-- wireglass/wireglassref18.has -/
def c89 : Cc := (.seq (.reg r89_0) (.seq (.reg r89_1) .ret))
def rs3 : List ResultVar := [.tmp 4]
theorem gc3 (H : Hp) (r : V × Hp) : pr.gc 3 H r = gcF H r := (show pr.gc 3 H r = gcM modeOf 3 H r from rfl).trans (gcM_one rfl H r)
set_option maxRecDepth 100000 in
theorem ex3 {args : List V} {H : Hp} {R : V × Hp → Prop} (ha : args.length ≤ 51) (h : Wp Try.prog (callL Try.prog pr) 51 c3 args [] H (RetQ Try.prog rs3 fun v H' => R (pr.gc 3 H (v, H')))) : ∃ r, callL Try.prog pr 3 args H = some r ∧ R r :=
  call_ex (fn := Try.f3) rfl Try.func3 rfl (by kernel_rfl) rfl (Nat.max_eq_right ha) h
theorem run3 {args : List V} {H : Hp} {r : V × Hp} (ha : args.length ≤ 51) (h : Wp Try.prog (callL Try.prog pr) 51 c3 args [] H (RetQ Try.prog rs3 fun v H' => pr.gc 3 H (v, H') = r)) : callL Try.prog pr 3 args H = some r := by
  obtain ⟨_, h1, rfl⟩ := ex3 (R := fun x => x = r) ha h
  exact h1
def rs5 : List ResultVar := [.tmp 6]
theorem gc5 (H : Hp) (r : V × Hp) : pr.gc 5 H r = gcF H r := (show pr.gc 5 H r = gcM modeOf 5 H r from rfl).trans (gcM_one rfl H r)
set_option maxRecDepth 100000 in
theorem ex5 {args : List V} {H : Hp} {R : V × Hp → Prop} (ha : args.length ≤ 105) (h : Wp Try.prog (callL Try.prog pr) 105 c5 args [] H (RetQ Try.prog rs5 fun v H' => R (pr.gc 5 H (v, H')))) : ∃ r, callL Try.prog pr 5 args H = some r ∧ R r :=
  call_ex (fn := Try.f5) rfl Try.func5 rfl (by kernel_rfl) rfl (Nat.max_eq_right ha) h
theorem run5 {args : List V} {H : Hp} {r : V × Hp} (ha : args.length ≤ 105) (h : Wp Try.prog (callL Try.prog pr) 105 c5 args [] H (RetQ Try.prog rs5 fun v H' => pr.gc 5 H (v, H') = r)) : callL Try.prog pr 5 args H = some r := by
  obtain ⟨_, h1, rfl⟩ := ex5 (R := fun x => x = r) ha h
  exact h1
def rs7 : List ResultVar := [.tmp 6]
theorem gc7 (H : Hp) (r : V × Hp) : pr.gc 7 H r = gcF H r := (show pr.gc 7 H r = gcM modeOf 7 H r from rfl).trans (gcM_one rfl H r)
set_option maxRecDepth 100000 in
theorem ex7 {args : List V} {H : Hp} {R : V × Hp → Prop} (ha : args.length ≤ 97) (h : Wp Try.prog (callL Try.prog pr) 97 c7 args [] H (RetQ Try.prog rs7 fun v H' => R (pr.gc 7 H (v, H')))) : ∃ r, callL Try.prog pr 7 args H = some r ∧ R r :=
  call_ex (fn := Try.f7) rfl Try.func7 rfl (by kernel_rfl) rfl (Nat.max_eq_right ha) h
theorem run7 {args : List V} {H : Hp} {r : V × Hp} (ha : args.length ≤ 97) (h : Wp Try.prog (callL Try.prog pr) 97 c7 args [] H (RetQ Try.prog rs7 fun v H' => pr.gc 7 H (v, H') = r)) : callL Try.prog pr 7 args H = some r := by
  obtain ⟨_, h1, rfl⟩ := ex7 (R := fun x => x = r) ha h
  exact h1
def rs10 : List ResultVar := [.tmp 2]
theorem gc10 (H : Hp) (r : V × Hp) : pr.gc 10 H r = gcF H r := (show pr.gc 10 H r = gcM modeOf 10 H r from rfl).trans (gcM_one rfl H r)
set_option maxRecDepth 100000 in
theorem ex10 {args : List V} {H : Hp} {R : V × Hp → Prop} (ha : args.length ≤ 24) (h : Wp Try.prog (callL Try.prog pr) 24 c10 args [] H (RetQ Try.prog rs10 fun v H' => R (pr.gc 10 H (v, H')))) : ∃ r, callL Try.prog pr 10 args H = some r ∧ R r :=
  call_ex (fn := Try.f10) rfl Try.func10 rfl (by kernel_rfl) rfl (Nat.max_eq_right ha) h
theorem run10 {args : List V} {H : Hp} {r : V × Hp} (ha : args.length ≤ 24) (h : Wp Try.prog (callL Try.prog pr) 24 c10 args [] H (RetQ Try.prog rs10 fun v H' => pr.gc 10 H (v, H') = r)) : callL Try.prog pr 10 args H = some r := by
  obtain ⟨_, h1, rfl⟩ := ex10 (R := fun x => x = r) ha h
  exact h1
def rs12 : List ResultVar := [.tmp 4, .tmp 5, .tmp 6]
theorem gc12 (H : Hp) (r : V × Hp) : pr.gc 12 H r = gcF H r := (show pr.gc 12 H r = gcM modeOf 12 H r from rfl).trans (gcM_one rfl H r)
set_option maxRecDepth 100000 in
theorem ex12 {args : List V} {H : Hp} {R : V × Hp → Prop} (ha : args.length ≤ 52) (h : Wp Try.prog (callL Try.prog pr) 52 c12 args [] H (RetQ Try.prog rs12 fun v H' => R (pr.gc 12 H (v, H')))) : ∃ r, callL Try.prog pr 12 args H = some r ∧ R r :=
  call_ex (fn := Try.f12) rfl Try.func12 rfl (by kernel_rfl) rfl (Nat.max_eq_right ha) h
theorem run12 {args : List V} {H : Hp} {r : V × Hp} (ha : args.length ≤ 52) (h : Wp Try.prog (callL Try.prog pr) 52 c12 args [] H (RetQ Try.prog rs12 fun v H' => pr.gc 12 H (v, H') = r)) : callL Try.prog pr 12 args H = some r := by
  obtain ⟨_, h1, rfl⟩ := ex12 (R := fun x => x = r) ha h
  exact h1
def rs13 : List ResultVar := [.tmp 4, .tmp 5, .tmp 6]
theorem gc13 (H : Hp) (r : V × Hp) : pr.gc 13 H r = gcF H r := (show pr.gc 13 H r = gcM modeOf 13 H r from rfl).trans (gcM_one rfl H r)
set_option maxRecDepth 100000 in
theorem ex13 {args : List V} {H : Hp} {R : V × Hp → Prop} (ha : args.length ≤ 69) (h : Wp Try.prog (callL Try.prog pr) 69 c13 args [] H (RetQ Try.prog rs13 fun v H' => R (pr.gc 13 H (v, H')))) : ∃ r, callL Try.prog pr 13 args H = some r ∧ R r :=
  call_ex (fn := Try.f13) rfl Try.func13 rfl (by kernel_rfl) rfl (Nat.max_eq_right ha) h
theorem run13 {args : List V} {H : Hp} {r : V × Hp} (ha : args.length ≤ 69) (h : Wp Try.prog (callL Try.prog pr) 69 c13 args [] H (RetQ Try.prog rs13 fun v H' => pr.gc 13 H (v, H') = r)) : callL Try.prog pr 13 args H = some r := by
  obtain ⟨_, h1, rfl⟩ := ex13 (R := fun x => x = r) ha h
  exact h1
def rs14 : List ResultVar := [.tmp 2, .tmp 3]
theorem gc14 (H : Hp) (r : V × Hp) : pr.gc 14 H r = gcF H r := (show pr.gc 14 H r = gcM modeOf 14 H r from rfl).trans (gcM_one rfl H r)
set_option maxRecDepth 100000 in
theorem ex14 {args : List V} {H : Hp} {R : V × Hp → Prop} (ha : args.length ≤ 71) (h : Wp Try.prog (callL Try.prog pr) 71 c14 args [] H (RetQ Try.prog rs14 fun v H' => R (pr.gc 14 H (v, H')))) : ∃ r, callL Try.prog pr 14 args H = some r ∧ R r :=
  call_ex (fn := Try.f14) rfl Try.func14 rfl (by kernel_rfl) rfl (Nat.max_eq_right ha) h
theorem run14 {args : List V} {H : Hp} {r : V × Hp} (ha : args.length ≤ 71) (h : Wp Try.prog (callL Try.prog pr) 71 c14 args [] H (RetQ Try.prog rs14 fun v H' => pr.gc 14 H (v, H') = r)) : callL Try.prog pr 14 args H = some r := by
  obtain ⟨_, h1, rfl⟩ := ex14 (R := fun x => x = r) ha h
  exact h1
def rs17 : List ResultVar := [.tmp 4]
theorem gc17 (H : Hp) (r : V × Hp) : pr.gc 17 H r = gcF H r := (show pr.gc 17 H r = gcM modeOf 17 H r from rfl).trans (gcM_one rfl H r)
set_option maxRecDepth 100000 in
theorem ex17 {args : List V} {H : Hp} {R : V × Hp → Prop} (ha : args.length ≤ 51) (h : Wp Try.prog (callL Try.prog pr) 51 c17 args [] H (RetQ Try.prog rs17 fun v H' => R (pr.gc 17 H (v, H')))) : ∃ r, callL Try.prog pr 17 args H = some r ∧ R r :=
  call_ex (fn := Try.f17) rfl Try.func17 rfl (by kernel_rfl) rfl (Nat.max_eq_right ha) h
theorem run17 {args : List V} {H : Hp} {r : V × Hp} (ha : args.length ≤ 51) (h : Wp Try.prog (callL Try.prog pr) 51 c17 args [] H (RetQ Try.prog rs17 fun v H' => pr.gc 17 H (v, H') = r)) : callL Try.prog pr 17 args H = some r := by
  obtain ⟨_, h1, rfl⟩ := ex17 (R := fun x => x = r) ha h
  exact h1
def rs18 : List ResultVar := [.tmp 8, .tmp 9]
theorem gc18 (H : Hp) (r : V × Hp) : pr.gc 18 H r = gcF H r := (show pr.gc 18 H r = gcM modeOf 18 H r from rfl).trans (gcM_one rfl H r)
set_option maxRecDepth 100000 in
theorem ex18 {args : List V} {H : Hp} {R : V × Hp → Prop} (ha : args.length ≤ 78) (h : Wp Try.prog (callL Try.prog pr) 78 c18 args [] H (RetQ Try.prog rs18 fun v H' => R (pr.gc 18 H (v, H')))) : ∃ r, callL Try.prog pr 18 args H = some r ∧ R r :=
  call_ex (fn := Try.f18) rfl Try.func18 rfl (by kernel_rfl) rfl (Nat.max_eq_right ha) h
theorem run18 {args : List V} {H : Hp} {r : V × Hp} (ha : args.length ≤ 78) (h : Wp Try.prog (callL Try.prog pr) 78 c18 args [] H (RetQ Try.prog rs18 fun v H' => pr.gc 18 H (v, H') = r)) : callL Try.prog pr 18 args H = some r := by
  obtain ⟨_, h1, rfl⟩ := ex18 (R := fun x => x = r) ha h
  exact h1
def rs22 : List ResultVar := [.tmp 4, .tmp 5, .tmp 6]
@[go_sem] theorem gc22 (H : Hp) (r : V × Hp) : pr.gc 22 H r = r := (show pr.gc 22 H r = gcM modeOf 22 H r from rfl).trans (gcM_zero rfl H r)
set_option maxRecDepth 100000 in
theorem ex22 {args : List V} {H : Hp} {R : V × Hp → Prop} (ha : args.length ≤ 107) (h : Wp Try.prog (callL Try.prog pr) 107 c22 args [] H (RetD Try.prog pr rs22 fun v H' => R (pr.gc 22 H (v, H')))) : ∃ r, callL Try.prog pr 22 args H = some r ∧ R r :=
  call_exD (fn := Try.f22) rfl Try.func22 rfl (by kernel_rfl) rfl (Nat.max_eq_right ha) h
theorem run22 {args : List V} {H : Hp} {r : V × Hp} (ha : args.length ≤ 107) (h : Wp Try.prog (callL Try.prog pr) 107 c22 args [] H (RetD Try.prog pr rs22 fun v H' => pr.gc 22 H (v, H') = r)) : callL Try.prog pr 22 args H = some r := by
  obtain ⟨_, h1, rfl⟩ := ex22 (R := fun x => x = r) ha h
  exact h1
def rs27 : List ResultVar := [.tmp 2, .tmp 3]
@[go_sem] theorem gc27 (H : Hp) (r : V × Hp) : pr.gc 27 H r = r := (show pr.gc 27 H r = gcM modeOf 27 H r from rfl).trans (gcM_zero rfl H r)
set_option maxRecDepth 100000 in
theorem ex27 {args : List V} {H : Hp} {R : V × Hp → Prop} (ha : args.length ≤ 14) (h : Wp Try.prog (callL Try.prog pr) 14 c27 args [] H (RetQ Try.prog rs27 fun v H' => R (pr.gc 27 H (v, H')))) : ∃ r, callL Try.prog pr 27 args H = some r ∧ R r :=
  call_ex (fn := Try.f27) rfl Try.func27 rfl (by kernel_rfl) rfl (Nat.max_eq_right ha) h
theorem run27 {args : List V} {H : Hp} {r : V × Hp} (ha : args.length ≤ 14) (h : Wp Try.prog (callL Try.prog pr) 14 c27 args [] H (RetQ Try.prog rs27 fun v H' => pr.gc 27 H (v, H') = r)) : callL Try.prog pr 27 args H = some r := by
  obtain ⟨_, h1, rfl⟩ := ex27 (R := fun x => x = r) ha h
  exact h1
def rs29 : List ResultVar := [.tmp 4]
theorem gc29 (H : Hp) (r : V × Hp) : pr.gc 29 H r = gcF H r := (show pr.gc 29 H r = gcM modeOf 29 H r from rfl).trans (gcM_one rfl H r)
set_option maxRecDepth 100000 in
theorem ex29 {args : List V} {H : Hp} {R : V × Hp → Prop} (ha : args.length ≤ 9) (h : Wp Try.prog (callL Try.prog pr) 9 c29 args [] H (RetQ Try.prog rs29 fun v H' => R (pr.gc 29 H (v, H')))) : ∃ r, callL Try.prog pr 29 args H = some r ∧ R r :=
  call_ex (fn := Try.f29) rfl Try.func29 rfl (by kernel_rfl) rfl (Nat.max_eq_right ha) h
theorem run29 {args : List V} {H : Hp} {r : V × Hp} (ha : args.length ≤ 9) (h : Wp Try.prog (callL Try.prog pr) 9 c29 args [] H (RetQ Try.prog rs29 fun v H' => pr.gc 29 H (v, H') = r)) : callL Try.prog pr 29 args H = some r := by
  obtain ⟨_, h1, rfl⟩ := ex29 (R := fun x => x = r) ha h
  exact h1
def rs30 : List ResultVar := [.tmp 3]
theorem gc30 (H : Hp) (r : V × Hp) : pr.gc 30 H r = gcF H r := (show pr.gc 30 H r = gcM modeOf 30 H r from rfl).trans (gcM_one rfl H r)
set_option maxRecDepth 100000 in
theorem ex30 {args : List V} {H : Hp} {R : V × Hp → Prop} (ha : args.length ≤ 11) (h : Wp Try.prog (callL Try.prog pr) 11 c30 args [] H (RetQ Try.prog rs30 fun v H' => R (pr.gc 30 H (v, H')))) : ∃ r, callL Try.prog pr 30 args H = some r ∧ R r :=
  call_ex (fn := Try.f30) rfl Try.func30 rfl (by kernel_rfl) rfl (Nat.max_eq_right ha) h
theorem run30 {args : List V} {H : Hp} {r : V × Hp} (ha : args.length ≤ 11) (h : Wp Try.prog (callL Try.prog pr) 11 c30 args [] H (RetQ Try.prog rs30 fun v H' => pr.gc 30 H (v, H') = r)) : callL Try.prog pr 30 args H = some r := by
  obtain ⟨_, h1, rfl⟩ := ex30 (R := fun x => x = r) ha h
  exact h1
def rs31 : List ResultVar := [.tmp 2, .tmp 3]
@[go_sem] theorem gc31 (H : Hp) (r : V × Hp) : pr.gc 31 H r = r := (show pr.gc 31 H r = gcM modeOf 31 H r from rfl).trans (gcM_zero rfl H r)
set_option maxRecDepth 100000 in
theorem ex31 {args : List V} {H : Hp} {R : V × Hp → Prop} (ha : args.length ≤ 13) (h : Wp Try.prog (callL Try.prog pr) 13 c31 args [] H (RetQ Try.prog rs31 fun v H' => R (pr.gc 31 H (v, H')))) : ∃ r, callL Try.prog pr 31 args H = some r ∧ R r :=
  call_ex (fn := Try.f31) rfl Try.func31 rfl (by kernel_rfl) rfl (Nat.max_eq_right ha) h
theorem run31 {args : List V} {H : Hp} {r : V × Hp} (ha : args.length ≤ 13) (h : Wp Try.prog (callL Try.prog pr) 13 c31 args [] H (RetQ Try.prog rs31 fun v H' => pr.gc 31 H (v, H') = r)) : callL Try.prog pr 31 args H = some r := by
  obtain ⟨_, h1, rfl⟩ := ex31 (R := fun x => x = r) ha h
  exact h1
def rs32 : List ResultVar := [.tmp 4, .tmp 5, .tmp 6]
theorem gc32 (H : Hp) (r : V × Hp) : pr.gc 32 H r = gcF H r := (show pr.gc 32 H r = gcM modeOf 32 H r from rfl).trans (gcM_one rfl H r)
set_option maxRecDepth 100000 in
theorem ex32 {args : List V} {H : Hp} {R : V × Hp → Prop} (ha : args.length ≤ 156) (h : Wp Try.prog (callL Try.prog pr) 156 c32 args [] H (RetQ Try.prog rs32 fun v H' => R (pr.gc 32 H (v, H')))) : ∃ r, callL Try.prog pr 32 args H = some r ∧ R r :=
  call_ex (fn := Try.f32) rfl Try.func32 rfl (by kernel_rfl) rfl (Nat.max_eq_right ha) h
theorem run32 {args : List V} {H : Hp} {r : V × Hp} (ha : args.length ≤ 156) (h : Wp Try.prog (callL Try.prog pr) 156 c32 args [] H (RetQ Try.prog rs32 fun v H' => pr.gc 32 H (v, H') = r)) : callL Try.prog pr 32 args H = some r := by
  obtain ⟨_, h1, rfl⟩ := ex32 (R := fun x => x = r) ha h
  exact h1
def rs33 : List ResultVar := [.tmp 2]
theorem gc33 (H : Hp) (r : V × Hp) : pr.gc 33 H r = gcF H r := (show pr.gc 33 H r = gcM modeOf 33 H r from rfl).trans (gcM_one rfl H r)
set_option maxRecDepth 100000 in
theorem ex33 {args : List V} {H : Hp} {R : V × Hp → Prop} (ha : args.length ≤ 6) (h : Wp Try.prog (callL Try.prog pr) 6 c33 args [] H (RetQ Try.prog rs33 fun v H' => R (pr.gc 33 H (v, H')))) : ∃ r, callL Try.prog pr 33 args H = some r ∧ R r :=
  call_ex (fn := Try.f33) rfl Try.func33 rfl (by kernel_rfl) rfl (Nat.max_eq_right ha) h
theorem run33 {args : List V} {H : Hp} {r : V × Hp} (ha : args.length ≤ 6) (h : Wp Try.prog (callL Try.prog pr) 6 c33 args [] H (RetQ Try.prog rs33 fun v H' => pr.gc 33 H (v, H') = r)) : callL Try.prog pr 33 args H = some r := by
  obtain ⟨_, h1, rfl⟩ := ex33 (R := fun x => x = r) ha h
  exact h1
def rs34 : List ResultVar := [.tmp 2]
theorem gc34 (H : Hp) (r : V × Hp) : pr.gc 34 H r = gcF H r := (show pr.gc 34 H r = gcM modeOf 34 H r from rfl).trans (gcM_one rfl H r)
set_option maxRecDepth 100000 in
theorem ex34 {args : List V} {H : Hp} {R : V × Hp → Prop} (ha : args.length ≤ 21) (h : Wp Try.prog (callL Try.prog pr) 21 c34 args [] H (RetQ Try.prog rs34 fun v H' => R (pr.gc 34 H (v, H')))) : ∃ r, callL Try.prog pr 34 args H = some r ∧ R r :=
  call_ex (fn := Try.f34) rfl Try.func34 rfl (by kernel_rfl) rfl (Nat.max_eq_right ha) h
theorem run34 {args : List V} {H : Hp} {r : V × Hp} (ha : args.length ≤ 21) (h : Wp Try.prog (callL Try.prog pr) 21 c34 args [] H (RetQ Try.prog rs34 fun v H' => pr.gc 34 H (v, H') = r)) : callL Try.prog pr 34 args H = some r := by
  obtain ⟨_, h1, rfl⟩ := ex34 (R := fun x => x = r) ha h
  exact h1
def rs35 : List ResultVar := [.tmp 2]
theorem gc35 (H : Hp) (r : V × Hp) : pr.gc 35 H r = gcF H r := (show pr.gc 35 H r = gcM modeOf 35 H r from rfl).trans (gcM_one rfl H r)
set_option maxRecDepth 100000 in
theorem ex35 {args : List V} {H : Hp} {R : V × Hp → Prop} (ha : args.length ≤ 15) (h : Wp Try.prog (callL Try.prog pr) 15 c35 args [] H (RetQ Try.prog rs35 fun v H' => R (pr.gc 35 H (v, H')))) : ∃ r, callL Try.prog pr 35 args H = some r ∧ R r :=
  call_ex (fn := Try.f35) rfl Try.func35 rfl (by kernel_rfl) rfl (Nat.max_eq_right ha) h
theorem run35 {args : List V} {H : Hp} {r : V × Hp} (ha : args.length ≤ 15) (h : Wp Try.prog (callL Try.prog pr) 15 c35 args [] H (RetQ Try.prog rs35 fun v H' => pr.gc 35 H (v, H') = r)) : callL Try.prog pr 35 args H = some r := by
  obtain ⟨_, h1, rfl⟩ := ex35 (R := fun x => x = r) ha h
  exact h1
def rs36 : List ResultVar := [.tmp 2]
theorem gc36 (H : Hp) (r : V × Hp) : pr.gc 36 H r = gcF H r := (show pr.gc 36 H r = gcM modeOf 36 H r from rfl).trans (gcM_one rfl H r)
set_option maxRecDepth 100000 in
theorem ex36 {args : List V} {H : Hp} {R : V × Hp → Prop} (ha : args.length ≤ 34) (h : Wp Try.prog (callL Try.prog pr) 34 c36 args [] H (RetQ Try.prog rs36 fun v H' => R (pr.gc 36 H (v, H')))) : ∃ r, callL Try.prog pr 36 args H = some r ∧ R r :=
  call_ex (fn := Try.f36) rfl Try.func36 rfl (by kernel_rfl) rfl (Nat.max_eq_right ha) h
theorem run36 {args : List V} {H : Hp} {r : V × Hp} (ha : args.length ≤ 34) (h : Wp Try.prog (callL Try.prog pr) 34 c36 args [] H (RetQ Try.prog rs36 fun v H' => pr.gc 36 H (v, H') = r)) : callL Try.prog pr 36 args H = some r := by
  obtain ⟨_, h1, rfl⟩ := ex36 (R := fun x => x = r) ha h
  exact h1
def rs37 : List ResultVar := [.tmp 2]
theorem gc37 (H : Hp) (r : V × Hp) : pr.gc 37 H r = gcF H r := (show pr.gc 37 H r = gcM modeOf 37 H r from rfl).trans (gcM_one rfl H r)
set_option maxRecDepth 100000 in
theorem ex37 {args : List V} {H : Hp} {R : V × Hp → Prop} (ha : args.length ≤ 9) (h : Wp Try.prog (callL Try.prog pr) 9 c37 args [] H (RetQ Try.prog rs37 fun v H' => R (pr.gc 37 H (v, H')))) : ∃ r, callL Try.prog pr 37 args H = some r ∧ R r :=
  call_ex (fn := Try.f37) rfl Try.func37 rfl (by kernel_rfl) rfl (Nat.max_eq_right ha) h
theorem run37 {args : List V} {H : Hp} {r : V × Hp} (ha : args.length ≤ 9) (h : Wp Try.prog (callL Try.prog pr) 9 c37 args [] H (RetQ Try.prog rs37 fun v H' => pr.gc 37 H (v, H') = r)) : callL Try.prog pr 37 args H = some r := by
  obtain ⟨_, h1, rfl⟩ := ex37 (R := fun x => x = r) ha h
  exact h1
def rs38 : List ResultVar := [.tmp 2]
theorem gc38 (H : Hp) (r : V × Hp) : pr.gc 38 H r = gcF H r := (show pr.gc 38 H r = gcM modeOf 38 H r from rfl).trans (gcM_one rfl H r)
set_option maxRecDepth 100000 in
theorem ex38 {args : List V} {H : Hp} {R : V × Hp → Prop} (ha : args.length ≤ 8) (h : Wp Try.prog (callL Try.prog pr) 8 c38 args [] H (RetQ Try.prog rs38 fun v H' => R (pr.gc 38 H (v, H')))) : ∃ r, callL Try.prog pr 38 args H = some r ∧ R r :=
  call_ex (fn := Try.f38) rfl Try.func38 rfl (by kernel_rfl) rfl (Nat.max_eq_right ha) h
theorem run38 {args : List V} {H : Hp} {r : V × Hp} (ha : args.length ≤ 8) (h : Wp Try.prog (callL Try.prog pr) 8 c38 args [] H (RetQ Try.prog rs38 fun v H' => pr.gc 38 H (v, H') = r)) : callL Try.prog pr 38 args H = some r := by
  obtain ⟨_, h1, rfl⟩ := ex38 (R := fun x => x = r) ha h
  exact h1
def rs44 : List ResultVar := [.tmp 4]
theorem gc44 (H : Hp) (r : V × Hp) : pr.gc 44 H r = gcF H r := (show pr.gc 44 H r = gcM modeOf 44 H r from rfl).trans (gcM_one rfl H r)
set_option maxRecDepth 100000 in
theorem ex44 {args : List V} {H : Hp} {R : V × Hp → Prop} (ha : args.length ≤ 55) (h : Wp Try.prog (callL Try.prog pr) 55 c44 args [] H (RetQ Try.prog rs44 fun v H' => R (pr.gc 44 H (v, H')))) : ∃ r, callL Try.prog pr 44 args H = some r ∧ R r :=
  call_ex (fn := Try.f44) rfl Try.func44 rfl (by kernel_rfl) rfl (Nat.max_eq_right ha) h
theorem run44 {args : List V} {H : Hp} {r : V × Hp} (ha : args.length ≤ 55) (h : Wp Try.prog (callL Try.prog pr) 55 c44 args [] H (RetQ Try.prog rs44 fun v H' => pr.gc 44 H (v, H') = r)) : callL Try.prog pr 44 args H = some r := by
  obtain ⟨_, h1, rfl⟩ := ex44 (R := fun x => x = r) ha h
  exact h1
def rs45 : List ResultVar := [.tmp 6, .tmp 7]
@[go_sem] theorem gc45 (H : Hp) (r : V × Hp) : pr.gc 45 H r = r := (show pr.gc 45 H r = gcM modeOf 45 H r from rfl).trans (gcM_zero rfl H r)
set_option maxRecDepth 100000 in
theorem ex45 {args : List V} {H : Hp} {R : V × Hp → Prop} (ha : args.length ≤ 161) (h : Wp Try.prog (callL Try.prog pr) 161 c45 args [] H (RetQ Try.prog rs45 fun v H' => R (pr.gc 45 H (v, H')))) : ∃ r, callL Try.prog pr 45 args H = some r ∧ R r :=
  call_ex (fn := Try.f45) rfl Try.func45 rfl (by kernel_rfl) rfl (Nat.max_eq_right ha) h
theorem run45 {args : List V} {H : Hp} {r : V × Hp} (ha : args.length ≤ 161) (h : Wp Try.prog (callL Try.prog pr) 161 c45 args [] H (RetQ Try.prog rs45 fun v H' => pr.gc 45 H (v, H') = r)) : callL Try.prog pr 45 args H = some r := by
  obtain ⟨_, h1, rfl⟩ := ex45 (R := fun x => x = r) ha h
  exact h1
def rs46 : List ResultVar := [.tmp 2]
theorem gc46 (H : Hp) (r : V × Hp) : pr.gc 46 H r = gcF H r := (show pr.gc 46 H r = gcM modeOf 46 H r from rfl).trans (gcM_one rfl H r)
set_option maxRecDepth 100000 in
theorem ex46 {args : List V} {H : Hp} {R : V × Hp → Prop} (ha : args.length ≤ 21) (h : Wp Try.prog (callL Try.prog pr) 21 c46 args [] H (RetQ Try.prog rs46 fun v H' => R (pr.gc 46 H (v, H')))) : ∃ r, callL Try.prog pr 46 args H = some r ∧ R r :=
  call_ex (fn := Try.f46) rfl Try.func46 rfl (by kernel_rfl) rfl (Nat.max_eq_right ha) h
theorem run46 {args : List V} {H : Hp} {r : V × Hp} (ha : args.length ≤ 21) (h : Wp Try.prog (callL Try.prog pr) 21 c46 args [] H (RetQ Try.prog rs46 fun v H' => pr.gc 46 H (v, H') = r)) : callL Try.prog pr 46 args H = some r := by
  obtain ⟨_, h1, rfl⟩ := ex46 (R := fun x => x = r) ha h
  exact h1
def rs47 : List ResultVar := [.tmp 2]
theorem gc47 (H : Hp) (r : V × Hp) : pr.gc 47 H r = gcF H r := (show pr.gc 47 H r = gcM modeOf 47 H r from rfl).trans (gcM_one rfl H r)
set_option maxRecDepth 100000 in
theorem ex47 {args : List V} {H : Hp} {R : V × Hp → Prop} (ha : args.length ≤ 22) (h : Wp Try.prog (callL Try.prog pr) 22 c47 args [] H (RetQ Try.prog rs47 fun v H' => R (pr.gc 47 H (v, H')))) : ∃ r, callL Try.prog pr 47 args H = some r ∧ R r :=
  call_ex (fn := Try.f47) rfl Try.func47 rfl (by kernel_rfl) rfl (Nat.max_eq_right ha) h
theorem run47 {args : List V} {H : Hp} {r : V × Hp} (ha : args.length ≤ 22) (h : Wp Try.prog (callL Try.prog pr) 22 c47 args [] H (RetQ Try.prog rs47 fun v H' => pr.gc 47 H (v, H') = r)) : callL Try.prog pr 47 args H = some r := by
  obtain ⟨_, h1, rfl⟩ := ex47 (R := fun x => x = r) ha h
  exact h1
def rs48 : List ResultVar := [.tmp 2]
theorem gc48 (H : Hp) (r : V × Hp) : pr.gc 48 H r = gcF H r := (show pr.gc 48 H r = gcM modeOf 48 H r from rfl).trans (gcM_one rfl H r)
set_option maxRecDepth 100000 in
theorem ex48 {args : List V} {H : Hp} {R : V × Hp → Prop} (ha : args.length ≤ 9) (h : Wp Try.prog (callL Try.prog pr) 9 c48 args [] H (RetQ Try.prog rs48 fun v H' => R (pr.gc 48 H (v, H')))) : ∃ r, callL Try.prog pr 48 args H = some r ∧ R r :=
  call_ex (fn := Try.f48) rfl Try.func48 rfl (by kernel_rfl) rfl (Nat.max_eq_right ha) h
theorem run48 {args : List V} {H : Hp} {r : V × Hp} (ha : args.length ≤ 9) (h : Wp Try.prog (callL Try.prog pr) 9 c48 args [] H (RetQ Try.prog rs48 fun v H' => pr.gc 48 H (v, H') = r)) : callL Try.prog pr 48 args H = some r := by
  obtain ⟨_, h1, rfl⟩ := ex48 (R := fun x => x = r) ha h
  exact h1
def rs57 : List ResultVar := [.tmp 4]
theorem gc57 (H : Hp) (r : V × Hp) : pr.gc 57 H r = gcF H r := (show pr.gc 57 H r = gcM modeOf 57 H r from rfl).trans (gcM_one rfl H r)
set_option maxRecDepth 100000 in
theorem ex57 {args : List V} {H : Hp} {R : V × Hp → Prop} (ha : args.length ≤ 19) (h : Wp Try.prog (callL Try.prog pr) 19 c57 args [] H (RetQ Try.prog rs57 fun v H' => R (pr.gc 57 H (v, H')))) : ∃ r, callL Try.prog pr 57 args H = some r ∧ R r :=
  call_ex (fn := Try.f57) rfl Try.func57 rfl (by kernel_rfl) rfl (Nat.max_eq_right ha) h
theorem run57 {args : List V} {H : Hp} {r : V × Hp} (ha : args.length ≤ 19) (h : Wp Try.prog (callL Try.prog pr) 19 c57 args [] H (RetQ Try.prog rs57 fun v H' => pr.gc 57 H (v, H') = r)) : callL Try.prog pr 57 args H = some r := by
  obtain ⟨_, h1, rfl⟩ := ex57 (R := fun x => x = r) ha h
  exact h1
def rs58 : List ResultVar := [.tmp 4]
theorem gc58 (H : Hp) (r : V × Hp) : pr.gc 58 H r = gcF H r := (show pr.gc 58 H r = gcM modeOf 58 H r from rfl).trans (gcM_one rfl H r)
set_option maxRecDepth 100000 in
theorem ex58 {args : List V} {H : Hp} {R : V × Hp → Prop} (ha : args.length ≤ 26) (h : Wp Try.prog (callL Try.prog pr) 26 c58 args [] H (RetQ Try.prog rs58 fun v H' => R (pr.gc 58 H (v, H')))) : ∃ r, callL Try.prog pr 58 args H = some r ∧ R r :=
  call_ex (fn := Try.f58) rfl Try.func58 rfl (by kernel_rfl) rfl (Nat.max_eq_right ha) h
theorem run58 {args : List V} {H : Hp} {r : V × Hp} (ha : args.length ≤ 26) (h : Wp Try.prog (callL Try.prog pr) 26 c58 args [] H (RetQ Try.prog rs58 fun v H' => pr.gc 58 H (v, H') = r)) : callL Try.prog pr 58 args H = some r := by
  obtain ⟨_, h1, rfl⟩ := ex58 (R := fun x => x = r) ha h
  exact h1
def rs59 : List ResultVar := [.tmp 6, .tmp 7]
theorem gc59 (H : Hp) (r : V × Hp) : pr.gc 59 H r = gcF H r := (show pr.gc 59 H r = gcM modeOf 59 H r from rfl).trans (gcM_one rfl H r)
set_option maxRecDepth 100000 in
theorem ex59 {args : List V} {H : Hp} {R : V × Hp → Prop} (ha : args.length ≤ 51) (h : Wp Try.prog (callL Try.prog pr) 51 c59 args [] H (RetQ Try.prog rs59 fun v H' => R (pr.gc 59 H (v, H')))) : ∃ r, callL Try.prog pr 59 args H = some r ∧ R r :=
  call_ex (fn := Try.f59) rfl Try.func59 rfl (by kernel_rfl) rfl (Nat.max_eq_right ha) h
theorem run59 {args : List V} {H : Hp} {r : V × Hp} (ha : args.length ≤ 51) (h : Wp Try.prog (callL Try.prog pr) 51 c59 args [] H (RetQ Try.prog rs59 fun v H' => pr.gc 59 H (v, H') = r)) : callL Try.prog pr 59 args H = some r := by
  obtain ⟨_, h1, rfl⟩ := ex59 (R := fun x => x = r) ha h
  exact h1
def rs60 : List ResultVar := [.tmp 4]
theorem gc60 (H : Hp) (r : V × Hp) : pr.gc 60 H r = gcF H r := (show pr.gc 60 H r = gcM modeOf 60 H r from rfl).trans (gcM_one rfl H r)
set_option maxRecDepth 100000 in
theorem ex60 {args : List V} {H : Hp} {R : V × Hp → Prop} (ha : args.length ≤ 42) (h : Wp Try.prog (callL Try.prog pr) 42 c60 args [] H (RetQ Try.prog rs60 fun v H' => R (pr.gc 60 H (v, H')))) : ∃ r, callL Try.prog pr 60 args H = some r ∧ R r :=
  call_ex (fn := Try.f60) rfl Try.func60 rfl (by kernel_rfl) rfl (Nat.max_eq_right ha) h
theorem run60 {args : List V} {H : Hp} {r : V × Hp} (ha : args.length ≤ 42) (h : Wp Try.prog (callL Try.prog pr) 42 c60 args [] H (RetQ Try.prog rs60 fun v H' => pr.gc 60 H (v, H') = r)) : callL Try.prog pr 60 args H = some r := by
  obtain ⟨_, h1, rfl⟩ := ex60 (R := fun x => x = r) ha h
  exact h1
def rs61 : List ResultVar := []
theorem gc61 (H : Hp) (r : V × Hp) : pr.gc 61 H r = gcF H r := (show pr.gc 61 H r = gcM modeOf 61 H r from rfl).trans (gcM_one rfl H r)
set_option maxRecDepth 100000 in
theorem ex61 {args : List V} {H : Hp} {R : V × Hp → Prop} (ha : args.length ≤ 22) (h : Wp Try.prog (callL Try.prog pr) 22 c61 args [] H (RetQ Try.prog rs61 fun v H' => R (pr.gc 61 H (v, H')))) : ∃ r, callL Try.prog pr 61 args H = some r ∧ R r :=
  call_ex (fn := Try.f61) rfl Try.func61 rfl (by kernel_rfl) rfl (Nat.max_eq_right ha) h
theorem run61 {args : List V} {H : Hp} {r : V × Hp} (ha : args.length ≤ 22) (h : Wp Try.prog (callL Try.prog pr) 22 c61 args [] H (RetQ Try.prog rs61 fun v H' => pr.gc 61 H (v, H') = r)) : callL Try.prog pr 61 args H = some r := by
  obtain ⟨_, h1, rfl⟩ := ex61 (R := fun x => x = r) ha h
  exact h1
def rs62 : List ResultVar := [.tmp 2]
theorem gc62 (H : Hp) (r : V × Hp) : pr.gc 62 H r = gcF H r := (show pr.gc 62 H r = gcM modeOf 62 H r from rfl).trans (gcM_one rfl H r)
set_option maxRecDepth 100000 in
theorem ex62 {args : List V} {H : Hp} {R : V × Hp → Prop} (ha : args.length ≤ 21) (h : Wp Try.prog (callL Try.prog pr) 21 c62 args [] H (RetQ Try.prog rs62 fun v H' => R (pr.gc 62 H (v, H')))) : ∃ r, callL Try.prog pr 62 args H = some r ∧ R r :=
  call_ex (fn := Try.f62) rfl Try.func62 rfl (by kernel_rfl) rfl (Nat.max_eq_right ha) h
theorem run62 {args : List V} {H : Hp} {r : V × Hp} (ha : args.length ≤ 21) (h : Wp Try.prog (callL Try.prog pr) 21 c62 args [] H (RetQ Try.prog rs62 fun v H' => pr.gc 62 H (v, H') = r)) : callL Try.prog pr 62 args H = some r := by
  obtain ⟨_, h1, rfl⟩ := ex62 (R := fun x => x = r) ha h
  exact h1
def rs63 : List ResultVar := [.tmp 4, .tmp 5]
theorem gc63 (H : Hp) (r : V × Hp) : pr.gc 63 H r = gcF H r := (show pr.gc 63 H r = gcM modeOf 63 H r from rfl).trans (gcM_one rfl H r)
set_option maxRecDepth 100000 in
theorem ex63 {args : List V} {H : Hp} {R : V × Hp → Prop} (ha : args.length ≤ 34) (h : Wp Try.prog (callL Try.prog pr) 34 c63 args [] H (RetQ Try.prog rs63 fun v H' => R (pr.gc 63 H (v, H')))) : ∃ r, callL Try.prog pr 63 args H = some r ∧ R r :=
  call_ex (fn := Try.f63) rfl Try.func63 rfl (by kernel_rfl) rfl (Nat.max_eq_right ha) h
theorem run63 {args : List V} {H : Hp} {r : V × Hp} (ha : args.length ≤ 34) (h : Wp Try.prog (callL Try.prog pr) 34 c63 args [] H (RetQ Try.prog rs63 fun v H' => pr.gc 63 H (v, H') = r)) : callL Try.prog pr 63 args H = some r := by
  obtain ⟨_, h1, rfl⟩ := ex63 (R := fun x => x = r) ha h
  exact h1
def rs64 : List ResultVar := [.cell 4 37]
theorem gc64 (H : Hp) (r : V × Hp) : pr.gc 64 H r = gcF H r := (show pr.gc 64 H r = gcM modeOf 64 H r from rfl).trans (gcM_one rfl H r)
set_option maxRecDepth 100000 in
theorem ex64 {args : List V} {H : Hp} {R : V × Hp → Prop} (ha : args.length ≤ 18) (h : Wp Try.prog (callL Try.prog pr) 18 c64 args [] H (RetQ Try.prog rs64 fun v H' => R (pr.gc 64 H (v, H')))) : ∃ r, callL Try.prog pr 64 args H = some r ∧ R r :=
  call_ex (fn := Try.f64) rfl Try.func64 rfl (by kernel_rfl) rfl (Nat.max_eq_right ha) h
theorem run64 {args : List V} {H : Hp} {r : V × Hp} (ha : args.length ≤ 18) (h : Wp Try.prog (callL Try.prog pr) 18 c64 args [] H (RetQ Try.prog rs64 fun v H' => pr.gc 64 H (v, H') = r)) : callL Try.prog pr 64 args H = some r := by
  obtain ⟨_, h1, rfl⟩ := ex64 (R := fun x => x = r) ha h
  exact h1
def rs70 : List ResultVar := [.tmp 4]
theorem gc70 (H : Hp) (r : V × Hp) : pr.gc 70 H r = gcF H r := (show pr.gc 70 H r = gcM modeOf 70 H r from rfl).trans (gcM_one rfl H r)
set_option maxRecDepth 100000 in
theorem ex70 {args : List V} {H : Hp} {R : V × Hp → Prop} (ha : args.length ≤ 9) (h : Wp Try.prog (callL Try.prog pr) 9 c70 args [] H (RetQ Try.prog rs70 fun v H' => R (pr.gc 70 H (v, H')))) : ∃ r, callL Try.prog pr 70 args H = some r ∧ R r :=
  call_ex (fn := Try.f70) rfl Try.func70 rfl (by kernel_rfl) rfl (Nat.max_eq_right ha) h
theorem run70 {args : List V} {H : Hp} {r : V × Hp} (ha : args.length ≤ 9) (h : Wp Try.prog (callL Try.prog pr) 9 c70 args [] H (RetQ Try.prog rs70 fun v H' => pr.gc 70 H (v, H') = r)) : callL Try.prog pr 70 args H = some r := by
  obtain ⟨_, h1, rfl⟩ := ex70 (R := fun x => x = r) ha h
  exact h1
def rs71 : List ResultVar := [.tmp 2]
theorem gc71 (H : Hp) (r : V × Hp) : pr.gc 71 H r = gcF H r := (show pr.gc 71 H r = gcM modeOf 71 H r from rfl).trans (gcM_one rfl H r)
set_option maxRecDepth 100000 in
theorem ex71 {args : List V} {H : Hp} {R : V × Hp → Prop} (ha : args.length ≤ 6) (h : Wp Try.prog (callL Try.prog pr) 6 c71 args [] H (RetQ Try.prog rs71 fun v H' => R (pr.gc 71 H (v, H')))) : ∃ r, callL Try.prog pr 71 args H = some r ∧ R r :=
  call_ex (fn := Try.f71) rfl Try.func71 rfl (by kernel_rfl) rfl (Nat.max_eq_right ha) h
theorem run71 {args : List V} {H : Hp} {r : V × Hp} (ha : args.length ≤ 6) (h : Wp Try.prog (callL Try.prog pr) 6 c71 args [] H (RetQ Try.prog rs71 fun v H' => pr.gc 71 H (v, H') = r)) : callL Try.prog pr 71 args H = some r := by
  obtain ⟨_, h1, rfl⟩ := ex71 (R := fun x => x = r) ha h
  exact h1
def rs75 : List ResultVar := [.tmp 6, .tmp 7]
theorem gc75 (H : Hp) (r : V × Hp) : pr.gc 75 H r = gcF H r := (show pr.gc 75 H r = gcM modeOf 75 H r from rfl).trans (gcM_one rfl H r)
set_option maxRecDepth 100000 in
theorem ex75 {args : List V} {H : Hp} {R : V × Hp → Prop} (ha : args.length ≤ 63) (h : Wp Try.prog (callL Try.prog pr) 63 c75 args [] H (RetQ Try.prog rs75 fun v H' => R (pr.gc 75 H (v, H')))) : ∃ r, callL Try.prog pr 75 args H = some r ∧ R r :=
  call_ex (fn := Try.f75) rfl Try.func75 rfl (by kernel_rfl) rfl (Nat.max_eq_right ha) h
theorem run75 {args : List V} {H : Hp} {r : V × Hp} (ha : args.length ≤ 63) (h : Wp Try.prog (callL Try.prog pr) 63 c75 args [] H (RetQ Try.prog rs75 fun v H' => pr.gc 75 H (v, H') = r)) : callL Try.prog pr 75 args H = some r := by
  obtain ⟨_, h1, rfl⟩ := ex75 (R := fun x => x = r) ha h
  exact h1
def rs76 : List ResultVar := [.tmp 2]
theorem gc76 (H : Hp) (r : V × Hp) : pr.gc 76 H r = gcF H r := (show pr.gc 76 H r = gcM modeOf 76 H r from rfl).trans (gcM_one rfl H r)
set_option maxRecDepth 100000 in
theorem ex76 {args : List V} {H : Hp} {R : V × Hp → Prop} (ha : args.length ≤ 26) (h : Wp Try.prog (callL Try.prog pr) 26 c76 args [] H (RetQ Try.prog rs76 fun v H' => R (pr.gc 76 H (v, H')))) : ∃ r, callL Try.prog pr 76 args H = some r ∧ R r :=
  call_ex (fn := Try.f76) rfl Try.func76 rfl (by kernel_rfl) rfl (Nat.max_eq_right ha) h
theorem run76 {args : List V} {H : Hp} {r : V × Hp} (ha : args.length ≤ 26) (h : Wp Try.prog (callL Try.prog pr) 26 c76 args [] H (RetQ Try.prog rs76 fun v H' => pr.gc 76 H (v, H') = r)) : callL Try.prog pr 76 args H = some r := by
  obtain ⟨_, h1, rfl⟩ := ex76 (R := fun x => x = r) ha h
  exact h1
def rs85 : List ResultVar := [.tmp 4]
theorem gc85 (H : Hp) (r : V × Hp) : pr.gc 85 H r = gcF H r := (show pr.gc 85 H r = gcM modeOf 85 H r from rfl).trans (gcM_one rfl H r)
set_option maxRecDepth 100000 in
theorem ex85 {args : List V} {H : Hp} {R : V × Hp → Prop} (ha : args.length ≤ 19) (h : Wp Try.prog (callL Try.prog pr) 19 c85 args [] H (RetQ Try.prog rs85 fun v H' => R (pr.gc 85 H (v, H')))) : ∃ r, callL Try.prog pr 85 args H = some r ∧ R r :=
  call_ex (fn := Try.f85) rfl Try.func85 rfl (by kernel_rfl) rfl (Nat.max_eq_right ha) h
theorem run85 {args : List V} {H : Hp} {r : V × Hp} (ha : args.length ≤ 19) (h : Wp Try.prog (callL Try.prog pr) 19 c85 args [] H (RetQ Try.prog rs85 fun v H' => pr.gc 85 H (v, H') = r)) : callL Try.prog pr 85 args H = some r := by
  obtain ⟨_, h1, rfl⟩ := ex85 (R := fun x => x = r) ha h
  exact h1
def rs89 : List ResultVar := [.tmp 4]
theorem gc89 (H : Hp) (r : V × Hp) : pr.gc 89 H r = gcF H r := (show pr.gc 89 H r = gcM modeOf 89 H r from rfl).trans (gcM_one rfl H r)
set_option maxRecDepth 100000 in
theorem ex89 {args : List V} {H : Hp} {R : V × Hp → Prop} (ha : args.length ≤ 15) (h : Wp Try.prog (callL Try.prog pr) 15 c89 args [] H (RetQ Try.prog rs89 fun v H' => R (pr.gc 89 H (v, H')))) : ∃ r, callL Try.prog pr 89 args H = some r ∧ R r :=
  call_ex (fn := Try.f89) rfl Try.func89 rfl (by kernel_rfl) rfl (Nat.max_eq_right ha) h
theorem run89 {args : List V} {H : Hp} {r : V × Hp} (ha : args.length ≤ 15) (h : Wp Try.prog (callL Try.prog pr) 15 c89 args [] H (RetQ Try.prog rs89 fun v H' => pr.gc 89 H (v, H') = r)) : callL Try.prog pr 89 args H = some r := by
  obtain ⟨_, h1, rfl⟩ := ex89 (R := fun x => x = r) ha h
  exact h1
end Go.Proofs.Ytdpdlobaabcjjab
/-
  The abstract machine, part EC: arguments as lists of plain data. No statement of the seat stands here.
-/
namespace Go.An
open Go Go.RowKit

set_option linter.unusedSectionVars false
section
variable [Orc]
variable {P : Program}
def structTys (P : Program) (t : TypeId) : Option (List TypeId) := match P.underlying t with
  | some (.struct fs) => some (fs.toList.map (·.type))
  | _ => none
def RdTs (P : Program) (m : Nat) : List TypeId → List (List V) → Prop
  | [], [] => True
  | t :: ts, x :: xs => (x.length = P.cellsOf t ∧ RdT P m t x) ∧ RdTs P m ts xs
  | _, _ => False
theorem rdTs_of {m : Nat} : ∀ {fs : List Field} {xss : List (List V)}, xss.length = fs.length → (∀ (i : Nat) (fld : Field) (x : List V), fs[i]? = some fld → xss[i]? = some x → x.length = P.cellsOf fld.type ∧ RdT P m fld.type x) → RdTs P m (fs.map (·.type)) xss
  | [], [], _, _ => trivial
  | f :: fs, x :: xss, hl, h => ⟨h 0 f x rfl rfl, rdTs_of (by simpa using hl) fun i fld y h1 h2 => h (i + 1) fld y (by simpa using h1) (by simpa using h2)⟩
  | [], _ :: _, hl, _ => by simp at hl
  | _ :: _, [], hl, _ => by simp at hl
theorem rd_parts {m : Nat} {t : TypeId} {ts : List TypeId} {xs : List V} (hu : structTys P t = some ts) (h : RdT P (m + 1) t xs) : ∃ xss, xs = xss.flatten ∧ RdTs P m ts xss := by
  unfold structTys at hu
  split at hu
  · rename_i fs hs
    injection hu with hu
    subst hu
    obtain ⟨xss, h1, h2, h3⟩ := rd_struct hs h
    exact ⟨xss, h1, rdTs_of (by simpa using h2) fun i fld x h4 h5 => h3 i fld x (by simpa using h4) h5⟩
  · cases hu
theorem rdTs_cons {m : Nat} {t : TypeId} {ts : List TypeId} {xss : List (List V)} (h : RdTs P m (t :: ts) xss) : ∃ x l, xss = x :: l ∧ RdT P m t x ∧ RdTs P m ts l := by
  cases xss with
  | nil => exact h.elim
  | cons x l => exact ⟨x, l, rfl, h.1.2, h.2⟩
theorem rdTs_nil {m : Nat} {xss : List (List V)} (h : RdTs P m [] xss) : xss = [] := by
  cases xss with
  | nil => rfl
  | cons x l => exact h.elim
def Inx (n : Int) : Prop := -9223372036854775808 ≤ n ∧ n ≤ 9223372036854775807
theorem rd_i64 {m : Nat} {t : TypeId} {xs : List V} (hu : P.underlying t = some (.int .i64)) (h : RdT P (m + 1) t xs) : ∃ n, xs = [.int .i64 n] ∧ Inx n := by
  obtain ⟨n, e, hw⟩ := rd_int hu h
  exact ⟨n, e, by simpa [Inx, Lit.wf, IntKind.min, IntKind.max, IntKind.signed, IntKind.bits] using hw⟩
theorem rd_u8 {m : Nat} {t : TypeId} {xs : List V} (hu : P.underlying t = some (.int .u8)) (h : RdT P (m + 1) t xs) : ∃ n : UInt8, xs = [.int .u8 n.toNat] := by
  obtain ⟨n, e, hw⟩ := rd_int hu h
  have hr : 0 ≤ n ∧ n ≤ 255 := by simpa [Lit.wf, IntKind.min, IntKind.max, IntKind.signed, IntKind.bits] using hw
  refine ⟨UInt8.ofNat n.toNat, ?_⟩
  rw [e, UInt8.toNat_ofNat', Nat.mod_eq_of_lt (by omega)]
  congr 2
  omega
/-- A list of elements, read each by itself. -/
theorem dec_list {α : Type} {m : Nat} {e : TypeId} {enc : α → List V} {Ok : α → Prop} (dec : ∀ x, RdT P m e x → ∃ a, x = enc a ∧ Ok a) : ∀ (xss : List (List V)), (∀ x ∈ xss, x.length = P.cellsOf e ∧ RdT P m e x) → ∃ l : List α, xss = l.map enc ∧ ∀ a ∈ l, Ok a
  | [], _ => ⟨[], rfl, by simp⟩
  | x :: xss, h => by
    obtain ⟨l, rfl, hl⟩ := dec_list dec xss fun y hy => h y (by simp [hy])
    obtain ⟨a, rfl, ha⟩ := dec x (h x (by simp)).2
    refine ⟨a :: l, rfl, fun b hb => ?_⟩
    rcases List.mem_cons.1 hb with rfl | hb
    · exact ha
    · exact hl b hb

theorem rd_list {α : Type} {m : Nat} {t e : TypeId} {E : Enc α} {Ok : α → Prop} (hu : P.underlying t = some (.slice e)) (hc : P.cellsOf e = E.w) (dec : ∀ x, RdT P m e x → ∃ a, x = E.f a ∧ Ok a) {xs : List V} (h : RdT P (m + 1) t xs) :
    ∃ (b : Bool) (l : List α), xs = [slV b E l] ∧ (∀ a ∈ l, Ok a) ∧ l.length * P.bytesOf e ≤ reachBytes ∧ l.length ≤ maxLen := by
  rcases rd_slice hu h with rfl | ⟨xss, rfl, h1, h2, h3⟩
  · exact ⟨true, [], rfl, by simp, by simp, by simp⟩
  · obtain ⟨l, rfl, hl⟩ := dec_list dec xss h3
    rw [List.length_map] at h1 h2
    exact ⟨false, l, by simp [slV, flatE, hc], hl, h1, h2⟩
theorem arg_list {α : Type} {m : Nat} {t e : TypeId} {E : Enc α} {Ok : α → Prop} (hu : P.underlying t = some (.slice e)) (hc : P.cellsOf e = E.w) (dec : ∀ x, RdT P m e x → ∃ a, x = E.f a ∧ Ok a) {x : V} (h : ArgT P (m + 1) t x) :
    ∃ (b : Bool) (l : List α), x = slV b E l ∧ (∀ a ∈ l, Ok a) ∧ l.length * P.bytesOf e ≤ reachBytes ∧ l.length ≤ maxLen := by
  unfold ArgT at h
  rw [hu] at h
  obtain ⟨b, l, e, r⟩ := rd_list hu hc dec h
  injection e with e
  exact ⟨b, l, e, r⟩
theorem arg_i64 {m : Nat} {t : TypeId} {x : V} (hu : P.underlying t = some (.int .i64)) (h : ArgT P (m + 1) t x) : ∃ n, x = .int .i64 n ∧ Inx n := by
  unfold ArgT at h; rw [hu] at h
  obtain ⟨n, e, hw⟩ := rd_i64 hu h
  injection e with e
  exact ⟨n, e, hw⟩
theorem rd_bytes {m : Nat} {t e : TypeId} (hu : P.underlying t = some (.slice e)) (he : P.underlying e = some (.int .u8)) (hc : P.cellsOf e = 1) {xs : List V} (h : RdT P (m + 2) t xs) :
    ∃ (b : Bool) (l : List UInt8), xs = [slV b byE l] ∧ (∀ b ∈ l, True) ∧ l.length * P.bytesOf e ≤ reachBytes ∧ l.length ≤ maxLen :=
  rd_list (m := m + 1) (E := byE) (Ok := fun _ => True) hu hc (fun _ hx => let ⟨n, e⟩ := rd_u8 (m := m) he hx; ⟨n, e, trivial⟩) h
theorem arg_bytes {m : Nat} {t e : TypeId} (hu : P.underlying t = some (.slice e)) (he : P.underlying e = some (.int .u8)) (hc : P.cellsOf e = 1) {x : V} (h : ArgT P (m + 2) t x) :
    ∃ (b : Bool) (l : List UInt8), x = slV b byE l ∧ (∀ b ∈ l, True) ∧ l.length * P.bytesOf e ≤ reachBytes ∧ l.length ≤ maxLen :=
  arg_list (m := m + 1) (E := byE) (Ok := fun _ => True) hu hc (fun _ hx => let ⟨n, e⟩ := rd_u8 (m := m) he hx; ⟨n, e, trivial⟩) h
theorem arg_ints {m : Nat} {t e : TypeId} (hu : P.underlying t = some (.slice e)) (he : P.underlying e = some (.int .i64)) (hc : P.cellsOf e = 1) {x : V} (h : ArgT P (m + 2) t x) :
    ∃ (b : Bool) (l : List Int), x = slV b inE l ∧ (∀ b ∈ l, Inx b) ∧ l.length * P.bytesOf e ≤ reachBytes ∧ l.length ≤ maxLen :=
  arg_list (m := m + 1) (E := inE) (Ok := Inx) hu hc (fun _ hx => rd_i64 (m := m) he hx) h
theorem maxLen_eq : maxLen = 9223372036854775807 := rfl
theorem arg_struct {m : Nat} {t : TypeId} {fs : Array Field} {x : V} (hu : P.underlying t = some (.struct fs)) (h : ArgT P m t x) : ∃ xs, x = .agg xs ∧ RdT P m t xs := by
  unfold ArgT at h; rw [hu] at h; exact h
theorem byE_w : byE.w = 1 := rfl
theorem inE_w : inE.w = 1 := rfl
theorem boE_w : boE.w = 1 := rfl
theorem stE_w : stE.w = 1 := rfl
/-- The first place of what is sought. -/
def findI {α : Type} (p : α → Bool) : List α → Int → Int
  | [], _ => -1
  | x :: xs, i => if p x then i else findI p xs (i + 1)
theorem findI_any {α : Type} (p : α → Bool) : ∀ (xs : List α) (i : Int), 0 ≤ i → decide (0 ≤ findI p xs i) = xs.any p
  | [], i, _ => rfl
  | x :: xs, i, h => by
    unfold findI
    by_cases hp : p x = true
    · simp [hp, h]
    · rw [if_neg hp, findI_any p xs (i + 1) (by omega)]
      simp [hp]
theorem findI_drop {α : Type} (p : α → Bool) {xs : List α} {i : Nat} {x : α} (hx : xs[i]? = some x) (n : Int) : findI p (xs.drop i) n = if p x then n else findI p (xs.drop (i + 1)) (n + 1) := by
  obtain ⟨h1, rfl⟩ := List.getElem?_eq_some_iff.1 hx
  rw [List.drop_eq_getElem_cons h1]
  rfl
/-! Plain data that stays folded. -/
section
variable {α : Type} {H : Hp} (E : Enc α) (a : α)
@[go_sem] theorem Enc.load (t : TypeId) (off : Nat) : loadV P t H (.ipt (E.f a) off) = partV P t (E.f a) off := rfl
@[go_sem] theorem Enc.part (t : TypeId) (off : Nat) : partV P t (E.f a) off = partK (aggT P t) (szOf P t) (E.f a) off := rfl
theorem partK_all {cs : List V} {n : Nat} (h : cs.length = n) : partK (some true) (some n) cs 0 = some (.agg cs) := by
  subst h
  simp [partK]
@[go_sem] theorem Enc.immLs : immL (E.f a) = true := E.imm a
@[go_sem] theorem Enc.all : (E.f a).all V.isCell = true := immL_cells (E.imm a)
theorem eqC_imm {v : V} (h : v.imm = true) : eqC v v = true := by
  cases v <;> simp [V.imm] at h <;> simp [eqC, eqBase, eqIL_refl]
theorem eqList_imm : ∀ {l : List V}, immL l = true → eqList eqC l l = true
  | [], _ => rfl
  | v :: l, h => by
    have h1 := immL_iff.1 h
    rw [eqList, eqC_imm (h1 v (by simp)), eqList_imm (immL_iff.2 fun x hx => h1 x (by simp [hx]))]
    rfl
@[go_sem] theorem Enc.eqL : eqList eqC (E.f a) (E.f a) = true := eqList_imm (E.imm a)
theorem inlC_imm {n f : Nat} {v : V} (h : v.imm = true) : inlC n H (f + 1) v = some v := by
  rw [← inlB_imm (n := n) (H' := H) (f := f) h]
  cases v <;> simp [V.imm] at h <;> rfl
theorem mapO_immC {n f : Nat} {cs : List V} (h : immL cs = true) : mapO (inlC n H (f + 1)) cs = some cs := by
  induction cs with
  | nil => rfl
  | cons v l ih =>
    have h1 := immL_iff.1 h
    rw [mapO_cons, inlC_imm (h1 v (by simp)), ih (immL_iff.2 fun x hx => h1 x (by simp [hx]))]
    rfl
@[go_sem] theorem Enc.mapO {n f : Nat} : An.mapO (inlC n H (f + 1)) (E.f a) = some (E.f a) := mapO_immC (E.imm a)
@[go_sem] theorem Enc.mapOB {n f : Nat} : An.mapO (inlB n H (f + 1)) (E.f a) = some (E.f a) := mapO_imm (E.imm a)
end
theorem guardQ_ite {cl : CallT} {N n0 : Nat} {b w2 w : Bool} {v1 v2 : V} {sf : Prop} {x : Option (V × Dfr × Hp)} {d : Option Nat} {a : Bool} {rs : List (Option (Nat × Bool) × Op)} {rest : List Co} {T : Fr} {D : Dfr} {H : Hp} {Q : Fr → Dfr → Hp → Prop}
    (h1 : b = true → guardQ P cl N n0 (iteB true w2 v1 v2) w sf x d a rs rest T D H Q) (h2 : b = false → guardQ P cl N n0 (iteB false w2 v1 v2) w sf x d a rs rest T D H Q) : guardQ P cl N n0 (iteB b w2 v1 v2) w sf x d a rs rest T D H Q := by
  cases b
  · exact h2 rfl
  · exact h1 rfl
/-- One more element laid behind a slice that grows. -/
theorem bl_one {α : Type} {H : Hp} {n g w by_ : Nat} (E : Enc α) (ys : List α) (y : α) (hn : n = H.length) (hw : E.w = w) (hb : (ys.length + 1) * by_ ≤ 2 ^ 40) (hb2 : ys.length + 1 ≤ 2 ^ 40) :
    appOf w by_ (H ++ blH g (ys.map E.f)) (blV n g w (ys.map E.f)) (.isl (E.f y) 1 w) = some (blV n (blG g (ys.map E.f)) w ((ys ++ [y]).map E.f), H ++ blH (blG g (ys.map E.f)) ((ys ++ [y]).map E.f)) := by
  rw [bl_push hn hw ((E.len y).trans hw) (immL_cells (E.imm y)) hb hb2]
  simp
theorem flatE_app {α : Type} (E : Enc α) (l m : List α) : flatE E (l ++ m) = flatE E l ++ flatE E m := by simp [flatE]
theorem flatE_cells {α : Type} (E : Enc α) (l : List α) : (flatE E l).all V.isCell = true := immL_cells flatE_imm
/-- A list laid behind a slice that grows. -/
theorem bl_all {α : Type} {H : Hp} {n g w by_ : Nat} (E : Enc α) (ys zs : List α) (b : Bool) (hn : n = H.length) (hw : E.w = w) (hb : (ys.length + zs.length) * by_ ≤ 2 ^ 40) (hb2 : ys.length + zs.length ≤ 2 ^ 40) :
    appOf w by_ (H ++ blH g (ys.map E.f)) (blV n g w (ys.map E.f)) (slV b E zs) = some (blV n (if zs = [] then g else blG g (ys.map E.f)) w ((ys ++ zs).map E.f), H ++ blH (if zs = [] then g else blG g (ys.map E.f)) ((ys ++ zs).map E.f)) := by
  subst hw hn
  have hp := E.pos
  have hxl := ls_len (enc_ls E ys)
  rw [List.length_map] at hxl
  have hzl : (flatE E zs).length = zs.length * E.w := flatE_len
  unfold appOf
  rw [src_slV]
  simp only [Option.bind_some]
  rw [if_pos ⟨hzl, flatE_cells E zs⟩]
  by_cases hz : zs = []
  · subst hz
    simp only [List.length_nil, if_true, List.append_nil]
    unfold blV blH
    by_cases h : ys.map E.f = []
    · simp [h]
    · have hr : getRow (H ++ [AB.row g (ys.map E.f).flatten true]) H.length g = some ((ys.map E.f).flatten, true) := getRow_last g _ true
      simp only [if_neg h, hr, Option.bind_some, List.length_map, Nat.add_zero]
      rw [if_pos ⟨trivial, by simpa using hb, by simpa using hb2, by omega⟩]
  · have hz0 : 0 < zs.length := by
      cases zs with
      | nil => exact absurd rfl hz
      | cons => simp
    have hne : ¬ ((ys ++ zs).map E.f = []) := by
      intro e
      simp only [List.map_eq_nil_iff, List.append_eq_nil_iff] at e
      exact hz e.2
    simp only [if_neg hz, blV, blH, blG, if_neg hne]
    by_cases h : ys.map E.f = []
    · have h' : ys = [] := by simpa using h
      subst h'
      simp only [List.map_nil, List.length_nil, Nat.zero_add, if_true, List.nil_append, List.append_nil] at hb hb2 ⊢
      rw [if_neg (show ¬ zs.length = 0 by omega), if_pos ⟨hb, hb2⟩]
      simp [flatE]
    · simp only [if_neg h]
      have hr : getRow (H ++ [AB.row g (ys.map E.f).flatten true]) H.length g = some ((ys.map E.f).flatten, true) := getRow_last g _ true
      have hzw : 0 < zs.length * E.w := Nat.mul_pos hz0 hp
      rw [hr]
      simp only [Option.bind_some, List.length_map]
      rw [if_pos ⟨trivial, hb, hb2, by omega⟩, if_neg (show ¬ zs.length = 0 by omega), if_pos trivial, if_neg (by rw [hxl, Nat.add_mul]; omega), if_pos (by omega)]
      simp [flatE]
end
end Go.An
