/-
  Texts of this seat, laid together. No statement of the seat stands here.
-/
import Derived.Test.YtdpdlobaabcjjaaP3
/-
  What this seat's program gives to the abstract machine: its types, its functions' code in short form (printed by a tool). No statement of the seat stands here.
-/
namespace Go.Proofs.Ytdpdlobaabcjjaa
open Go Go.Am

@[go_sem] theorem u3 : Try.prog.underlying 3 = some (.int .i64) := by kernel_rfl
@[go_sem] theorem z3 : szOf Try.prog 3 = some 1 := by kernel_rfl
@[go_sem] theorem y3 : bytesOf' Try.prog 3 = some 8 := by kernel_rfl
@[go_sem] theorem g3 : aggT Try.prog 3 = some false := by kernel_rfl
@[go_sem] theorem o3 : zeroV Try.prog 3 = some (.int .i64 0) := by kernel_rfl
@[go_sem] theorem u4 : Try.prog.underlying 4 = some (.bool) := by kernel_rfl
@[go_sem] theorem z4 : szOf Try.prog 4 = some 1 := by kernel_rfl
@[go_sem] theorem y4 : bytesOf' Try.prog 4 = some 1 := by kernel_rfl
@[go_sem] theorem g4 : aggT Try.prog 4 = some false := by kernel_rfl
@[go_sem] theorem o4 : zeroV Try.prog 4 = some (.bool false) := by kernel_rfl
@[go_sem] theorem u22 : Try.prog.underlying 22 = some (.slice 3) := by kernel_rfl
@[go_sem] theorem z22 : szOf Try.prog 22 = some 1 := by kernel_rfl
@[go_sem] theorem y22 : bytesOf' Try.prog 22 = some 24 := by kernel_rfl
@[go_sem] theorem g22 : aggT Try.prog 22 = some false := by kernel_rfl
@[go_sem] theorem o22 : zeroV Try.prog 22 = some .nilslice := by kernel_rfl
theorem s22 : sliceT Try.prog 22 1 = true := by kernel_rfl
@[go_sem] theorem i22 {id g off n : Nat} {cp : Cap} {k : IntKind} {j : Int} (hj : 0 ≤ j ∧ j < n) : indexAddrV Try.prog 22 (.slice id g off n 1 cp) (.int k j) = some (.ptr id g (off + j.toNat * 1)) := ia_slice (by kernel_rfl) hj
@[go_sem] theorem n22 {H : Hp} (id g off n : Nat) (cp : Cap) : lenV Try.prog 22 H (.slice id g off n 1 cp) = some (.int .i64 n) := len_slice (sz := 1) (by kernel_rfl) id g off n 1 cp
@[go_sem] theorem m22 {H : Hp} : lenV Try.prog 22 H .nilslice = some (.int .i64 0) := len_nilslice (sz := 1) (by kernel_rfl)
@[go_sem] theorem u29 : Try.prog.underlying 29 = some (.int .i64) := by kernel_rfl
@[go_sem] theorem z29 : szOf Try.prog 29 = some 1 := by kernel_rfl
@[go_sem] theorem y29 : bytesOf' Try.prog 29 = some 8 := by kernel_rfl
@[go_sem] theorem g29 : aggT Try.prog 29 = some false := by kernel_rfl
@[go_sem] theorem o29 : zeroV Try.prog 29 = some (.int .i64 0) := by kernel_rfl
@[go_sem] theorem u34 : Try.prog.underlying 34 = some (.slice 58) := by kernel_rfl
@[go_sem] theorem z34 : szOf Try.prog 34 = some 1 := by kernel_rfl
@[go_sem] theorem y34 : bytesOf' Try.prog 34 = some 24 := by kernel_rfl
@[go_sem] theorem g34 : aggT Try.prog 34 = some false := by kernel_rfl
@[go_sem] theorem o34 : zeroV Try.prog 34 = some .nilslice := by kernel_rfl
theorem s34 : sliceT Try.prog 34 7 = true := by kernel_rfl
@[go_sem] theorem i34 {id g off n : Nat} {cp : Cap} {k : IntKind} {j : Int} (hj : 0 ≤ j ∧ j < n) : indexAddrV Try.prog 34 (.slice id g off n 7 cp) (.int k j) = some (.ptr id g (off + j.toNat * 7)) := ia_slice (by kernel_rfl) hj
@[go_sem] theorem n34 {H : Hp} (id g off n : Nat) (cp : Cap) : lenV Try.prog 34 H (.slice id g off n 7 cp) = some (.int .i64 n) := len_slice (sz := 7) (by kernel_rfl) id g off n 7 cp
@[go_sem] theorem m34 {H : Hp} : lenV Try.prog 34 H .nilslice = some (.int .i64 0) := len_nilslice (sz := 7) (by kernel_rfl)
@[go_sem] theorem u35 : Try.prog.underlying 35 = some (.array 3 3) := by kernel_rfl
@[go_sem] theorem z35 : szOf Try.prog 35 = some 3 := by kernel_rfl
@[go_sem] theorem y35 : bytesOf' Try.prog 35 = some 24 := by kernel_rfl
@[go_sem] theorem g35 : aggT Try.prog 35 = some true := by kernel_rfl
@[go_sem] theorem o35 : zeroV Try.prog 35 = some (.agg [.int .i64 0, .int .i64 0, .int .i64 0]) := by kernel_rfl
@[go_sem] theorem i35 {id g off : Nat} {k : IntKind} {j : Int} (hj : 0 ≤ j ∧ j < (3 : Nat)) : indexAddrV Try.prog 35 (.ptr id g off) (.int k j) = some (.ptr id g (off + j.toNat * 1)) := ia_arr (by kernel_rfl) hj
@[go_sem] theorem u37 : Try.prog.underlying 37 = some (.slice 80) := by kernel_rfl
@[go_sem] theorem z37 : szOf Try.prog 37 = some 1 := by kernel_rfl
@[go_sem] theorem y37 : bytesOf' Try.prog 37 = some 24 := by kernel_rfl
@[go_sem] theorem g37 : aggT Try.prog 37 = some false := by kernel_rfl
@[go_sem] theorem o37 : zeroV Try.prog 37 = some .nilslice := by kernel_rfl
theorem s37 : sliceT Try.prog 37 11 = true := by kernel_rfl
@[go_sem] theorem i37 {id g off n : Nat} {cp : Cap} {k : IntKind} {j : Int} (hj : 0 ≤ j ∧ j < n) : indexAddrV Try.prog 37 (.slice id g off n 11 cp) (.int k j) = some (.ptr id g (off + j.toNat * 11)) := ia_slice (by kernel_rfl) hj
@[go_sem] theorem n37 {H : Hp} (id g off n : Nat) (cp : Cap) : lenV Try.prog 37 H (.slice id g off n 11 cp) = some (.int .i64 n) := len_slice (sz := 11) (by kernel_rfl) id g off n 11 cp
@[go_sem] theorem m37 {H : Hp} : lenV Try.prog 37 H .nilslice = some (.int .i64 0) := len_nilslice (sz := 11) (by kernel_rfl)
@[go_sem] theorem u40 : Try.prog.underlying 40 = some (.slice 50) := by kernel_rfl
@[go_sem] theorem z40 : szOf Try.prog 40 = some 1 := by kernel_rfl
@[go_sem] theorem y40 : bytesOf' Try.prog 40 = some 24 := by kernel_rfl
@[go_sem] theorem g40 : aggT Try.prog 40 = some false := by kernel_rfl
@[go_sem] theorem o40 : zeroV Try.prog 40 = some .nilslice := by kernel_rfl
theorem s40 : sliceT Try.prog 40 11 = true := by kernel_rfl
@[go_sem] theorem i40 {id g off n : Nat} {cp : Cap} {k : IntKind} {j : Int} (hj : 0 ≤ j ∧ j < n) : indexAddrV Try.prog 40 (.slice id g off n 11 cp) (.int k j) = some (.ptr id g (off + j.toNat * 11)) := ia_slice (by kernel_rfl) hj
@[go_sem] theorem n40 {H : Hp} (id g off n : Nat) (cp : Cap) : lenV Try.prog 40 H (.slice id g off n 11 cp) = some (.int .i64 n) := len_slice (sz := 11) (by kernel_rfl) id g off n 11 cp
@[go_sem] theorem m40 {H : Hp} : lenV Try.prog 40 H .nilslice = some (.int .i64 0) := len_nilslice (sz := 11) (by kernel_rfl)
@[go_sem] theorem z50 : szOf Try.prog 50 = some 11 := by kernel_rfl
@[go_sem] theorem y50 : bytesOf' Try.prog 50 = some 88 := by kernel_rfl
@[go_sem] theorem g50 : aggT Try.prog 50 = some true := by kernel_rfl
@[go_sem] theorem o50 : zeroV Try.prog 50 = some (.agg [.int .i64 0, .int .i64 0, .int .i64 0, .int .i64 0, .int .i64 0, .int .i64 0, .int .i64 0, .int .i64 0, .int .i64 0, .int .i64 0, .int .i64 0]) := by kernel_rfl
@[go_sem] theorem a50 (id g off i : Nat) : fieldAddrV Try.prog 50 (.ptr id g off) i = fieldAt [0, 1, 2, 3, 4, 5, 6, 7, 8, 9, 10] id g off i := fieldAt_eq (by kernel_rfl) id g off i
@[go_sem] theorem p50 (cs : List V) (i : Nat) : fieldV Try.prog 50 (.agg cs) i = fieldOf Try.prog [(3, 0), (3, 1), (3, 2), (3, 3), (3, 4), (3, 5), (3, 6), (3, 7), (3, 8), (3, 9), (3, 10)] cs i := fieldOf_eq (by kernel_rfl) cs i
@[go_sem] theorem h50 (ps : List (Nat × V)) : buildV Try.prog 50 ps = buildOf [.int .i64 0, .int .i64 0, .int .i64 0, .int .i64 0, .int .i64 0, .int .i64 0, .int .i64 0, .int .i64 0, .int .i64 0, .int .i64 0, .int .i64 0] [(0, 1), (1, 1), (2, 1), (3, 1), (4, 1), (5, 1), (6, 1), (7, 1), (8, 1), (9, 1), (10, 1)] ps := buildOf_eq (by kernel_rfl) (by kernel_rfl) ps
@[go_sem] theorem z58 : szOf Try.prog 58 = some 7 := by kernel_rfl
@[go_sem] theorem y58 : bytesOf' Try.prog 58 = some 56 := by kernel_rfl
@[go_sem] theorem g58 : aggT Try.prog 58 = some true := by kernel_rfl
@[go_sem] theorem o58 : zeroV Try.prog 58 = some (.agg [.int .i64 0, .int .i64 0, .int .i64 0, .int .i64 0, .int .i64 0, .int .i64 0, .int .i64 0]) := by kernel_rfl
@[go_sem] theorem a58 (id g off i : Nat) : fieldAddrV Try.prog 58 (.ptr id g off) i = fieldAt [0, 1, 2, 3, 4, 5, 6] id g off i := fieldAt_eq (by kernel_rfl) id g off i
@[go_sem] theorem p58 (cs : List V) (i : Nat) : fieldV Try.prog 58 (.agg cs) i = fieldOf Try.prog [(3, 0), (3, 1), (3, 2), (3, 3), (3, 4), (3, 5), (3, 6)] cs i := fieldOf_eq (by kernel_rfl) cs i
@[go_sem] theorem h58 (ps : List (Nat × V)) : buildV Try.prog 58 ps = buildOf [.int .i64 0, .int .i64 0, .int .i64 0, .int .i64 0, .int .i64 0, .int .i64 0, .int .i64 0] [(0, 1), (1, 1), (2, 1), (3, 1), (4, 1), (5, 1), (6, 1)] ps := buildOf_eq (by kernel_rfl) (by kernel_rfl) ps
@[go_sem] theorem z80 : szOf Try.prog 80 = some 11 := by kernel_rfl
@[go_sem] theorem y80 : bytesOf' Try.prog 80 = some 88 := by kernel_rfl
@[go_sem] theorem g80 : aggT Try.prog 80 = some true := by kernel_rfl
@[go_sem] theorem o80 : zeroV Try.prog 80 = some (.agg [.int .i64 0, .int .i64 0, .int .i64 0, .int .i64 0, .int .i64 0, .int .i64 0, .int .i64 0, .int .i64 0, .int .i64 0, .int .i64 0, .int .i64 0]) := by kernel_rfl
@[go_sem] theorem a80 (id g off i : Nat) : fieldAddrV Try.prog 80 (.ptr id g off) i = fieldAt [0, 1, 2, 3, 4, 5, 6, 7, 8, 9, 10] id g off i := fieldAt_eq (by kernel_rfl) id g off i
@[go_sem] theorem p80 (cs : List V) (i : Nat) : fieldV Try.prog 80 (.agg cs) i = fieldOf Try.prog [(3, 0), (3, 1), (3, 2), (3, 3), (3, 4), (3, 5), (3, 6), (3, 7), (3, 8), (3, 9), (3, 10)] cs i := fieldOf_eq (by kernel_rfl) cs i
@[go_sem] theorem h80 (ps : List (Nat × V)) : buildV Try.prog 80 ps = buildOf [.int .i64 0, .int .i64 0, .int .i64 0, .int .i64 0, .int .i64 0, .int .i64 0, .int .i64 0, .int .i64 0, .int .i64 0, .int .i64 0, .int .i64 0] [(0, 1), (1, 1), (2, 1), (3, 1), (4, 1), (5, 1), (6, 1), (7, 1), (8, 1), (9, 1), (10, 1)] ps := buildOf_eq (by kernel_rfl) (by kernel_rfl) ps
@[go_sem] theorem u81 : Try.prog.underlying 81 = some (.array 5 3) := by kernel_rfl
@[go_sem] theorem z81 : szOf Try.prog 81 = some 5 := by kernel_rfl
@[go_sem] theorem y81 : bytesOf' Try.prog 81 = some 40 := by kernel_rfl
@[go_sem] theorem g81 : aggT Try.prog 81 = some true := by kernel_rfl
@[go_sem] theorem o81 : zeroV Try.prog 81 = some (.agg [.int .i64 0, .int .i64 0, .int .i64 0, .int .i64 0, .int .i64 0]) := by kernel_rfl
@[go_sem] theorem i81 {id g off : Nat} {k : IntKind} {j : Int} (hj : 0 ≤ j ∧ j < (5 : Nat)) : indexAddrV Try.prog 81 (.ptr id g off) (.int k j) = some (.ptr id g (off + j.toNat * 1)) := ia_arr (by kernel_rfl) hj
@[go_sem] theorem u88 : Try.prog.underlying 88 = some (.array 5 3) := by kernel_rfl
@[go_sem] theorem z88 : szOf Try.prog 88 = some 5 := by kernel_rfl
@[go_sem] theorem y88 : bytesOf' Try.prog 88 = some 40 := by kernel_rfl
@[go_sem] theorem g88 : aggT Try.prog 88 = some true := by kernel_rfl
@[go_sem] theorem o88 : zeroV Try.prog 88 = some (.agg [.int .i64 0, .int .i64 0, .int .i64 0, .int .i64 0, .int .i64 0]) := by kernel_rfl
@[go_sem] theorem i88 {id g off : Nat} {k : IntKind} {j : Int} (hj : 0 ≤ j ∧ j < (5 : Nat)) : indexAddrV Try.prog 88 (.ptr id g off) (.int k j) = some (.ptr id g (off + j.toNat * 1)) := ia_arr (by kernel_rfl) hj
@[go_sem] theorem z90 : szOf Try.prog 90 = some 1 := by kernel_rfl
@[go_sem] theorem y90 : bytesOf' Try.prog 90 = some 8 := by kernel_rfl
@[go_sem] theorem g90 : aggT Try.prog 90 = some false := by kernel_rfl
@[go_sem] theorem o90 : zeroV Try.prog 90 = some .nilfn := by kernel_rfl
@[go_sem] theorem u126 : Try.prog.underlying 126 = some (.slice 40) := by kernel_rfl
@[go_sem] theorem z126 : szOf Try.prog 126 = some 1 := by kernel_rfl
@[go_sem] theorem y126 : bytesOf' Try.prog 126 = some 24 := by kernel_rfl
@[go_sem] theorem g126 : aggT Try.prog 126 = some false := by kernel_rfl
@[go_sem] theorem o126 : zeroV Try.prog 126 = some .nilslice := by kernel_rfl
theorem s126 : sliceT Try.prog 126 1 = true := by kernel_rfl
@[go_sem] theorem i126 {id g off n : Nat} {cp : Cap} {k : IntKind} {j : Int} (hj : 0 ≤ j ∧ j < n) : indexAddrV Try.prog 126 (.slice id g off n 1 cp) (.int k j) = some (.ptr id g (off + j.toNat * 1)) := ia_slice (by kernel_rfl) hj
@[go_sem] theorem n126 {H : Hp} (id g off n : Nat) (cp : Cap) : lenV Try.prog 126 H (.slice id g off n 1 cp) = some (.int .i64 n) := len_slice (sz := 1) (by kernel_rfl) id g off n 1 cp
@[go_sem] theorem m126 {H : Hp} : lenV Try.prog 126 H .nilslice = some (.int .i64 0) := len_nilslice (sz := 1) (by kernel_rfl)
@[go_sem] theorem u127 : Try.prog.underlying 127 = some (.map 88 4) := by kernel_rfl
@[go_sem] theorem z127 : szOf Try.prog 127 = some 1 := by kernel_rfl
@[go_sem] theorem y127 : bytesOf' Try.prog 127 = some 8 := by kernel_rfl
@[go_sem] theorem g127 : aggT Try.prog 127 = some false := by kernel_rfl
@[go_sem] theorem o127 : zeroV Try.prog 127 = some .nilmap := by kernel_rfl
@[go_sem] theorem z129 : szOf Try.prog 129 = some 1 := by kernel_rfl
@[go_sem] theorem y129 : bytesOf' Try.prog 129 = some 8 := by kernel_rfl
@[go_sem] theorem g129 : aggT Try.prog 129 = some false := by kernel_rfl
@[go_sem] theorem o129 : zeroV Try.prog 129 = some .nilfn := by kernel_rfl
@[go_sem] theorem e80 (xs ys : List V) : binV Try.prog .eql 80 (.agg xs) (.agg ys) = if ckOks [.int .i64, .int .i64, .int .i64, .int .i64, .int .i64, .int .i64, .int .i64, .int .i64, .int .i64, .int .i64, .int .i64] xs = true ∧ ckOks [.int .i64, .int .i64, .int .i64, .int .i64, .int .i64, .int .i64, .int .i64, .int .i64, .int .i64, .int .i64, .int .i64] ys = true then some (.bool (eqCells xs ys)) else none := agg_eq (ks := [.int .i64, .int .i64, .int .i64, .int .i64, .int .i64, .int .i64, .int .i64, .int .i64, .int .i64, .int .i64, .int .i64]) (by kernel_rfl) g80 z80 xs ys
@[go_sem] theorem ne80 (xs ys : List V) : binV Try.prog .neq 80 (.agg xs) (.agg ys) = if ckOks [.int .i64, .int .i64, .int .i64, .int .i64, .int .i64, .int .i64, .int .i64, .int .i64, .int .i64, .int .i64, .int .i64] xs = true ∧ ckOks [.int .i64, .int .i64, .int .i64, .int .i64, .int .i64, .int .i64, .int .i64, .int .i64, .int .i64, .int .i64, .int .i64] ys = true then some (.bool (!eqCells xs ys)) else none := agg_ne (ks := [.int .i64, .int .i64, .int .i64, .int .i64, .int .i64, .int .i64, .int .i64, .int .i64, .int .i64, .int .i64, .int .i64]) (by kernel_rfl) g80 z80 xs ys
@[go_sem] theorem e81 (xs ys : List V) : binV Try.prog .eql 81 (.agg xs) (.agg ys) = if ckOks [.int .i64, .int .i64, .int .i64, .int .i64, .int .i64] xs = true ∧ ckOks [.int .i64, .int .i64, .int .i64, .int .i64, .int .i64] ys = true then some (.bool (eqCells xs ys)) else none := agg_eq (ks := [.int .i64, .int .i64, .int .i64, .int .i64, .int .i64]) (by kernel_rfl) g81 z81 xs ys
@[go_sem] theorem ne81 (xs ys : List V) : binV Try.prog .neq 81 (.agg xs) (.agg ys) = if ckOks [.int .i64, .int .i64, .int .i64, .int .i64, .int .i64] xs = true ∧ ckOks [.int .i64, .int .i64, .int .i64, .int .i64, .int .i64] ys = true then some (.bool (!eqCells xs ys)) else none := agg_ne (ks := [.int .i64, .int .i64, .int .i64, .int .i64, .int .i64]) (by kernel_rfl) g81 z81 xs ys
@[go_sem] theorem v40a (a b c d e : Nat) (cp : Cap) : binV Try.prog .eql 40 (.slice a b c d e cp) .nilslice = some (.bool false) := (sl_nil (by kernel_rfl) a b c d e cp).1
@[go_sem] theorem v40b (a b c d e : Nat) (cp : Cap) : binV Try.prog .neq 40 (.slice a b c d e cp) .nilslice = some (.bool true) := (sl_nil (by kernel_rfl) a b c d e cp).2.1
@[go_sem] theorem v40c : binV Try.prog .eql 40 .nilslice .nilslice = some (.bool true) := (sl_nil (by kernel_rfl) 0 0 0 0 0 .full).2.2.1
@[go_sem] theorem v40d : binV Try.prog .neq 40 .nilslice .nilslice = some (.bool false) := (sl_nil (by kernel_rfl) 0 0 0 0 0 .full).2.2.2
@[go_sem] theorem e88 (xs ys : List V) : binV Try.prog .eql 88 (.agg xs) (.agg ys) = if ckOks [.int .i64, .int .i64, .int .i64, .int .i64, .int .i64] xs = true ∧ ckOks [.int .i64, .int .i64, .int .i64, .int .i64, .int .i64] ys = true then some (.bool (eqCells xs ys)) else none := agg_eq (ks := [.int .i64, .int .i64, .int .i64, .int .i64, .int .i64]) (by kernel_rfl) g88 z88 xs ys
@[go_sem] theorem ne88 (xs ys : List V) : binV Try.prog .neq 88 (.agg xs) (.agg ys) = if ckOks [.int .i64, .int .i64, .int .i64, .int .i64, .int .i64] xs = true ∧ ckOks [.int .i64, .int .i64, .int .i64, .int .i64, .int .i64] ys = true then some (.bool (!eqCells xs ys)) else none := agg_ne (ks := [.int .i64, .int .i64, .int .i64, .int .i64, .int .i64]) (by kernel_rfl) g88 z88 xs ys
@[go_sem] theorem w37_37 {H : Hp} (s x : V) : builtinV Try.prog .append #[37, 37] [s, x] H = appOf 11 88 H s x := app_eq (by kernel_rfl) s x
@[go_sem] theorem w40_40 {H : Hp} (s x : V) : builtinV Try.prog .append #[40, 40] [s, x] H = appOf 11 88 H s x := app_eq (by kernel_rfl) s x
@[go_sem] theorem bb4e (x y : Bool) : binV Try.prog .eql 4 (.bool x) (.bool y) = some (.bool (x == y)) := b_beql 4 x y u4
@[go_sem] theorem bb4n (x y : Bool) : binV Try.prog .neq 4 (.bool x) (.bool y) = some (.bool (!(x == y))) := b_bneq 4 x y u4
@[go_sem] theorem h35 (ps : List (Nat × V)) : buildV Try.prog 35 ps = (fillV (fun i => some (i * 1, 1)) [.int .i64 0, .int .i64 0, .int .i64 0] ps).map V.agg := buildArr_eq u35 z3 o35 ps
@[go_sem] theorem q37 {H : Hp} (v : V) : buildSliceV Try.prog 37 1 [(0, v)] H = if v.cells.all V.isCell = true ∧ v.cells.length = 11 then some (.slice H.length 0 0 1 11 .full, H ++ [.row 0 v.cells true]) else none := bs_if u37 z80 o80 rfl (by decide) (by decide) v
@[go_sem] theorem q40 {H : Hp} (v : V) : buildSliceV Try.prog 40 1 [(0, v)] H = if v.cells.all V.isCell = true ∧ v.cells.length = 11 then some (.slice H.length 0 0 1 11 .full, H ++ [.row 0 v.cells true]) else none := bs_if u40 z50 o50 rfl (by decide) (by decide) v
@[go_sem] theorem h81 (ps : List (Nat × V)) : buildV Try.prog 81 ps = (fillV (fun i => some (i * 1, 1)) [.int .i64 0, .int .i64 0, .int .i64 0, .int .i64 0, .int .i64 0] ps).map V.agg := buildArr_eq u81 z3 o81 ps
@[go_sem] theorem h88 (ps : List (Nat × V)) : buildV Try.prog 88 ps = (fillV (fun i => some (i * 1, 1)) [.int .i64 0, .int .i64 0, .int .i64 0, .int .i64 0, .int .i64 0] ps).map V.agg := buildArr_eq u88 z3 o88 ps
@[go_sem] theorem qz40 {H : Hp} : buildSliceV Try.prog 40 0 [] H = some (.slice H.length 0 0 0 11 .full, H ++ [.row 0 [] true]) := bs_zero u40 z50 o50 rfl (by decide)
@[go_sem] theorem qm126_2 {H : Hp} (ps : List (Nat × V)) : buildSliceV Try.prog 126 2 ps H = (fillV (fun i => some (i * 1, 1)) (repeatV (V.cells .nilslice) 2) ps).bind fun cs => if cs.all V.isCell = true then some (.slice H.length 0 0 2 1 .full, H ++ [.row 0 cs true]) else none := bs_gen u126 z40 o40 rfl (by decide) (by decide) ps
@[go_sem] theorem qm22_11 {H : Hp} (ps : List (Nat × V)) : buildSliceV Try.prog 22 11 ps H = (fillV (fun i => some (i * 1, 1)) (repeatV (V.cells (.int .i64 0)) 11) ps).bind fun cs => if cs.all V.isCell = true then some (.slice H.length 0 0 11 1 .full, H ++ [.row 0 cs true]) else none := bs_gen u22 z3 o3 rfl (by decide) (by decide) ps
@[go_sem] theorem qm22_2 {H : Hp} (ps : List (Nat × V)) : buildSliceV Try.prog 22 2 ps H = (fillV (fun i => some (i * 1, 1)) (repeatV (V.cells (.int .i64 0)) 2) ps).bind fun cs => if cs.all V.isCell = true then some (.slice H.length 0 0 2 1 .full, H ++ [.row 0 cs true]) else none := bs_gen u22 z3 o3 rfl (by decide) (by decide) ps
def r4_0 : List Co := [
  ⟨some 5, .box 35 (.tmp 2), none, false, false, []⟩,
  ⟨some 6, .assign (.const (.bool false)), none, false, false, []⟩]
def r4_1 : List Co := [
  ⟨some 17, .move (.tmp 0), none, false, false, []⟩,
  ⟨some 18, .call ⟨.builtin .len, #[(.tmp 17)], #[34]⟩, none, false, false, []⟩,
  ⟨some 19, .binOp .gtr 3 (.tmp 18) (.const (.int .i64 800)) 3, none, false, false, []⟩,
  ⟨some 20, .move (.tmp 19), none, false, false, []⟩,
  ⟨some 21, .move (.tmp 1), some (20, false), false, false, []⟩,
  ⟨some 22, .call ⟨.builtin .len, #[(.tmp 21)], #[34]⟩, some (20, false), false, false, []⟩,
  ⟨some 23, .binOp .gtr 3 (.tmp 22) (.const (.int .i64 800)) 3, some (20, false), false, false, []⟩,
  ⟨some 24, .pick (.tmp 20) (.const (.bool true)) (.tmp 23), none, false, false, []⟩,
  ⟨some 25, .move (.tmp 24), none, false, false, []⟩,
  ⟨some 26, .move (.tmp 0), some (25, false), false, false, []⟩,
  ⟨some 27, .call ⟨.value (.func 13), #[(.tmp 26)], #[34]⟩, some (25, false), false, false, []⟩,
  ⟨some 28, .binOp .neq 29 (.tmp 27) (.const (.int .i64 0)) 29, some (25, false), false, false, []⟩,
  ⟨some 29, .pick (.tmp 25) (.const (.bool true)) (.tmp 28), none, false, false, []⟩,
  ⟨some 30, .move (.tmp 29), none, false, false, []⟩,
  ⟨some 31, .move (.tmp 1), some (30, false), false, false, []⟩,
  ⟨some 32, .call ⟨.value (.func 13), #[(.tmp 31)], #[34]⟩, some (30, false), false, false, []⟩,
  ⟨some 33, .binOp .neq 29 (.tmp 32) (.const (.int .i64 0)) 29, some (30, false), false, false, []⟩,
  ⟨some 34, .pick (.tmp 30) (.const (.bool true)) (.tmp 33), none, false, false, []⟩]
def r4_2 : List Co := [
  ⟨some 35, .call ⟨.value (.func 10), #[], #[]⟩, none, false, false, []⟩,
  ⟨some 6, .assign (.tmp 35), none, false, false, []⟩]
def r4_3 : List Co := [
  ⟨some 36, .move (.tmp 0), none, false, false, []⟩,
  ⟨some 37, .call ⟨.value (.func 15), #[(.tmp 36)], #[34]⟩, none, true, false, []⟩,
  ⟨some 38, .load 35 (.tmp 5), none, true, true, []⟩,
  ⟨some 39, .call ⟨.value (.func 14), #[(.tmp 37), (.tmp 38)], #[37, 35]⟩, none, false, false, []⟩,
  ⟨some 40, .move (.tmp 1), none, false, false, []⟩,
  ⟨some 41, .call ⟨.value (.func 15), #[(.tmp 40)], #[34]⟩, none, false, false, []⟩,
  ⟨some 7, .assign (.tmp 39), none, false, false, []⟩,
  ⟨some 8, .assign (.tmp 41), none, false, false, []⟩]
def r4_4 : List Co := [
  ⟨some 43, .move (.tmp 7), none, false, false, []⟩,
  ⟨some 44, .call ⟨.value (.func 17), #[(.tmp 43)], #[37]⟩, none, false, false, []⟩,
  ⟨some 45, .move (.tmp 8), none, false, false, []⟩,
  ⟨some 46, .call ⟨.value (.func 17), #[(.tmp 45)], #[37]⟩, none, false, false, []⟩,
  ⟨some 47, .call ⟨.value (.func 16), #[(.tmp 44), (.tmp 46)], #[40, 40]⟩, none, false, false, []⟩,
  ⟨some 42, .move (.tmp 47), none, false, false, []⟩,
  ⟨some 48, .extract (.tmp 42) 0, none, false, false, []⟩,
  ⟨some 49, .extract (.tmp 42) 1, none, false, false, []⟩,
  ⟨some 9, .assign (.tmp 48), none, false, false, []⟩,
  ⟨some 10, .assign (.tmp 49), none, false, false, []⟩]
def r4_5 : List Co := [
  ⟨some 51, .move (.tmp 7), none, false, false, []⟩,
  ⟨some 52, .move (.tmp 8), none, false, false, []⟩,
  ⟨some 53, .call ⟨.value (.func 18), #[(.tmp 51), (.tmp 52)], #[37, 37]⟩, none, false, false, []⟩,
  ⟨some 50, .move (.tmp 53), none, false, false, []⟩,
  ⟨some 54, .extract (.tmp 50) 0, none, false, false, []⟩,
  ⟨some 55, .extract (.tmp 50) 1, none, false, false, []⟩,
  ⟨some 11, .assign (.tmp 54), none, false, false, []⟩,
  ⟨some 12, .assign (.tmp 55), none, false, false, []⟩]
def r4_6 : List Co := [
  ⟨some 57, .move (.tmp 8), none, false, false, []⟩,
  ⟨some 58, .call ⟨.value (.func 17), #[(.tmp 57)], #[37]⟩, none, false, false, []⟩,
  ⟨some 59, .move (.tmp 7), none, false, false, []⟩,
  ⟨some 60, .call ⟨.value (.func 17), #[(.tmp 59)], #[37]⟩, none, false, false, []⟩,
  ⟨some 61, .call ⟨.value (.func 16), #[(.tmp 58), (.tmp 60)], #[40, 40]⟩, none, false, false, []⟩,
  ⟨some 56, .move (.tmp 61), none, false, false, []⟩,
  ⟨some 62, .extract (.tmp 56) 0, none, false, false, []⟩,
  ⟨some 63, .extract (.tmp 56) 1, none, false, false, []⟩,
  ⟨some 13, .assign (.tmp 62), none, false, false, []⟩,
  ⟨some 14, .assign (.tmp 63), none, false, false, []⟩]
def r4_7 : List Co := [
  ⟨some 65, .move (.tmp 8), none, false, false, []⟩,
  ⟨some 66, .move (.tmp 7), none, false, false, []⟩,
  ⟨some 67, .call ⟨.value (.func 18), #[(.tmp 65), (.tmp 66)], #[37, 37]⟩, none, false, false, []⟩,
  ⟨some 64, .move (.tmp 67), none, false, false, []⟩,
  ⟨some 68, .extract (.tmp 64) 0, none, false, false, []⟩,
  ⟨some 69, .extract (.tmp 64) 1, none, false, false, []⟩,
  ⟨some 15, .assign (.tmp 68), none, false, false, []⟩,
  ⟨some 16, .assign (.tmp 69), none, false, false, []⟩]
def r4_8 : List Co := [
  ⟨some 70, .move (.tmp 9), none, false, false, []⟩,
  ⟨some 71, .move (.tmp 11), none, false, false, []⟩,
  ⟨some 72, .call ⟨.value (.func 19), #[(.tmp 70), (.tmp 71)], #[40, 37]⟩, none, false, false, []⟩,
  ⟨some 73, .move (.tmp 72), none, false, false, []⟩,
  ⟨some 74, .move (.tmp 10), some (73, true), false, false, []⟩,
  ⟨some 75, .move (.tmp 12), some (73, true), false, false, []⟩,
  ⟨some 76, .binOp .eql 29 (.tmp 74) (.tmp 75) 29, some (73, true), false, false, []⟩,
  ⟨some 77, .pick (.tmp 73) (.tmp 76) (.const (.bool false)), none, false, false, []⟩,
  ⟨some 78, .move (.tmp 77), none, false, false, []⟩,
  ⟨some 79, .move (.tmp 13), some (78, true), false, false, []⟩,
  ⟨some 80, .move (.tmp 15), some (78, true), false, false, []⟩,
  ⟨some 81, .call ⟨.value (.func 19), #[(.tmp 79), (.tmp 80)], #[40, 37]⟩, some (78, true), false, false, []⟩,
  ⟨some 82, .pick (.tmp 78) (.tmp 81) (.const (.bool false)), none, false, false, []⟩,
  ⟨some 83, .move (.tmp 82), none, false, false, []⟩,
  ⟨some 84, .move (.tmp 14), some (83, true), false, false, []⟩,
  ⟨some 85, .move (.tmp 16), some (83, true), false, false, []⟩,
  ⟨some 86, .binOp .eql 29 (.tmp 84) (.tmp 85) 29, some (83, true), false, false, []⟩,
  ⟨some 87, .pick (.tmp 83) (.tmp 86) (.const (.bool false)), none, false, false, []⟩,
  ⟨some 88, .move (.tmp 87), none, false, false, []⟩,
  ⟨some 89, .call ⟨.value (.func 10), #[], #[]⟩, some (88, true), false, false, []⟩,
  ⟨some 90, .pick (.tmp 88) (.tmp 89) (.const (.bool false)), none, false, false, []⟩,
  ⟨some 6, .assign (.tmp 90), none, false, false, []⟩]
/-- wireglass/wireglasslaw20.ConvAdds -/
def c4 : Cc := (.seq (.reg r4_0) (.seq (.seq (.reg r4_1) (.cond (.tmp 34) (.seq (.reg r4_2) .ret) .skip)) (.seq (.reg r4_3) (.seq (.reg r4_4) (.seq (.reg r4_5) (.seq (.reg r4_6) (.seq (.reg r4_7) (.seq (.reg r4_8) .ret))))))))
def r13_0 : List Co := [
  ⟨some 2, .assign (.const (.int .i64 0)), none, false, false, []⟩]
def r13_1 : List Co := [
  ⟨some 4, .move (.tmp 0), none, false, false, []⟩,
  ⟨some 5, .call ⟨.builtin .len, #[(.tmp 4)], #[34]⟩, none, false, false, []⟩,
  ⟨some 6, .binOp .gtr 3 (.tmp 5) (.const (.int .i64 200)) 3, none, false, false, []⟩]
def r13_2 : List Co := [
  ⟨some 2, .assign (.const (.int .i64 3)), none, false, false, []⟩]
def r13_3 : List Co := [
  ⟨some 3, .assign (.const (.int .i64 0)), none, false, false, []⟩]
def r13_4 : List Co := [
  ⟨some 7, .move (.tmp 3), none, false, false, []⟩,
  ⟨some 8, .move (.tmp 0), none, false, false, []⟩,
  ⟨some 9, .call ⟨.builtin .len, #[(.tmp 8)], #[34]⟩, none, false, false, []⟩,
  ⟨some 10, .binOp .lss 3 (.tmp 7) (.tmp 9) 3, none, false, false, []⟩]
def r13_5 : List Co := [
  ⟨some 13, .move (.tmp 0), none, false, false, []⟩,
  ⟨some 14, .move (.tmp 3), none, false, false, []⟩,
  ⟨some 15, .indexAddr 34 (.tmp 13) (.tmp 14), none, false, false, []⟩,
  ⟨some 16, .load 58 (.tmp 15), none, false, false, []⟩,
  ⟨some 17, .call ⟨.value (.func 35), #[(.tmp 16)], #[58]⟩, none, false, false, []⟩,
  ⟨some 18, .unOp .not 4 (.tmp 17), none, false, false, []⟩]
def r13_6 : List Co := [
  ⟨some 2, .assign (.const (.int .i64 1)), none, false, false, []⟩]
def r13_7 : List Co := [
  ⟨some 11, .move (.tmp 3), none, false, false, []⟩,
  ⟨some 12, .binOp .add 3 (.tmp 11) (.const (.int .i64 1)) 3, none, false, false, []⟩,
  ⟨some 3, .assign (.tmp 12), none, false, false, []⟩]
def l13_8 : Cc := (.seq (.seq (.reg r13_4) (.cond (.tmp 10) .skip (.exit 0))) (.seq (.block 1 (.seq (.reg r13_5) (.cond (.tmp 18) (.seq (.reg r13_6) .ret) .skip))) (.reg r13_7)))
def r13_9 : List Co := [
  ⟨some 2, .assign (.const (.int .i64 0)), none, false, false, []⟩]
/-- wireglass/wireglassref20.Validate -/
def c13 : Cc := (.seq (.reg r13_0) (.seq (.seq (.reg r13_1) (.cond (.tmp 6) (.seq (.reg r13_2) .ret) .skip)) (.seq (.seq (.reg r13_3) (.block 0 (.loop l13_8))) (.seq (.reg r13_9) .ret))))
def r14_0 : List Co := [
  ⟨some 3, .box 35 (.tmp 1), none, false, false, []⟩,
  ⟨some 4, .assign (.const (.slice none 0 0)), none, false, false, []⟩]
def r14_1 : List Co := [
  ⟨some 6, .move (.tmp 0), none, false, false, []⟩,
  ⟨some 7, .call ⟨.builtin .append, #[(.const (.slice none 0 0)), (.tmp 6)], #[37, 37]⟩, none, false, false, []⟩,
  ⟨some 0, .assign (.tmp 7), none, false, false, []⟩]
def r14_2 : List Co := [
  ⟨some 8, .indexAddr 35 (.tmp 3) (.const (.int .i64 0)), none, false, false, []⟩,
  ⟨some 9, .load 3 (.tmp 8), none, false, false, []⟩,
  ⟨some 10, .binOp .lss 3 (.tmp 9) (.const (.int .i64 0)) 3, none, false, false, []⟩,
  ⟨some 11, .move (.tmp 10), none, false, false, []⟩,
  ⟨some 12, .indexAddr 35 (.tmp 3) (.const (.int .i64 0)), some (11, false), false, false, []⟩,
  ⟨some 13, .load 3 (.tmp 12), some (11, false), false, false, []⟩,
  ⟨some 14, .move (.tmp 0), some (11, false), false, false, []⟩,
  ⟨some 15, .call ⟨.builtin .len, #[(.tmp 14)], #[37]⟩, some (11, false), false, false, []⟩,
  ⟨some 16, .binOp .geq 3 (.tmp 13) (.tmp 15) 3, some (11, false), false, false, []⟩,
  ⟨some 17, .pick (.tmp 11) (.const (.bool true)) (.tmp 16), none, false, false, []⟩]
def r14_3 : List Co := [
  ⟨some 18, .move (.tmp 0), none, false, false, []⟩,
  ⟨some 4, .assign (.tmp 18), none, false, false, []⟩]
def r14_4 : List Co := [
  ⟨some 19, .move (.tmp 0), none, false, false, []⟩,
  ⟨some 20, .indexAddr 35 (.tmp 3) (.const (.int .i64 0)), none, false, false, []⟩,
  ⟨some 21, .load 3 (.tmp 20), none, false, false, []⟩,
  ⟨some 22, .indexAddr 37 (.tmp 19) (.tmp 21), none, false, false, []⟩,
  ⟨some 5, .assign (.tmp 22), none, false, false, []⟩]
def r14_5 : List Co := [
  ⟨some 23, .indexAddr 35 (.tmp 3) (.const (.int .i64 1)), none, false, false, []⟩,
  ⟨some 24, .load 3 (.tmp 23), none, false, false, []⟩]
def r14_6 : List Co := [
  ⟨some 26, .binOp .eql 3 (.tmp 24) (.const (.int .i64 0)) 3, none, false, false, []⟩,
  ⟨some 25, .assign (.tmp 26), none, false, false, []⟩]
def r14_7 : List Co := [
  ⟨some 27, .move (.tmp 5), none, false, false, []⟩,
  ⟨some 28, .indexAddr 35 (.tmp 3) (.const (.int .i64 2)), none, false, false, []⟩,
  ⟨some 29, .load 3 (.tmp 28), none, false, false, []⟩,
  ⟨some 30, .nilCheck (.tmp 27), none, false, false, []⟩,
  ⟨some 31, .fieldAddr 80 (.tmp 30) 0, none, false, false, []⟩,
  ⟨none, .store 3 (.tmp 31) (.tmp 29), none, false, false, []⟩]
def r14_8 : List Co := [
  ⟨some 33, .binOp .eql 3 (.tmp 24) (.const (.int .i64 1)) 3, none, false, false, []⟩,
  ⟨some 32, .assign (.tmp 33), none, false, false, []⟩]
def r14_9 : List Co := [
  ⟨some 34, .move (.tmp 5), none, false, false, []⟩,
  ⟨some 35, .indexAddr 35 (.tmp 3) (.const (.int .i64 2)), none, false, false, []⟩,
  ⟨some 36, .load 3 (.tmp 35), none, false, false, []⟩,
  ⟨some 37, .nilCheck (.tmp 34), none, false, false, []⟩,
  ⟨some 38, .fieldAddr 80 (.tmp 37) 1, none, false, false, []⟩,
  ⟨none, .store 3 (.tmp 38) (.tmp 36), none, false, false, []⟩]
def r14_10 : List Co := [
  ⟨some 40, .binOp .eql 3 (.tmp 24) (.const (.int .i64 2)) 3, none, false, false, []⟩,
  ⟨some 39, .assign (.tmp 40), none, false, false, []⟩]
def r14_11 : List Co := [
  ⟨some 41, .move (.tmp 5), none, false, false, []⟩,
  ⟨some 42, .indexAddr 35 (.tmp 3) (.const (.int .i64 2)), none, false, false, []⟩,
  ⟨some 43, .load 3 (.tmp 42), none, false, false, []⟩,
  ⟨some 44, .nilCheck (.tmp 41), none, false, false, []⟩,
  ⟨some 45, .fieldAddr 80 (.tmp 44) 2, none, false, false, []⟩,
  ⟨none, .store 3 (.tmp 45) (.tmp 43), none, false, false, []⟩]
def r14_12 : List Co := [
  ⟨some 47, .binOp .eql 3 (.tmp 24) (.const (.int .i64 3)) 3, none, false, false, []⟩,
  ⟨some 46, .assign (.tmp 47), none, false, false, []⟩]
def r14_13 : List Co := [
  ⟨some 48, .move (.tmp 5), none, false, false, []⟩,
  ⟨some 49, .indexAddr 35 (.tmp 3) (.const (.int .i64 2)), none, false, false, []⟩,
  ⟨some 50, .load 3 (.tmp 49), none, false, false, []⟩,
  ⟨some 51, .nilCheck (.tmp 48), none, false, false, []⟩,
  ⟨some 52, .fieldAddr 80 (.tmp 51) 3, none, false, false, []⟩,
  ⟨none, .store 3 (.tmp 52) (.tmp 50), none, false, false, []⟩]
def r14_14 : List Co := [
  ⟨some 54, .binOp .eql 3 (.tmp 24) (.const (.int .i64 4)) 3, none, false, false, []⟩,
  ⟨some 53, .assign (.tmp 54), none, false, false, []⟩]
def r14_15 : List Co := [
  ⟨some 55, .move (.tmp 5), none, false, false, []⟩,
  ⟨some 56, .indexAddr 35 (.tmp 3) (.const (.int .i64 2)), none, false, false, []⟩,
  ⟨some 57, .load 3 (.tmp 56), none, false, false, []⟩,
  ⟨some 58, .nilCheck (.tmp 55), none, false, false, []⟩,
  ⟨some 59, .fieldAddr 80 (.tmp 58) 4, none, false, false, []⟩,
  ⟨none, .store 3 (.tmp 59) (.tmp 57), none, false, false, []⟩]
def r14_16 : List Co := [
  ⟨some 61, .binOp .eql 3 (.tmp 24) (.const (.int .i64 5)) 3, none, false, false, []⟩,
  ⟨some 60, .assign (.tmp 61), none, false, false, []⟩]
def r14_17 : List Co := [
  ⟨some 62, .move (.tmp 5), none, false, false, []⟩,
  ⟨some 63, .indexAddr 35 (.tmp 3) (.const (.int .i64 2)), none, false, false, []⟩,
  ⟨some 64, .load 3 (.tmp 63), none, false, false, []⟩,
  ⟨some 65, .nilCheck (.tmp 62), none, false, false, []⟩,
  ⟨some 66, .fieldAddr 80 (.tmp 65) 5, none, false, false, []⟩,
  ⟨none, .store 3 (.tmp 66) (.tmp 64), none, false, false, []⟩]
def r14_18 : List Co := [
  ⟨some 68, .binOp .eql 3 (.tmp 24) (.const (.int .i64 6)) 3, none, false, false, []⟩,
  ⟨some 67, .assign (.tmp 68), none, false, false, []⟩]
def r14_19 : List Co := [
  ⟨some 69, .move (.tmp 5), none, false, false, []⟩,
  ⟨some 70, .indexAddr 35 (.tmp 3) (.const (.int .i64 2)), none, false, false, []⟩,
  ⟨some 71, .load 3 (.tmp 70), none, false, false, []⟩,
  ⟨some 72, .nilCheck (.tmp 69), none, false, false, []⟩,
  ⟨some 73, .fieldAddr 80 (.tmp 72) 6, none, false, false, []⟩,
  ⟨none, .store 3 (.tmp 73) (.tmp 71), none, false, false, []⟩]
def r14_20 : List Co := [
  ⟨some 75, .binOp .eql 3 (.tmp 24) (.const (.int .i64 7)) 3, none, false, false, []⟩,
  ⟨some 74, .assign (.tmp 75), none, false, false, []⟩]
def r14_21 : List Co := [
  ⟨some 76, .move (.tmp 5), none, false, false, []⟩,
  ⟨some 77, .indexAddr 35 (.tmp 3) (.const (.int .i64 2)), none, false, false, []⟩,
  ⟨some 78, .load 3 (.tmp 77), none, false, false, []⟩,
  ⟨some 79, .nilCheck (.tmp 76), none, false, false, []⟩,
  ⟨some 80, .fieldAddr 80 (.tmp 79) 7, none, false, false, []⟩,
  ⟨none, .store 3 (.tmp 80) (.tmp 78), none, false, false, []⟩]
def r14_22 : List Co := [
  ⟨some 82, .binOp .eql 3 (.tmp 24) (.const (.int .i64 8)) 3, none, false, false, []⟩,
  ⟨some 81, .assign (.tmp 82), none, false, false, []⟩]
def r14_23 : List Co := [
  ⟨some 83, .move (.tmp 5), none, false, false, []⟩,
  ⟨some 84, .indexAddr 35 (.tmp 3) (.const (.int .i64 2)), none, false, false, []⟩,
  ⟨some 85, .load 3 (.tmp 84), none, false, false, []⟩,
  ⟨some 86, .nilCheck (.tmp 83), none, false, false, []⟩,
  ⟨some 87, .fieldAddr 80 (.tmp 86) 8, none, false, false, []⟩,
  ⟨none, .store 3 (.tmp 87) (.tmp 85), none, false, false, []⟩]
def r14_24 : List Co := [
  ⟨some 89, .binOp .eql 3 (.tmp 24) (.const (.int .i64 9)) 3, none, false, false, []⟩,
  ⟨some 88, .assign (.tmp 89), none, false, false, []⟩]
def r14_25 : List Co := [
  ⟨some 90, .move (.tmp 5), none, false, false, []⟩,
  ⟨some 91, .indexAddr 35 (.tmp 3) (.const (.int .i64 2)), none, false, false, []⟩,
  ⟨some 92, .load 3 (.tmp 91), none, false, false, []⟩,
  ⟨some 93, .nilCheck (.tmp 90), none, false, false, []⟩,
  ⟨some 94, .fieldAddr 80 (.tmp 93) 9, none, false, false, []⟩,
  ⟨none, .store 3 (.tmp 94) (.tmp 92), none, false, false, []⟩]
def r14_26 : List Co := [
  ⟨some 96, .binOp .eql 3 (.tmp 24) (.const (.int .i64 10)) 3, none, false, false, []⟩,
  ⟨some 95, .assign (.tmp 96), none, false, false, []⟩]
def r14_27 : List Co := [
  ⟨some 97, .move (.tmp 5), none, false, false, []⟩,
  ⟨some 98, .indexAddr 35 (.tmp 3) (.const (.int .i64 2)), none, false, false, []⟩,
  ⟨some 99, .load 3 (.tmp 98), none, false, false, []⟩,
  ⟨some 100, .nilCheck (.tmp 97), none, false, false, []⟩,
  ⟨some 101, .fieldAddr 80 (.tmp 100) 10, none, false, false, []⟩,
  ⟨none, .store 3 (.tmp 101) (.tmp 99), none, false, false, []⟩]
def r14_28 : List Co := [
  ⟨some 103, .binOp .eql 3 (.tmp 24) (.const (.int .i64 11)) 3, none, false, false, []⟩,
  ⟨some 102, .assign (.tmp 103), none, false, false, []⟩]
def r14_29 : List Co := [
  ⟨some 104, .move (.tmp 0), none, false, false, []⟩,
  ⟨some 105, .call ⟨.builtin .len, #[(.tmp 104)], #[37]⟩, none, false, false, []⟩,
  ⟨some 106, .binOp .gtr 3 (.tmp 105) (.const (.int .i64 1)) 3, none, false, false, []⟩]
def r14_30 : List Co := [
  ⟨some 107, .move (.tmp 5), none, false, false, []⟩,
  ⟨some 108, .move (.tmp 0), none, false, false, []⟩,
  ⟨some 109, .indexAddr 35 (.tmp 3) (.const (.int .i64 0)), none, false, false, []⟩,
  ⟨some 110, .load 3 (.tmp 109), none, false, false, []⟩,
  ⟨some 111, .binOp .add 3 (.tmp 110) (.const (.int .i64 1)) 3, none, false, false, []⟩,
  ⟨some 112, .move (.tmp 0), none, false, false, []⟩,
  ⟨some 113, .call ⟨.builtin .len, #[(.tmp 112)], #[37]⟩, none, false, false, []⟩,
  ⟨some 114, .binOp .rem 3 (.tmp 111) (.tmp 113) 3, none, false, false, []⟩,
  ⟨some 115, .indexAddr 37 (.tmp 108) (.tmp 114), none, false, false, []⟩,
  ⟨some 116, .load 80 (.tmp 115), none, false, false, []⟩,
  ⟨some 117, .nilCheck (.tmp 107), none, false, false, []⟩,
  ⟨none, .store 80 (.tmp 117) (.tmp 116), none, false, false, []⟩]
def r14_31 : List Co := [
  ⟨some 118, .move (.tmp 0), none, false, false, []⟩,
  ⟨some 4, .assign (.tmp 118), none, false, false, []⟩]
/-- wireglass/wireglasslaw20.spoilt -/
def c14 : Cc := (.seq (.reg r14_0) (.seq (.reg r14_1) (.seq (.seq (.reg r14_2) (.cond (.tmp 17) (.seq (.reg r14_3) .ret) .skip)) (.seq (.reg r14_4) (.seq (.seq (.reg r14_5) (.block 0 (.seq (.reg r14_6) (.cond (.tmp 25) (.reg r14_7) (.seq (.reg r14_8) (.cond (.tmp 32) (.reg r14_9) (.seq (.reg r14_10) (.cond (.tmp 39) (.reg r14_11) (.seq (.reg r14_12) (.cond (.tmp 46) (.reg r14_13) (.seq (.reg r14_14) (.cond (.tmp 53) (.reg r14_15) (.seq (.reg r14_16) (.cond (.tmp 60) (.reg r14_17) (.seq (.reg r14_18) (.cond (.tmp 67) (.reg r14_19) (.seq (.reg r14_20) (.cond (.tmp 74) (.reg r14_21) (.seq (.reg r14_22) (.cond (.tmp 81) (.reg r14_23) (.seq (.reg r14_24) (.cond (.tmp 88) (.reg r14_25) (.seq (.reg r14_26) (.cond (.tmp 95) (.reg r14_27) (.seq (.reg r14_28) (.cond (.tmp 102) (.seq (.reg r14_29) (.cond (.tmp 106) (.reg r14_30) .skip)) .skip)))))))))))))))))))))))))) (.seq (.reg r14_31) .ret))))))
def r15_0 : List Co := [
  ⟨some 2, .assign (.const (.slice none 0 0)), none, false, false, []⟩]
def r15_1 : List Co := [
  ⟨some 3, .assign (.const (.slice none 0 0)), none, false, false, []⟩]
def r15_2 : List Co := [
  ⟨some 4, .assign (.const (.int .i64 0)), none, false, false, []⟩]
def r15_3 : List Co := [
  ⟨some 10, .move (.tmp 4), none, false, false, []⟩,
  ⟨some 11, .move (.tmp 0), none, false, false, []⟩,
  ⟨some 12, .call ⟨.builtin .len, #[(.tmp 11)], #[34]⟩, none, false, false, []⟩,
  ⟨some 13, .binOp .lss 3 (.tmp 10) (.tmp 12) 3, none, false, false, []⟩]
def r15_4 : List Co := [
  ⟨some 16, .move (.tmp 0), none, false, false, []⟩,
  ⟨some 17, .move (.tmp 4), none, false, false, []⟩,
  ⟨some 18, .indexAddr 34 (.tmp 16) (.tmp 17), none, false, false, []⟩,
  ⟨some 19, .load 58 (.tmp 18), none, false, false, []⟩,
  ⟨some 5, .alloc 58, none, false, false, []⟩,
  ⟨none, .store 58 (.tmp 5) (.tmp 19), none, false, false, []⟩]
def r15_5 : List Co := [
  ⟨some 21, .load 58 (.tmp 5), none, false, false, []⟩,
  ⟨some 22, .call ⟨.value (.func 36), #[(.tmp 21)], #[58]⟩, none, false, false, []⟩,
  ⟨some 20, .move (.tmp 22), none, false, false, []⟩,
  ⟨some 23, .extract (.tmp 20) 0, none, false, false, []⟩,
  ⟨some 24, .extract (.tmp 20) 1, none, false, false, []⟩,
  ⟨some 6, .alloc 81, none, false, false, []⟩,
  ⟨none, .store 81 (.tmp 6) (.tmp 23), none, false, false, []⟩,
  ⟨some 7, .assign (.tmp 24), none, false, false, []⟩]
def r15_6 : List Co := [
  ⟨some 25, .move (.tmp 3), none, false, false, []⟩,
  ⟨some 26, .load 81 (.tmp 6), none, false, false, []⟩,
  ⟨some 27, .call ⟨.value (.func 37), #[(.tmp 25), (.tmp 26)], #[37, 81]⟩, none, false, false, []⟩,
  ⟨some 8, .assign (.tmp 27), none, false, false, []⟩]
def r15_7 : List Co := [
  ⟨some 28, .move (.tmp 8), none, false, false, []⟩,
  ⟨some 29, .binOp .lss 3 (.tmp 28) (.const (.int .i64 0)) 3, none, false, false, []⟩]
def r15_8 : List Co := [
  ⟨some 30, .move (.tmp 3), none, false, false, []⟩,
  ⟨some 31, .call ⟨.builtin .len, #[(.tmp 30)], #[37]⟩, none, false, false, []⟩,
  ⟨some 8, .assign (.tmp 31), none, false, false, []⟩]
def r15_9 : List Co := [
  ⟨some 32, .move (.tmp 3), none, false, false, []⟩,
  ⟨some 33, .indexAddr 81 (.tmp 6) (.const (.int .i64 0)), none, false, false, []⟩,
  ⟨some 34, .load 3 (.tmp 33), none, false, false, []⟩,
  ⟨some 35, .indexAddr 81 (.tmp 6) (.const (.int .i64 1)), none, false, false, []⟩,
  ⟨some 36, .load 3 (.tmp 35), none, false, false, []⟩,
  ⟨some 37, .indexAddr 81 (.tmp 6) (.const (.int .i64 2)), none, false, false, []⟩,
  ⟨some 38, .load 3 (.tmp 37), none, false, false, []⟩,
  ⟨some 39, .indexAddr 81 (.tmp 6) (.const (.int .i64 3)), none, false, false, []⟩,
  ⟨some 40, .load 3 (.tmp 39), none, false, false, []⟩,
  ⟨some 41, .indexAddr 81 (.tmp 6) (.const (.int .i64 4)), none, false, false, []⟩,
  ⟨some 42, .load 3 (.tmp 41), none, false, false, []⟩,
  ⟨some 43, .fieldAddr 58 (.tmp 5) 0, none, false, false, []⟩,
  ⟨some 44, .load 3 (.tmp 43), none, false, false, []⟩,
  ⟨some 45, .fieldAddr 58 (.tmp 5) 0, none, false, false, []⟩,
  ⟨some 46, .load 3 (.tmp 45), none, false, false, []⟩,
  ⟨some 47, .build 80 #[(0, (.tmp 34)), (1, (.tmp 36)), (2, (.tmp 38)), (3, (.tmp 40)), (4, (.tmp 42)), (9, (.tmp 44)), (10, (.tmp 46))], none, false, false, []⟩,
  ⟨some 48, .buildSlice 37 1 #[(0, (.tmp 47))], none, false, false, []⟩,
  ⟨some 49, .call ⟨.builtin .append, #[(.tmp 32), (.tmp 48)], #[37, 37]⟩, none, false, false, []⟩,
  ⟨some 3, .assign (.tmp 49), none, false, false, []⟩]
def r15_10 : List Co := [
  ⟨some 50, .move (.tmp 3), none, false, false, []⟩,
  ⟨some 51, .move (.tmp 8), none, false, false, []⟩,
  ⟨some 52, .indexAddr 37 (.tmp 50) (.tmp 51), none, false, false, []⟩,
  ⟨some 9, .assign (.tmp 52), none, false, false, []⟩]
def r15_11 : List Co := [
  ⟨some 53, .move (.tmp 7), none, false, false, []⟩]
def r15_12 : List Co := [
  ⟨some 54, .move (.tmp 9), none, false, false, []⟩,
  ⟨some 55, .nilCheck (.tmp 54), none, false, false, []⟩,
  ⟨some 56, .fieldAddr 80 (.tmp 55) 5, none, false, false, []⟩,
  ⟨some 57, .load 3 (.tmp 56), none, false, false, []⟩,
  ⟨some 58, .binOp .add 3 (.tmp 57) (.const (.int .i64 1)) 3, none, false, false, []⟩,
  ⟨some 59, .nilCheck (.tmp 54), none, false, false, []⟩,
  ⟨some 60, .fieldAddr 80 (.tmp 59) 5, none, false, false, []⟩,
  ⟨none, .store 3 (.tmp 60) (.tmp 58), none, false, false, []⟩]
def r15_13 : List Co := [
  ⟨some 61, .move (.tmp 9), none, false, false, []⟩,
  ⟨some 62, .nilCheck (.tmp 61), none, false, false, []⟩,
  ⟨some 63, .fieldAddr 80 (.tmp 62) 6, none, false, false, []⟩,
  ⟨some 64, .load 3 (.tmp 63), none, false, false, []⟩,
  ⟨some 65, .fieldAddr 58 (.tmp 5) 6, none, false, false, []⟩,
  ⟨some 66, .load 3 (.tmp 65), none, false, false, []⟩,
  ⟨some 67, .binOp .add 3 (.tmp 64) (.tmp 66) 3, none, false, false, []⟩,
  ⟨some 68, .nilCheck (.tmp 61), none, false, false, []⟩,
  ⟨some 69, .fieldAddr 80 (.tmp 68) 6, none, false, false, []⟩,
  ⟨none, .store 3 (.tmp 69) (.tmp 67), none, false, false, []⟩]
def r15_14 : List Co := [
  ⟨some 70, .move (.tmp 9), none, false, false, []⟩,
  ⟨some 71, .nilCheck (.tmp 70), none, false, false, []⟩,
  ⟨some 72, .fieldAddr 80 (.tmp 71) 7, none, false, false, []⟩,
  ⟨some 73, .load 3 (.tmp 72), none, false, false, []⟩,
  ⟨some 74, .binOp .add 3 (.tmp 73) (.const (.int .i64 1)) 3, none, false, false, []⟩,
  ⟨some 75, .nilCheck (.tmp 70), none, false, false, []⟩,
  ⟨some 76, .fieldAddr 80 (.tmp 75) 7, none, false, false, []⟩,
  ⟨none, .store 3 (.tmp 76) (.tmp 74), none, false, false, []⟩]
def r15_15 : List Co := [
  ⟨some 77, .move (.tmp 9), none, false, false, []⟩,
  ⟨some 78, .nilCheck (.tmp 77), none, false, false, []⟩,
  ⟨some 79, .fieldAddr 80 (.tmp 78) 8, none, false, false, []⟩,
  ⟨some 80, .load 3 (.tmp 79), none, false, false, []⟩,
  ⟨some 81, .fieldAddr 58 (.tmp 5) 6, none, false, false, []⟩,
  ⟨some 82, .load 3 (.tmp 81), none, false, false, []⟩,
  ⟨some 83, .binOp .add 3 (.tmp 80) (.tmp 82) 3, none, false, false, []⟩,
  ⟨some 84, .nilCheck (.tmp 77), none, false, false, []⟩,
  ⟨some 85, .fieldAddr 80 (.tmp 84) 8, none, false, false, []⟩,
  ⟨none, .store 3 (.tmp 85) (.tmp 83), none, false, false, []⟩]
def r15_16 : List Co := [
  ⟨some 86, .move (.tmp 9), none, false, false, []⟩,
  ⟨some 87, .move (.tmp 9), none, false, false, []⟩,
  ⟨some 88, .move (.tmp 9), none, false, false, []⟩,
  ⟨some 89, .nilCheck (.tmp 88), none, false, false, []⟩,
  ⟨some 90, .fieldAddr 80 (.tmp 89) 9, none, false, false, []⟩,
  ⟨some 91, .load 3 (.tmp 90), none, false, false, []⟩,
  ⟨some 92, .fieldAddr 58 (.tmp 5) 0, none, false, false, []⟩,
  ⟨some 93, .load 3 (.tmp 92), none, false, false, []⟩,
  ⟨some 94, .call ⟨.builtin .min, #[(.tmp 91), (.tmp 93)], #[3, 3]⟩, none, false, false, []⟩,
  ⟨some 95, .move (.tmp 9), none, false, false, []⟩,
  ⟨some 96, .nilCheck (.tmp 95), none, false, false, []⟩,
  ⟨some 97, .fieldAddr 80 (.tmp 96) 10, none, false, false, []⟩,
  ⟨some 98, .load 3 (.tmp 97), none, false, false, []⟩,
  ⟨some 99, .fieldAddr 58 (.tmp 5) 0, none, false, false, []⟩,
  ⟨some 100, .load 3 (.tmp 99), none, false, false, []⟩,
  ⟨some 101, .call ⟨.builtin .max, #[(.tmp 98), (.tmp 100)], #[3, 3]⟩, none, false, false, []⟩,
  ⟨some 102, .nilCheck (.tmp 86), none, false, false, []⟩,
  ⟨some 103, .fieldAddr 80 (.tmp 102) 9, none, false, false, []⟩,
  ⟨none, .store 3 (.tmp 103) (.tmp 94), none, false, false, [(none, .load 3 (.tmp 99))]⟩,
  ⟨some 104, .nilCheck (.tmp 87), none, false, false, []⟩,
  ⟨some 105, .fieldAddr 80 (.tmp 104) 10, none, false, false, []⟩,
  ⟨none, .store 3 (.tmp 105) (.tmp 101), none, false, false, []⟩]
def r15_17 : List Co := [
  ⟨some 14, .move (.tmp 4), none, false, false, []⟩,
  ⟨some 15, .binOp .add 3 (.tmp 14) (.const (.int .i64 1)) 3, none, false, false, []⟩,
  ⟨some 4, .assign (.tmp 15), none, false, false, []⟩]
def l15_18 : Cc := (.seq (.seq (.reg r15_3) (.cond (.tmp 13) .skip (.exit 0))) (.seq (.block 1 (.seq (.reg r15_4) (.seq (.reg r15_5) (.seq (.reg r15_6) (.seq (.seq (.reg r15_7) (.cond (.tmp 29) (.seq (.reg r15_8) (.reg r15_9)) .skip)) (.seq (.reg r15_10) (.seq (.seq (.reg r15_11) (.cond (.tmp 53) (.seq (.reg r15_12) (.reg r15_13)) (.seq (.reg r15_14) (.reg r15_15)))) (.reg r15_16)))))))) (.reg r15_17)))
def r15_19 : List Co := [
  ⟨some 106, .move (.tmp 3), none, false, false, []⟩,
  ⟨some 2, .assign (.tmp 106), none, false, false, []⟩]
/-- wireglass/wireglassref20.Conversations -/
def c15 : Cc := (.seq (.reg r15_0) (.seq (.reg r15_1) (.seq (.seq (.reg r15_2) (.block 0 (.loop l15_18))) (.seq (.reg r15_19) .ret))))
def r16_0 : List Co := [
  ⟨some 4, .assign (.const (.slice none 0 0)), none, false, false, []⟩,
  ⟨some 5, .assign (.const (.int .i64 0)), none, false, false, []⟩]
def r16_1 : List Co := [
  ⟨some 11, .move (.tmp 0), none, false, false, []⟩,
  ⟨some 12, .move (.tmp 1), none, false, false, []⟩,
  ⟨some 13, .buildSlice 126 2 #[(0, (.tmp 11)), (1, (.tmp 12))], none, false, false, []⟩,
  ⟨some 14, .call ⟨.value (.func 38), #[(.tmp 13)], #[126]⟩, none, false, false, []⟩,
  ⟨some 6, .assign (.tmp 14), none, false, false, []⟩]
def r16_2 : List Co := [
  ⟨some 15, .move (.tmp 6), none, false, false, []⟩,
  ⟨some 16, .binOp .neq 29 (.tmp 15) (.const (.int .i64 0)) 29, none, false, false, []⟩]
def r16_3 : List Co := [
  ⟨some 17, .move (.tmp 6), none, false, false, []⟩,
  ⟨some 4, .assign (.const (.slice none 0 0)), none, false, false, []⟩,
  ⟨some 5, .assign (.tmp 17), none, false, false, []⟩]
def r16_4 : List Co := [
  ⟨some 18, .move (.tmp 0), none, false, false, []⟩,
  ⟨some 19, .call ⟨.value (.func 39), #[(.tmp 18)], #[40]⟩, none, false, false, []⟩,
  ⟨some 7, .assign (.tmp 19), none, false, false, []⟩]
def r16_5 : List Co := [
  ⟨some 20, .move (.tmp 1), none, false, false, []⟩,
  ⟨some 21, .call ⟨.builtin .len, #[(.tmp 20)], #[40]⟩, none, false, false, []⟩,
  ⟨some 22, .move (.const (.int .i64 0)), none, false, false, []⟩]
def r16_6 : List Co := [
  ⟨some 23, .binOp .lss 3 (.tmp 22) (.tmp 21) 3, none, false, false, []⟩]
def r16_7 : List Co := [
  ⟨some 24, .indexAddr 40 (.tmp 20) (.tmp 22), none, false, false, []⟩,
  ⟨some 25, .load 50 (.tmp 24), none, false, false, []⟩,
  ⟨some 9, .alloc 50, none, false, false, []⟩,
  ⟨none, .store 50 (.tmp 9) (.tmp 25), none, false, false, []⟩]
def r16_8 : List Co := [
  ⟨some 26, .move (.tmp 0), none, false, false, []⟩,
  ⟨some 27, .makeFunc (.func 41) #[] #[(.tmp 9)], none, false, false, []⟩,
  ⟨some 28, .call ⟨.value (.func 40), #[(.tmp 26), (.tmp 27)], #[40, 90]⟩, none, false, false, []⟩,
  ⟨some 10, .assign (.tmp 28), none, false, false, []⟩]
def r16_9 : List Co := [
  ⟨some 29, .move (.tmp 10), none, false, false, []⟩,
  ⟨some 30, .binOp .lss 3 (.tmp 29) (.const (.int .i64 0)) 3, none, false, false, []⟩]
def r16_10 : List Co := [
  ⟨some 31, .move (.tmp 7), none, false, false, []⟩,
  ⟨some 32, .load 50 (.tmp 9), none, false, false, []⟩,
  ⟨some 33, .buildSlice 40 1 #[(0, (.tmp 32))], none, false, false, []⟩,
  ⟨some 34, .call ⟨.builtin .append, #[(.tmp 31), (.tmp 33)], #[40, 40]⟩, none, false, false, []⟩,
  ⟨some 7, .assign (.tmp 34), none, false, false, []⟩]
def r16_11 : List Co := [
  ⟨some 35, .move (.tmp 7), none, false, false, []⟩,
  ⟨some 36, .move (.tmp 10), none, false, false, []⟩,
  ⟨some 37, .move (.tmp 7), none, false, false, []⟩,
  ⟨some 38, .move (.tmp 10), none, false, false, []⟩,
  ⟨some 39, .indexAddr 40 (.tmp 37) (.tmp 38), none, false, false, []⟩,
  ⟨some 40, .load 50 (.tmp 39), none, false, false, []⟩,
  ⟨some 41, .load 50 (.tmp 9), none, false, false, []⟩,
  ⟨some 42, .call ⟨.value (.func 43), #[(.tmp 40), (.tmp 41)], #[50, 50]⟩, none, false, false, []⟩,
  ⟨some 43, .indexAddr 40 (.tmp 35) (.tmp 36), none, false, false, []⟩,
  ⟨none, .store 50 (.tmp 43) (.tmp 42), none, false, false, []⟩]
def r16_12 : List Co := [
  ⟨some 44, .move (.tmp 7), none, false, false, []⟩,
  ⟨some 45, .move (.tmp 10), none, false, false, []⟩,
  ⟨some 46, .indexAddr 40 (.tmp 44) (.tmp 45), none, false, false, []⟩,
  ⟨some 47, .load 50 (.tmp 46), none, false, false, []⟩,
  ⟨some 48, .call ⟨.value (.func 44), #[(.tmp 47)], #[50]⟩, none, false, false, []⟩,
  ⟨some 49, .unOp .not 4 (.tmp 48), none, false, false, []⟩]
def r16_13 : List Co := [
  ⟨some 4, .assign (.const (.slice none 0 0)), none, false, false, []⟩,
  ⟨some 5, .assign (.const (.int .i64 10)), none, false, false, []⟩]
def r16_14 : List Co := [
  ⟨some 50, .binOp .add 3 (.tmp 22) (.const (.int .i64 1)) 3, none, false, false, []⟩,
  ⟨some 22, .move (.tmp 50), none, false, false, []⟩]
def l16_15 : Cc := (.seq (.reg r16_6) (.seq (.cond (.tmp 23) .skip (.exit 0)) (.seq (.block 1 (.seq (.reg r16_7) (.seq (.reg r16_8) (.seq (.seq (.reg r16_9) (.cond (.tmp 30) (.seq (.reg r16_10) (.exit 1)) .skip)) (.seq (.reg r16_11) (.seq (.reg r16_12) (.cond (.tmp 49) (.seq (.reg r16_13) .ret) .skip))))))) (.reg r16_14))))
def r16_16 : List Co := [
  ⟨some 51, .move (.tmp 7), none, false, false, []⟩,
  ⟨some 4, .assign (.tmp 51), none, false, false, []⟩,
  ⟨some 5, .assign (.const (.int .i64 0)), none, false, false, []⟩]
/-- wireglass/conv.Add -/
def c16 : Cc := (.seq (.reg r16_0) (.seq (.seq (.reg r16_1) (.seq (.reg r16_2) (.cond (.tmp 16) (.seq (.reg r16_3) .ret) .skip))) (.seq (.reg r16_4) (.seq (.seq (.reg r16_5) (.block 0 (.loop l16_15))) (.seq (.reg r16_16) .ret)))))
def r17_0 : List Co := [
  ⟨some 2, .assign (.const (.slice none 0 0)), none, false, false, []⟩]
def r17_1 : List Co := [
  ⟨some 3, .assign (.const (.slice none 0 0)), none, false, false, []⟩]
def r17_2 : List Co := [
  ⟨some 4, .assign (.const (.int .i64 0)), none, false, false, []⟩]
def r17_3 : List Co := [
  ⟨some 5, .move (.tmp 4), none, false, false, []⟩,
  ⟨some 6, .move (.tmp 0), none, false, false, []⟩,
  ⟨some 7, .call ⟨.builtin .len, #[(.tmp 6)], #[37]⟩, none, false, false, []⟩,
  ⟨some 8, .binOp .lss 3 (.tmp 5) (.tmp 7) 3, none, false, false, []⟩]
def r17_4 : List Co := [
  ⟨some 11, .move (.tmp 3), none, false, false, []⟩,
  ⟨some 12, .move (.tmp 0), none, false, false, []⟩,
  ⟨some 13, .move (.tmp 4), none, false, false, []⟩,
  ⟨some 14, .indexAddr 37 (.tmp 12) (.tmp 13), none, false, false, []⟩,
  ⟨some 15, .load 80 (.tmp 14), none, false, false, []⟩,
  ⟨some 16, .buildSlice 40 1 #[(0, (.tmp 15))], none, false, false, []⟩,
  ⟨some 17, .call ⟨.builtin .append, #[(.tmp 11), (.tmp 16)], #[40, 40]⟩, none, false, false, []⟩,
  ⟨some 3, .assign (.tmp 17), none, false, false, []⟩]
def r17_5 : List Co := [
  ⟨some 9, .move (.tmp 4), none, false, false, []⟩,
  ⟨some 10, .binOp .add 3 (.tmp 9) (.const (.int .i64 1)) 3, none, false, false, []⟩,
  ⟨some 4, .assign (.tmp 10), none, false, false, []⟩]
def l17_6 : Cc := (.seq (.seq (.reg r17_3) (.cond (.tmp 8) .skip (.exit 0))) (.seq (.block 1 (.reg r17_4)) (.reg r17_5)))
def r17_7 : List Co := [
  ⟨some 18, .move (.tmp 3), none, false, false, []⟩,
  ⟨some 2, .assign (.tmp 18), none, false, false, []⟩]
/-- wireglass/wireglasslaw20.given -/
def c17 : Cc := (.seq (.reg r17_0) (.seq (.reg r17_1) (.seq (.seq (.reg r17_2) (.block 0 (.loop l17_6))) (.seq (.reg r17_7) .ret))))
def r18_0 : List Co := [
  ⟨some 4, .assign (.const (.slice none 0 0)), none, false, false, []⟩,
  ⟨some 5, .assign (.const (.int .i64 0)), none, false, false, []⟩]
def r18_1 : List Co := [
  ⟨some 13, .move (.tmp 0), none, false, false, []⟩,
  ⟨some 14, .call ⟨.builtin .len, #[(.tmp 13)], #[37]⟩, none, false, false, []⟩,
  ⟨some 15, .binOp .gtr 3 (.tmp 14) (.const (.int .i64 200)) 3, none, false, false, []⟩,
  ⟨some 16, .move (.tmp 15), none, false, false, []⟩,
  ⟨some 17, .move (.tmp 1), some (16, false), false, false, []⟩,
  ⟨some 18, .call ⟨.builtin .len, #[(.tmp 17)], #[37]⟩, some (16, false), false, false, []⟩,
  ⟨some 19, .binOp .gtr 3 (.tmp 18) (.const (.int .i64 200)) 3, some (16, false), false, false, []⟩,
  ⟨some 20, .pick (.tmp 16) (.const (.bool true)) (.tmp 19), none, false, false, []⟩]
def r18_2 : List Co := [
  ⟨some 4, .assign (.const (.slice none 0 0)), none, false, false, []⟩,
  ⟨some 5, .assign (.const (.int .i64 3)), none, false, false, []⟩]
def r18_3 : List Co := [
  ⟨some 21, .move (.tmp 0), none, false, false, []⟩,
  ⟨some 22, .call ⟨.value (.func 45), #[(.tmp 21)], #[37]⟩, none, false, false, []⟩,
  ⟨some 23, .binOp .neq 29 (.tmp 22) (.const (.int .i64 0)) 29, none, false, false, []⟩,
  ⟨some 24, .move (.tmp 23), none, false, false, []⟩,
  ⟨some 25, .move (.tmp 1), some (24, false), false, false, []⟩,
  ⟨some 26, .call ⟨.value (.func 45), #[(.tmp 25)], #[37]⟩, some (24, false), false, false, []⟩,
  ⟨some 27, .binOp .neq 29 (.tmp 26) (.const (.int .i64 0)) 29, some (24, false), false, false, []⟩,
  ⟨some 28, .pick (.tmp 24) (.const (.bool true)) (.tmp 27), none, false, false, []⟩]
def r18_4 : List Co := [
  ⟨some 4, .assign (.const (.slice none 0 0)), none, false, false, []⟩,
  ⟨some 5, .assign (.const (.int .i64 1)), none, false, false, []⟩]
def r18_5 : List Co := [
  ⟨some 29, .move (.tmp 0), none, false, false, []⟩,
  ⟨some 30, .call ⟨.builtin .append, #[(.const (.slice none 0 0)), (.tmp 29)], #[37, 37]⟩, none, false, false, []⟩,
  ⟨some 6, .assign (.tmp 30), none, false, false, []⟩]
def r18_6 : List Co := [
  ⟨some 7, .assign (.const (.int .i64 0)), none, false, false, []⟩]
def r18_7 : List Co := [
  ⟨some 31, .move (.tmp 7), none, false, false, []⟩,
  ⟨some 32, .move (.tmp 1), none, false, false, []⟩,
  ⟨some 33, .call ⟨.builtin .len, #[(.tmp 32)], #[37]⟩, none, false, false, []⟩,
  ⟨some 34, .binOp .lss 3 (.tmp 31) (.tmp 33) 3, none, false, false, []⟩]
def r18_8 : List Co := [
  ⟨some 37, .move (.tmp 0), none, false, false, []⟩,
  ⟨some 38, .move (.tmp 1), none, false, false, []⟩,
  ⟨some 39, .move (.tmp 7), none, false, false, []⟩,
  ⟨some 40, .indexAddr 37 (.tmp 38) (.tmp 39), none, false, false, []⟩,
  ⟨some 41, .load 80 (.tmp 40), none, false, false, []⟩,
  ⟨some 42, .call ⟨.value (.func 46), #[(.tmp 41)], #[80]⟩, none, false, false, []⟩,
  ⟨some 43, .call ⟨.value (.func 37), #[(.tmp 37), (.tmp 42)], #[37, 81]⟩, none, false, false, []⟩,
  ⟨some 8, .assign (.tmp 43), none, false, false, []⟩]
def r18_9 : List Co := [
  ⟨some 44, .move (.tmp 8), none, false, false, []⟩,
  ⟨some 45, .binOp .lss 3 (.tmp 44) (.const (.int .i64 0)) 3, none, false, false, []⟩]
def r18_10 : List Co := [
  ⟨some 46, .move (.tmp 6), none, false, false, []⟩,
  ⟨some 47, .move (.tmp 1), none, false, false, []⟩,
  ⟨some 48, .move (.tmp 7), none, false, false, []⟩,
  ⟨some 49, .indexAddr 37 (.tmp 47) (.tmp 48), none, false, false, []⟩,
  ⟨some 50, .load 80 (.tmp 49), none, false, false, []⟩,
  ⟨some 51, .buildSlice 37 1 #[(0, (.tmp 50))], none, false, false, []⟩,
  ⟨some 52, .call ⟨.builtin .append, #[(.tmp 46), (.tmp 51)], #[37, 37]⟩, none, false, false, []⟩,
  ⟨some 6, .assign (.tmp 52), none, false, false, []⟩]
def r18_11 : List Co := [
  ⟨some 53, .move (.tmp 6), none, false, false, []⟩,
  ⟨some 54, .move (.tmp 8), none, false, false, []⟩,
  ⟨some 55, .indexAddr 37 (.tmp 53) (.tmp 54), none, false, false, []⟩,
  ⟨some 56, .move (.tmp 1), none, false, false, []⟩,
  ⟨some 57, .move (.tmp 7), none, false, false, []⟩,
  ⟨some 58, .indexAddr 37 (.tmp 56) (.tmp 57), none, false, false, []⟩,
  ⟨some 59, .load 80 (.tmp 58), none, false, false, []⟩,
  ⟨some 10, .alloc 80, none, false, false, []⟩,
  ⟨some 9, .assign (.tmp 55), none, false, false, []⟩,
  ⟨none, .store 80 (.tmp 10) (.tmp 59), none, false, false, []⟩]
def r18_12 : List Co := [
  ⟨some 60, .move (.tmp 9), none, false, false, []⟩,
  ⟨some 61, .nilCheck (.tmp 60), none, false, false, []⟩,
  ⟨some 62, .fieldAddr 80 (.tmp 61) 5, none, false, false, []⟩,
  ⟨some 63, .load 3 (.tmp 62), none, false, false, []⟩,
  ⟨some 64, .fieldAddr 80 (.tmp 10) 5, none, false, false, []⟩,
  ⟨some 65, .load 3 (.tmp 64), none, false, false, []⟩,
  ⟨some 66, .binOp .add 3 (.tmp 63) (.tmp 65) 3, none, false, false, []⟩,
  ⟨some 67, .nilCheck (.tmp 60), none, false, false, []⟩,
  ⟨some 68, .fieldAddr 80 (.tmp 67) 5, none, false, false, []⟩,
  ⟨none, .store 3 (.tmp 68) (.tmp 66), none, false, false, []⟩]
def r18_13 : List Co := [
  ⟨some 69, .move (.tmp 9), none, false, false, []⟩,
  ⟨some 70, .nilCheck (.tmp 69), none, false, false, []⟩,
  ⟨some 71, .fieldAddr 80 (.tmp 70) 6, none, false, false, []⟩,
  ⟨some 72, .load 3 (.tmp 71), none, false, false, []⟩,
  ⟨some 73, .fieldAddr 80 (.tmp 10) 6, none, false, false, []⟩,
  ⟨some 74, .load 3 (.tmp 73), none, false, false, []⟩,
  ⟨some 75, .binOp .add 3 (.tmp 72) (.tmp 74) 3, none, false, false, []⟩,
  ⟨some 76, .nilCheck (.tmp 69), none, false, false, []⟩,
  ⟨some 77, .fieldAddr 80 (.tmp 76) 6, none, false, false, []⟩,
  ⟨none, .store 3 (.tmp 77) (.tmp 75), none, false, false, []⟩]
def r18_14 : List Co := [
  ⟨some 78, .move (.tmp 9), none, false, false, []⟩,
  ⟨some 79, .nilCheck (.tmp 78), none, false, false, []⟩,
  ⟨some 80, .fieldAddr 80 (.tmp 79) 7, none, false, false, []⟩,
  ⟨some 81, .load 3 (.tmp 80), none, false, false, []⟩,
  ⟨some 82, .fieldAddr 80 (.tmp 10) 7, none, false, false, []⟩,
  ⟨some 83, .load 3 (.tmp 82), none, false, false, []⟩,
  ⟨some 84, .binOp .add 3 (.tmp 81) (.tmp 83) 3, none, false, false, []⟩,
  ⟨some 85, .nilCheck (.tmp 78), none, false, false, []⟩,
  ⟨some 86, .fieldAddr 80 (.tmp 85) 7, none, false, false, []⟩,
  ⟨none, .store 3 (.tmp 86) (.tmp 84), none, false, false, []⟩]
def r18_15 : List Co := [
  ⟨some 87, .move (.tmp 9), none, false, false, []⟩,
  ⟨some 88, .nilCheck (.tmp 87), none, false, false, []⟩,
  ⟨some 89, .fieldAddr 80 (.tmp 88) 8, none, false, false, []⟩,
  ⟨some 90, .load 3 (.tmp 89), none, false, false, []⟩,
  ⟨some 91, .fieldAddr 80 (.tmp 10) 8, none, false, false, []⟩,
  ⟨some 92, .load 3 (.tmp 91), none, false, false, []⟩,
  ⟨some 93, .binOp .add 3 (.tmp 90) (.tmp 92) 3, none, false, false, []⟩,
  ⟨some 94, .nilCheck (.tmp 87), none, false, false, []⟩,
  ⟨some 95, .fieldAddr 80 (.tmp 94) 8, none, false, false, []⟩,
  ⟨none, .store 3 (.tmp 95) (.tmp 93), none, false, false, []⟩]
def r18_16 : List Co := [
  ⟨some 96, .move (.tmp 9), none, false, false, []⟩,
  ⟨some 97, .move (.tmp 9), none, false, false, []⟩,
  ⟨some 98, .move (.tmp 9), none, false, false, []⟩,
  ⟨some 99, .nilCheck (.tmp 98), none, false, false, []⟩,
  ⟨some 100, .fieldAddr 80 (.tmp 99) 9, none, false, false, []⟩,
  ⟨some 101, .load 3 (.tmp 100), none, false, false, []⟩,
  ⟨some 102, .fieldAddr 80 (.tmp 10) 9, none, false, false, []⟩,
  ⟨some 103, .load 3 (.tmp 102), none, false, false, []⟩,
  ⟨some 104, .call ⟨.builtin .min, #[(.tmp 101), (.tmp 103)], #[3, 3]⟩, none, false, false, []⟩,
  ⟨some 105, .move (.tmp 9), none, false, false, []⟩,
  ⟨some 106, .nilCheck (.tmp 105), none, false, false, []⟩,
  ⟨some 107, .fieldAddr 80 (.tmp 106) 10, none, false, false, []⟩,
  ⟨some 108, .load 3 (.tmp 107), none, false, false, []⟩,
  ⟨some 109, .fieldAddr 80 (.tmp 10) 10, none, false, false, []⟩,
  ⟨some 110, .load 3 (.tmp 109), none, false, false, []⟩,
  ⟨some 111, .call ⟨.builtin .max, #[(.tmp 108), (.tmp 110)], #[3, 3]⟩, none, false, false, []⟩,
  ⟨some 112, .nilCheck (.tmp 96), none, false, false, []⟩,
  ⟨some 113, .fieldAddr 80 (.tmp 112) 9, none, false, false, []⟩,
  ⟨none, .store 3 (.tmp 113) (.tmp 104), none, false, false, [(none, .load 3 (.tmp 109))]⟩,
  ⟨some 114, .nilCheck (.tmp 97), none, false, false, []⟩,
  ⟨some 115, .fieldAddr 80 (.tmp 114) 10, none, false, false, []⟩,
  ⟨none, .store 3 (.tmp 115) (.tmp 111), none, false, false, []⟩]
def r18_17 : List Co := [
  ⟨some 35, .move (.tmp 7), none, false, false, []⟩,
  ⟨some 36, .binOp .add 3 (.tmp 35) (.const (.int .i64 1)) 3, none, false, false, []⟩,
  ⟨some 7, .assign (.tmp 36), none, false, false, []⟩]
def l18_18 : Cc := (.seq (.seq (.reg r18_7) (.cond (.tmp 34) .skip (.exit 0))) (.seq (.block 1 (.seq (.reg r18_8) (.seq (.seq (.reg r18_9) (.cond (.tmp 45) (.seq (.reg r18_10) (.exit 1)) .skip)) (.seq (.reg r18_11) (.seq (.reg r18_12) (.seq (.reg r18_13) (.seq (.reg r18_14) (.seq (.reg r18_15) (.reg r18_16))))))))) (.reg r18_17)))
def r18_19 : List Co := [
  ⟨some 11, .assign (.const (.int .i64 0)), none, false, false, []⟩]
def r18_20 : List Co := [
  ⟨some 116, .move (.tmp 11), none, false, false, []⟩,
  ⟨some 117, .move (.tmp 6), none, false, false, []⟩,
  ⟨some 118, .call ⟨.builtin .len, #[(.tmp 117)], #[37]⟩, none, false, false, []⟩,
  ⟨some 119, .binOp .lss 3 (.tmp 116) (.tmp 118) 3, none, false, false, []⟩]
def r18_21 : List Co := [
  ⟨some 122, .move (.tmp 6), none, false, false, []⟩,
  ⟨some 123, .move (.tmp 11), none, false, false, []⟩,
  ⟨some 124, .indexAddr 37 (.tmp 122) (.tmp 123), none, false, false, []⟩,
  ⟨some 125, .load 80 (.tmp 124), none, false, false, []⟩,
  ⟨some 12, .alloc 80, none, false, false, []⟩,
  ⟨none, .store 80 (.tmp 12) (.tmp 125), none, false, false, []⟩]
def r18_22 : List Co := [
  ⟨some 126, .fieldAddr 80 (.tmp 12) 5, none, false, false, []⟩,
  ⟨some 127, .load 3 (.tmp 126), none, false, false, []⟩,
  ⟨some 128, .call ⟨.value (.func 34), #[(.tmp 127), (.const (.int .i64 4503599627370496))], #[3, 3]⟩, none, false, false, []⟩,
  ⟨some 129, .unOp .not 4 (.tmp 128), none, false, false, []⟩,
  ⟨some 130, .move (.tmp 129), none, false, false, []⟩,
  ⟨some 131, .fieldAddr 80 (.tmp 12) 6, some (130, false), false, false, []⟩,
  ⟨some 132, .load 3 (.tmp 131), some (130, false), false, false, []⟩,
  ⟨some 133, .call ⟨.value (.func 34), #[(.tmp 132), (.const (.int .i64 4503599627370496))], #[3, 3]⟩, some (130, false), false, false, []⟩,
  ⟨some 134, .unOp .not 4 (.tmp 133), some (130, false), false, false, []⟩,
  ⟨some 135, .pick (.tmp 130) (.const (.bool true)) (.tmp 134), none, false, false, []⟩,
  ⟨some 136, .move (.tmp 135), none, false, false, []⟩,
  ⟨some 137, .fieldAddr 80 (.tmp 12) 7, some (136, false), false, false, []⟩,
  ⟨some 138, .load 3 (.tmp 137), some (136, false), false, false, []⟩,
  ⟨some 139, .call ⟨.value (.func 34), #[(.tmp 138), (.const (.int .i64 4503599627370496))], #[3, 3]⟩, some (136, false), false, false, []⟩,
  ⟨some 140, .unOp .not 4 (.tmp 139), some (136, false), false, false, []⟩,
  ⟨some 141, .pick (.tmp 136) (.const (.bool true)) (.tmp 140), none, false, false, []⟩,
  ⟨some 142, .move (.tmp 141), none, false, false, []⟩,
  ⟨some 143, .fieldAddr 80 (.tmp 12) 8, some (142, false), false, false, []⟩,
  ⟨some 144, .load 3 (.tmp 143), some (142, false), false, false, []⟩,
  ⟨some 145, .call ⟨.value (.func 34), #[(.tmp 144), (.const (.int .i64 4503599627370496))], #[3, 3]⟩, some (142, false), false, false, []⟩,
  ⟨some 146, .unOp .not 4 (.tmp 145), some (142, false), false, false, []⟩,
  ⟨some 147, .pick (.tmp 142) (.const (.bool true)) (.tmp 146), none, false, false, []⟩]
def r18_23 : List Co := [
  ⟨some 4, .assign (.const (.slice none 0 0)), none, false, false, []⟩,
  ⟨some 5, .assign (.const (.int .i64 10)), none, false, false, []⟩]
def r18_24 : List Co := [
  ⟨some 120, .move (.tmp 11), none, false, false, []⟩,
  ⟨some 121, .binOp .add 3 (.tmp 120) (.const (.int .i64 1)) 3, none, false, false, []⟩,
  ⟨some 11, .assign (.tmp 121), none, false, false, []⟩]
def l18_25 : Cc := (.seq (.seq (.reg r18_20) (.cond (.tmp 119) .skip (.exit 2))) (.seq (.block 3 (.seq (.reg r18_21) (.seq (.reg r18_22) (.cond (.tmp 147) (.seq (.reg r18_23) .ret) .skip)))) (.reg r18_24)))
def r18_26 : List Co := [
  ⟨some 148, .move (.tmp 6), none, false, false, []⟩,
  ⟨some 4, .assign (.tmp 148), none, false, false, []⟩,
  ⟨some 5, .assign (.const (.int .i64 0)), none, false, false, []⟩]
/-- wireglass/wireglassref20.Add -/
def c18 : Cc := (.seq (.reg r18_0) (.seq (.seq (.reg r18_1) (.cond (.tmp 20) (.seq (.reg r18_2) .ret) .skip)) (.seq (.seq (.reg r18_3) (.cond (.tmp 28) (.seq (.reg r18_4) .ret) .skip)) (.seq (.reg r18_5) (.seq (.seq (.reg r18_6) (.block 0 (.loop l18_18))) (.seq (.seq (.reg r18_19) (.block 2 (.loop l18_25))) (.seq (.reg r18_26) .ret)))))))
def r19_0 : List Co := [
  ⟨some 4, .assign (.const (.bool false)), none, false, false, []⟩]
def r19_1 : List Co := [
  ⟨some 6, .move (.tmp 0), none, false, false, []⟩,
  ⟨some 7, .call ⟨.builtin .len, #[(.tmp 6)], #[40]⟩, none, false, false, []⟩,
  ⟨some 8, .move (.tmp 1), none, false, false, []⟩,
  ⟨some 9, .call ⟨.builtin .len, #[(.tmp 8)], #[37]⟩, none, false, false, []⟩,
  ⟨some 10, .binOp .neq 3 (.tmp 7) (.tmp 9) 3, none, false, false, []⟩]
def r19_2 : List Co := [
  ⟨some 4, .assign (.const (.bool false)), none, false, false, []⟩]
def r19_3 : List Co := [
  ⟨some 5, .assign (.const (.int .i64 0)), none, false, false, []⟩]
def r19_4 : List Co := [
  ⟨some 11, .move (.tmp 5), none, false, false, []⟩,
  ⟨some 12, .move (.tmp 0), none, false, false, []⟩,
  ⟨some 13, .call ⟨.builtin .len, #[(.tmp 12)], #[40]⟩, none, false, false, []⟩,
  ⟨some 14, .binOp .lss 3 (.tmp 11) (.tmp 13) 3, none, false, false, []⟩]
def r19_5 : List Co := [
  ⟨some 17, .move (.tmp 0), none, false, false, []⟩,
  ⟨some 18, .move (.tmp 5), none, false, false, []⟩,
  ⟨some 19, .indexAddr 40 (.tmp 17) (.tmp 18), none, false, false, []⟩,
  ⟨some 20, .load 50 (.tmp 19), none, false, false, []⟩,
  ⟨some 21, .move (.tmp 1), none, false, false, []⟩,
  ⟨some 22, .move (.tmp 5), none, false, false, []⟩,
  ⟨some 23, .indexAddr 37 (.tmp 21) (.tmp 22), none, false, false, []⟩,
  ⟨some 24, .load 80 (.tmp 23), none, false, false, []⟩,
  ⟨some 25, .binOp .neq 80 (.tmp 20) (.tmp 24) 80, none, false, false, []⟩]
def r19_6 : List Co := [
  ⟨some 4, .assign (.const (.bool false)), none, false, false, []⟩]
def r19_7 : List Co := [
  ⟨some 15, .move (.tmp 5), none, false, false, []⟩,
  ⟨some 16, .binOp .add 3 (.tmp 15) (.const (.int .i64 1)) 3, none, false, false, []⟩,
  ⟨some 5, .assign (.tmp 16), none, false, false, []⟩]
def l19_8 : Cc := (.seq (.seq (.reg r19_4) (.cond (.tmp 14) .skip (.exit 0))) (.seq (.block 1 (.seq (.reg r19_5) (.cond (.tmp 25) (.seq (.reg r19_6) .ret) .skip))) (.reg r19_7)))
def r19_9 : List Co := [
  ⟨some 4, .assign (.const (.bool true)), none, false, false, []⟩]
/-- wireglass/wireglasslaw20.sums -/
def c19 : Cc := (.seq (.reg r19_0) (.seq (.seq (.reg r19_1) (.cond (.tmp 10) (.seq (.reg r19_2) .ret) .skip)) (.seq (.seq (.reg r19_3) (.block 0 (.loop l19_8))) (.seq (.reg r19_9) .ret))))
def r33_0 : List Co := [
  ⟨some 4, .assign (.const (.bool false)), none, false, false, []⟩]
def r33_1 : List Co := [
  ⟨some 5, .move (.tmp 0), none, false, false, []⟩,
  ⟨some 6, .binOp .geq 3 (.tmp 5) (.const (.int .i64 0)) 3, none, false, false, []⟩,
  ⟨some 7, .move (.tmp 6), none, false, false, []⟩,
  ⟨some 8, .move (.tmp 0), some (7, true), false, false, []⟩,
  ⟨some 9, .move (.tmp 1), some (7, true), false, false, []⟩,
  ⟨some 10, .binOp .leq 3 (.tmp 8) (.tmp 9) 3, some (7, true), false, false, []⟩,
  ⟨some 11, .pick (.tmp 7) (.tmp 10) (.const (.bool false)), none, false, false, []⟩,
  ⟨some 4, .assign (.tmp 11), none, false, false, []⟩]
/-- wireglass/conv.within -/
def c33 : Cc := (.seq (.reg r33_0) (.seq (.reg r33_1) .ret))
def r34_0 : List Co := [
  ⟨some 4, .assign (.const (.bool false)), none, false, false, []⟩]
def r34_1 : List Co := [
  ⟨some 5, .move (.tmp 0), none, false, false, []⟩,
  ⟨some 6, .binOp .geq 3 (.tmp 5) (.const (.int .i64 0)) 3, none, false, false, []⟩,
  ⟨some 7, .move (.tmp 6), none, false, false, []⟩,
  ⟨some 8, .move (.tmp 0), some (7, true), false, false, []⟩,
  ⟨some 9, .move (.tmp 1), some (7, true), false, false, []⟩,
  ⟨some 10, .binOp .leq 3 (.tmp 8) (.tmp 9) 3, some (7, true), false, false, []⟩,
  ⟨some 11, .pick (.tmp 7) (.tmp 10) (.const (.bool false)), none, false, false, []⟩,
  ⟨some 4, .assign (.tmp 11), none, false, false, []⟩]
/-- wireglass/wireglassref20.within -/
def c34 : Cc := (.seq (.reg r34_0) (.seq (.reg r34_1) .ret))
def r35_0 : List Co := [
  ⟨some 1, .box 58 (.tmp 0), none, false, false, []⟩,
  ⟨some 2, .assign (.const (.bool false)), none, false, false, []⟩]
def r35_1 : List Co := [
  ⟨some 3, .fieldAddr 58 (.tmp 1) 0, none, false, false, []⟩,
  ⟨some 4, .load 3 (.tmp 3), none, false, false, []⟩,
  ⟨some 5, .call ⟨.value (.func 34), #[(.tmp 4), (.const (.int .i64 1000000000000000))], #[3, 3]⟩, none, false, false, []⟩,
  ⟨some 6, .move (.tmp 5), none, false, false, []⟩,
  ⟨some 7, .fieldAddr 58 (.tmp 1) 1, some (6, true), false, false, []⟩,
  ⟨some 8, .load 3 (.tmp 7), some (6, true), false, false, []⟩,
  ⟨some 9, .call ⟨.value (.func 34), #[(.tmp 8), (.const (.int .i64 4294967295))], #[3, 3]⟩, some (6, true), false, false, []⟩,
  ⟨some 10, .pick (.tmp 6) (.tmp 9) (.const (.bool false)), none, false, false, []⟩,
  ⟨some 11, .move (.tmp 10), none, false, false, []⟩,
  ⟨some 12, .fieldAddr 58 (.tmp 1) 2, some (11, true), false, false, []⟩,
  ⟨some 13, .load 3 (.tmp 12), some (11, true), false, false, []⟩,
  ⟨some 14, .call ⟨.value (.func 34), #[(.tmp 13), (.const (.int .i64 4294967295))], #[3, 3]⟩, some (11, true), false, false, []⟩,
  ⟨some 15, .pick (.tmp 11) (.tmp 14) (.const (.bool false)), none, false, false, []⟩,
  ⟨some 16, .move (.tmp 15), none, false, false, []⟩,
  ⟨some 17, .fieldAddr 58 (.tmp 1) 3, some (16, true), false, false, []⟩,
  ⟨some 18, .load 3 (.tmp 17), some (16, true), false, false, []⟩,
  ⟨some 19, .call ⟨.value (.func 34), #[(.tmp 18), (.const (.int .i64 65535))], #[3, 3]⟩, some (16, true), false, false, []⟩,
  ⟨some 20, .pick (.tmp 16) (.tmp 19) (.const (.bool false)), none, false, false, []⟩,
  ⟨some 21, .move (.tmp 20), none, false, false, []⟩,
  ⟨some 22, .fieldAddr 58 (.tmp 1) 4, some (21, true), false, false, []⟩,
  ⟨some 23, .load 3 (.tmp 22), some (21, true), false, false, []⟩,
  ⟨some 24, .call ⟨.value (.func 34), #[(.tmp 23), (.const (.int .i64 65535))], #[3, 3]⟩, some (21, true), false, false, []⟩,
  ⟨some 25, .pick (.tmp 21) (.tmp 24) (.const (.bool false)), none, false, false, []⟩,
  ⟨some 26, .move (.tmp 25), none, false, false, []⟩,
  ⟨some 27, .fieldAddr 58 (.tmp 1) 5, some (26, true), false, false, []⟩,
  ⟨some 28, .load 3 (.tmp 27), some (26, true), false, false, []⟩,
  ⟨some 29, .call ⟨.value (.func 34), #[(.tmp 28), (.const (.int .i64 255))], #[3, 3]⟩, some (26, true), false, false, []⟩,
  ⟨some 30, .pick (.tmp 26) (.tmp 29) (.const (.bool false)), none, false, false, []⟩,
  ⟨some 31, .move (.tmp 30), none, false, false, []⟩,
  ⟨some 32, .fieldAddr 58 (.tmp 1) 6, some (31, true), false, false, []⟩,
  ⟨some 33, .load 3 (.tmp 32), some (31, true), false, false, []⟩,
  ⟨some 34, .call ⟨.value (.func 34), #[(.tmp 33), (.const (.int .i64 1000000))], #[3, 3]⟩, some (31, true), false, false, []⟩,
  ⟨some 35, .pick (.tmp 31) (.tmp 34) (.const (.bool false)), none, false, false, []⟩,
  ⟨some 2, .assign (.tmp 35), none, false, false, []⟩]
/-- wireglass/wireglassref20.isTalk -/
def c35 : Cc := (.seq (.reg r35_0) (.seq (.reg r35_1) .ret))
def r36_0 : List Co := [
  ⟨some 1, .box 58 (.tmp 0), none, false, false, []⟩,
  ⟨some 2, .alloc 81, none, false, false, []⟩,
  ⟨some 3, .assign (.const (.bool false)), none, false, false, []⟩]
def r36_1 : List Co := [
  ⟨some 4, .fieldAddr 58 (.tmp 1) 1, none, false, false, []⟩,
  ⟨some 5, .load 3 (.tmp 4), none, false, false, []⟩,
  ⟨some 6, .fieldAddr 58 (.tmp 1) 2, none, false, false, []⟩,
  ⟨some 7, .load 3 (.tmp 6), none, false, false, []⟩,
  ⟨some 8, .binOp .lss 3 (.tmp 5) (.tmp 7) 3, none, false, false, []⟩,
  ⟨some 9, .move (.tmp 8), none, false, false, []⟩,
  ⟨some 10, .fieldAddr 58 (.tmp 1) 1, some (9, false), false, false, []⟩,
  ⟨some 11, .load 3 (.tmp 10), some (9, false), false, false, []⟩,
  ⟨some 12, .fieldAddr 58 (.tmp 1) 2, some (9, false), false, false, []⟩,
  ⟨some 13, .load 3 (.tmp 12), some (9, false), false, false, []⟩,
  ⟨some 14, .binOp .eql 3 (.tmp 11) (.tmp 13) 3, some (9, false), false, false, []⟩,
  ⟨some 15, .move (.tmp 14), some (9, false), false, false, []⟩,
  ⟨some 16, .fieldAddr 58 (.tmp 1) 3, some (15, true), false, false, []⟩,
  ⟨some 17, .load 3 (.tmp 16), some (15, true), false, false, []⟩,
  ⟨some 18, .fieldAddr 58 (.tmp 1) 4, some (15, true), false, false, []⟩,
  ⟨some 19, .load 3 (.tmp 18), some (15, true), false, false, []⟩,
  ⟨some 20, .binOp .leq 3 (.tmp 17) (.tmp 19) 3, some (15, true), false, false, []⟩,
  ⟨some 21, .pick (.tmp 15) (.tmp 20) (.const (.bool false)), some (9, false), false, false, []⟩,
  ⟨some 22, .pick (.tmp 9) (.const (.bool true)) (.tmp 21), none, false, false, []⟩]
def r36_2 : List Co := [
  ⟨some 23, .fieldAddr 58 (.tmp 1) 1, none, false, false, []⟩,
  ⟨some 24, .load 3 (.tmp 23), none, false, false, []⟩,
  ⟨some 25, .fieldAddr 58 (.tmp 1) 3, none, false, false, []⟩,
  ⟨some 26, .load 3 (.tmp 25), none, false, false, []⟩,
  ⟨some 27, .fieldAddr 58 (.tmp 1) 2, none, false, false, []⟩,
  ⟨some 28, .load 3 (.tmp 27), none, false, false, []⟩,
  ⟨some 29, .fieldAddr 58 (.tmp 1) 4, none, false, false, []⟩,
  ⟨some 30, .load 3 (.tmp 29), none, false, false, []⟩,
  ⟨some 31, .fieldAddr 58 (.tmp 1) 5, none, false, false, []⟩,
  ⟨some 32, .load 3 (.tmp 31), none, false, false, []⟩,
  ⟨some 33, .build 81 #[(0, (.tmp 24)), (1, (.tmp 26)), (2, (.tmp 28)), (3, (.tmp 30)), (4, (.tmp 32))], none, false, false, []⟩,
  ⟨none, .store 81 (.tmp 2) (.tmp 33), none, false, false, []⟩,
  ⟨some 3, .assign (.const (.bool true)), none, false, false, []⟩]
def r36_3 : List Co := [
  ⟨some 34, .fieldAddr 58 (.tmp 1) 2, none, false, false, []⟩,
  ⟨some 35, .load 3 (.tmp 34), none, false, false, []⟩,
  ⟨some 36, .fieldAddr 58 (.tmp 1) 4, none, false, false, []⟩,
  ⟨some 37, .load 3 (.tmp 36), none, false, false, []⟩,
  ⟨some 38, .fieldAddr 58 (.tmp 1) 1, none, false, false, []⟩,
  ⟨some 39, .load 3 (.tmp 38), none, false, false, []⟩,
  ⟨some 40, .fieldAddr 58 (.tmp 1) 3, none, false, false, []⟩,
  ⟨some 41, .load 3 (.tmp 40), none, false, false, []⟩,
  ⟨some 42, .fieldAddr 58 (.tmp 1) 5, none, false, false, []⟩,
  ⟨some 43, .load 3 (.tmp 42), none, false, false, []⟩,
  ⟨some 44, .build 81 #[(0, (.tmp 35)), (1, (.tmp 37)), (2, (.tmp 39)), (3, (.tmp 41)), (4, (.tmp 43))], none, false, false, []⟩,
  ⟨none, .store 81 (.tmp 2) (.tmp 44), none, false, false, []⟩,
  ⟨some 3, .assign (.const (.bool false)), none, false, false, []⟩]
/-- wireglass/wireglassref20.KeyOf -/
def c36 : Cc := (.seq (.reg r36_0) (.seq (.seq (.reg r36_1) (.cond (.tmp 22) (.seq (.reg r36_2) .ret) .skip)) (.seq (.reg r36_3) .ret)))
def r37_0 : List Co := [
  ⟨some 3, .box 81 (.tmp 1), none, false, false, []⟩,
  ⟨some 4, .assign (.const (.int .i64 0)), none, false, false, []⟩]
def r37_1 : List Co := [
  ⟨some 5, .assign (.const (.int .i64 0)), none, false, false, []⟩]
def r37_2 : List Co := [
  ⟨some 6, .move (.tmp 5), none, false, false, []⟩,
  ⟨some 7, .move (.tmp 0), none, false, false, []⟩,
  ⟨some 8, .call ⟨.builtin .len, #[(.tmp 7)], #[37]⟩, none, false, false, []⟩,
  ⟨some 9, .binOp .lss 3 (.tmp 6) (.tmp 8) 3, none, false, false, []⟩]
def r37_3 : List Co := [
  ⟨some 12, .move (.tmp 0), none, false, false, []⟩,
  ⟨some 13, .move (.tmp 5), none, false, false, []⟩,
  ⟨some 14, .indexAddr 37 (.tmp 12) (.tmp 13), none, false, false, []⟩,
  ⟨some 15, .load 80 (.tmp 14), none, false, false, []⟩,
  ⟨some 16, .call ⟨.value (.func 46), #[(.tmp 15)], #[80]⟩, none, true, false, []⟩,
  ⟨some 17, .load 81 (.tmp 3), none, true, true, []⟩,
  ⟨some 18, .binOp .eql 81 (.tmp 16) (.tmp 17) 81, none, false, false, []⟩]
def r37_4 : List Co := [
  ⟨some 19, .move (.tmp 5), none, false, false, []⟩,
  ⟨some 4, .assign (.tmp 19), none, false, false, []⟩]
def r37_5 : List Co := [
  ⟨some 10, .move (.tmp 5), none, false, false, []⟩,
  ⟨some 11, .binOp .add 3 (.tmp 10) (.const (.int .i64 1)) 3, none, false, false, []⟩,
  ⟨some 5, .assign (.tmp 11), none, false, false, []⟩]
def l37_6 : Cc := (.seq (.seq (.reg r37_2) (.cond (.tmp 9) .skip (.exit 0))) (.seq (.block 1 (.seq (.reg r37_3) (.cond (.tmp 18) (.seq (.reg r37_4) .ret) .skip))) (.reg r37_5)))
def r37_7 : List Co := [
  ⟨some 4, .assign (.const (.int .i64 (-1))), none, false, false, []⟩]
/-- wireglass/wireglassref20.find -/
def c37 : Cc := (.seq (.reg r37_0) (.seq (.seq (.reg r37_1) (.block 0 (.loop l37_6))) (.seq (.reg r37_7) .ret)))
def r38_0 : List Co := [
  ⟨some 2, .assign (.const (.int .i64 0)), none, false, false, []⟩]
def r38_1 : List Co := [
  ⟨some 10, .move (.tmp 0), none, false, false, []⟩,
  ⟨some 11, .call ⟨.builtin .len, #[(.tmp 10)], #[126]⟩, none, false, false, []⟩,
  ⟨some 12, .move (.const (.int .i64 0)), none, false, false, []⟩]
def r38_2 : List Co := [
  ⟨some 13, .binOp .lss 3 (.tmp 12) (.tmp 11) 3, none, false, false, []⟩]
def r38_3 : List Co := [
  ⟨some 14, .indexAddr 126 (.tmp 10) (.tmp 12), none, false, false, []⟩,
  ⟨some 15, .load 40 (.tmp 14), none, false, false, []⟩,
  ⟨some 4, .assign (.tmp 15), none, false, false, []⟩]
def r38_4 : List Co := [
  ⟨some 16, .move (.tmp 4), none, false, false, []⟩,
  ⟨some 17, .call ⟨.builtin .len, #[(.tmp 16)], #[40]⟩, none, false, false, []⟩,
  ⟨some 18, .binOp .gtr 3 (.tmp 17) (.const (.int .i64 200)) 3, none, false, false, []⟩]
def r38_5 : List Co := [
  ⟨some 2, .assign (.const (.int .i64 3)), none, false, false, []⟩]
def r38_6 : List Co := [
  ⟨some 19, .binOp .add 3 (.tmp 12) (.const (.int .i64 1)) 3, none, false, false, []⟩,
  ⟨some 12, .move (.tmp 19), none, false, false, []⟩]
def l38_7 : Cc := (.seq (.reg r38_2) (.seq (.cond (.tmp 13) .skip (.exit 0)) (.seq (.block 1 (.seq (.reg r38_3) (.seq (.reg r38_4) (.cond (.tmp 18) (.seq (.reg r38_5) .ret) .skip)))) (.reg r38_6))))
def r38_8 : List Co := [
  ⟨some 20, .move (.tmp 0), none, false, false, []⟩,
  ⟨some 21, .call ⟨.builtin .len, #[(.tmp 20)], #[126]⟩, none, false, false, []⟩,
  ⟨some 22, .move (.const (.int .i64 0)), none, false, false, []⟩]
def r38_9 : List Co := [
  ⟨some 23, .binOp .lss 3 (.tmp 22) (.tmp 21) 3, none, false, false, []⟩]
def r38_10 : List Co := [
  ⟨some 24, .indexAddr 126 (.tmp 20) (.tmp 22), none, false, false, []⟩,
  ⟨some 25, .load 40 (.tmp 24), none, false, false, []⟩,
  ⟨some 6, .assign (.tmp 25), none, false, false, []⟩]
def r38_11 : List Co := [
  ⟨some 26, .makeMap 127 none, none, false, false, []⟩,
  ⟨some 7, .assign (.tmp 26), none, false, false, []⟩]
def r38_12 : List Co := [
  ⟨some 27, .move (.tmp 6), none, false, false, []⟩,
  ⟨some 28, .call ⟨.builtin .len, #[(.tmp 27)], #[40]⟩, none, false, false, []⟩,
  ⟨some 29, .move (.const (.int .i64 0)), none, false, false, []⟩]
def r38_13 : List Co := [
  ⟨some 30, .binOp .lss 3 (.tmp 29) (.tmp 28) 3, none, false, false, []⟩]
def r38_14 : List Co := [
  ⟨some 31, .indexAddr 40 (.tmp 27) (.tmp 29), none, false, false, []⟩,
  ⟨some 32, .load 50 (.tmp 31), none, false, false, []⟩,
  ⟨some 9, .alloc 50, none, false, false, []⟩,
  ⟨none, .store 50 (.tmp 9) (.tmp 32), none, false, false, []⟩]
def r38_15 : List Co := [
  ⟨some 33, .load 50 (.tmp 9), none, false, false, []⟩,
  ⟨some 34, .call ⟨.value (.func 44), #[(.tmp 33)], #[50]⟩, none, false, false, []⟩,
  ⟨some 35, .unOp .not 4 (.tmp 34), none, false, false, []⟩,
  ⟨some 36, .move (.tmp 35), none, false, false, []⟩,
  ⟨some 37, .move (.tmp 7), some (36, false), false, false, []⟩,
  ⟨some 38, .load 50 (.tmp 9), some (36, false), false, false, []⟩,
  ⟨some 39, .call ⟨.value (.func 42), #[(.tmp 38)], #[50]⟩, some (36, false), false, false, []⟩,
  ⟨some 40, .lookup 127 (.tmp 37) (.tmp 39) false, some (36, false), false, false, []⟩,
  ⟨some 41, .pick (.tmp 36) (.const (.bool true)) (.tmp 40), none, false, false, []⟩]
def r38_16 : List Co := [
  ⟨some 2, .assign (.const (.int .i64 1)), none, false, false, []⟩]
def r38_17 : List Co := [
  ⟨some 42, .move (.tmp 7), none, false, false, []⟩,
  ⟨some 43, .load 50 (.tmp 9), none, false, false, []⟩,
  ⟨some 44, .call ⟨.value (.func 42), #[(.tmp 43)], #[50]⟩, none, false, false, []⟩,
  ⟨none, .mapUpdate 127 (.tmp 42) (.tmp 44) (.const (.bool true)), none, false, false, []⟩]
def r38_18 : List Co := [
  ⟨some 45, .binOp .add 3 (.tmp 29) (.const (.int .i64 1)) 3, none, false, false, []⟩,
  ⟨some 29, .move (.tmp 45), none, false, false, []⟩]
def l38_19 : Cc := (.seq (.reg r38_13) (.seq (.cond (.tmp 30) .skip (.exit 4)) (.seq (.block 5 (.seq (.reg r38_14) (.seq (.seq (.reg r38_15) (.cond (.tmp 41) (.seq (.reg r38_16) .ret) .skip)) (.reg r38_17)))) (.reg r38_18))))
def r38_20 : List Co := [
  ⟨some 46, .binOp .add 3 (.tmp 22) (.const (.int .i64 1)) 3, none, false, false, []⟩,
  ⟨some 22, .move (.tmp 46), none, false, false, []⟩]
def l38_21 : Cc := (.seq (.reg r38_9) (.seq (.cond (.tmp 23) .skip (.exit 2)) (.seq (.block 3 (.seq (.reg r38_10) (.seq (.reg r38_11) (.seq (.reg r38_12) (.block 4 (.loop l38_19)))))) (.reg r38_20))))
def r38_22 : List Co := [
  ⟨some 2, .assign (.const (.int .i64 0)), none, false, false, []⟩]
/-- wireglass/conv.sums -/
def c38 : Cc := (.seq (.reg r38_0) (.seq (.seq (.reg r38_1) (.block 0 (.loop l38_7))) (.seq (.seq (.reg r38_8) (.block 2 (.loop l38_21))) (.seq (.reg r38_22) .ret))))
def r39_0 : List Co := [
  ⟨some 2, .assign (.const (.slice none 0 0)), none, false, false, []⟩]
def r39_1 : List Co := [
  ⟨some 3, .move (.tmp 0), none, false, false, []⟩,
  ⟨some 4, .binOp .eql 40 (.tmp 3) (.const (.slice none 0 0)) 40, none, false, false, []⟩]
def r39_2 : List Co := [
  ⟨some 2, .assign (.const (.slice none 0 0)), none, false, false, []⟩]
def r39_3 : List Co := [
  ⟨some 5, .buildSlice 40 0 #[], none, false, false, []⟩,
  ⟨some 6, .move (.tmp 0), none, false, false, []⟩,
  ⟨some 7, .call ⟨.builtin .append, #[(.tmp 5), (.tmp 6)], #[40, 40]⟩, none, false, false, []⟩,
  ⟨some 2, .assign (.tmp 7), none, false, false, []⟩]
/-- slices.Clone[[]wireglass/conv.Sum,wireglass/conv.Sum] -/
def c39 : Cc := (.seq (.reg r39_0) (.seq (.seq (.reg r39_1) (.cond (.tmp 4) (.seq (.reg r39_2) .ret) .skip)) (.seq (.reg r39_3) .ret)))
def r40_0 : List Co := [
  ⟨some 4, .assign (.const (.int .i64 0)), none, false, false, []⟩]
def r40_1 : List Co := [
  ⟨some 6, .move (.tmp 0), none, false, false, []⟩,
  ⟨some 7, .call ⟨.builtin .len, #[(.tmp 6)], #[40]⟩, none, false, false, []⟩,
  ⟨some 8, .move (.const (.int .i64 0)), none, false, false, []⟩]
def r40_2 : List Co := [
  ⟨some 9, .binOp .lss 3 (.tmp 8) (.tmp 7) 3, none, false, false, []⟩]
def r40_3 : List Co := [
  ⟨some 10, .move (.tmp 8), none, false, false, []⟩,
  ⟨some 5, .assign (.tmp 10), none, false, false, []⟩]
def r40_4 : List Co := [
  ⟨some 11, .move (.tmp 1), none, false, false, []⟩,
  ⟨some 12, .move (.tmp 0), none, false, false, []⟩,
  ⟨some 13, .move (.tmp 5), none, false, false, []⟩,
  ⟨some 14, .indexAddr 40 (.tmp 12) (.tmp 13), none, false, false, []⟩,
  ⟨some 15, .load 50 (.tmp 14), none, false, false, []⟩,
  ⟨some 16, .call ⟨.value (.tmp 11), #[(.tmp 15)], #[50]⟩, none, false, false, []⟩]
def r40_5 : List Co := [
  ⟨some 17, .move (.tmp 5), none, false, false, []⟩,
  ⟨some 4, .assign (.tmp 17), none, false, false, []⟩]
def r40_6 : List Co := [
  ⟨some 18, .binOp .add 3 (.tmp 8) (.const (.int .i64 1)) 3, none, false, false, []⟩,
  ⟨some 8, .move (.tmp 18), none, false, false, []⟩]
def l40_7 : Cc := (.seq (.reg r40_2) (.seq (.cond (.tmp 9) .skip (.exit 0)) (.seq (.block 1 (.seq (.reg r40_3) (.seq (.reg r40_4) (.cond (.tmp 16) (.seq (.reg r40_5) .ret) .skip)))) (.reg r40_6))))
def r40_8 : List Co := [
  ⟨some 4, .assign (.const (.int .i64 (-1))), none, false, false, []⟩]
/-- slices.IndexFunc[[]wireglass/conv.Sum,wireglass/conv.Sum] -/
def c40 : Cc := (.seq (.reg r40_0) (.seq (.seq (.reg r40_1) (.block 0 (.loop l40_7))) (.seq (.reg r40_8) .ret)))
def r41_0 : List Co := [
  ⟨some 2, .box 50 (.tmp 0), none, false, false, []⟩,
  ⟨some 3, .assign (.const (.bool false)), none, false, false, []⟩]
def r41_1 : List Co := [
  ⟨some 4, .load 50 (.tmp 2), none, false, false, []⟩,
  ⟨some 5, .call ⟨.value (.func 42), #[(.tmp 4)], #[50]⟩, none, true, false, []⟩,
  ⟨some 6, .load 50 (.tmp 1), none, true, true, []⟩,
  ⟨some 7, .call ⟨.value (.func 42), #[(.tmp 6)], #[50]⟩, none, false, false, []⟩,
  ⟨some 8, .binOp .eql 88 (.tmp 5) (.tmp 7) 88, none, false, false, []⟩,
  ⟨some 3, .assign (.tmp 8), none, false, false, []⟩]
/-- wireglass/conv.Add$1 -/
def c41 : Cc := (.seq (.reg r41_0) (.seq (.reg r41_1) .ret))
def r42_0 : List Co := [
  ⟨some 1, .box 50 (.tmp 0), none, false, false, []⟩,
  ⟨some 2, .alloc 88, none, false, false, []⟩]
def r42_1 : List Co := [
  ⟨some 3, .fieldAddr 50 (.tmp 1) 0, none, false, false, []⟩,
  ⟨some 4, .load 3 (.tmp 3), none, false, false, []⟩,
  ⟨some 5, .fieldAddr 50 (.tmp 1) 1, none, false, false, []⟩,
  ⟨some 6, .load 3 (.tmp 5), none, false, false, []⟩,
  ⟨some 7, .fieldAddr 50 (.tmp 1) 2, none, false, false, []⟩,
  ⟨some 8, .load 3 (.tmp 7), none, false, false, []⟩,
  ⟨some 9, .fieldAddr 50 (.tmp 1) 3, none, false, false, []⟩,
  ⟨some 10, .load 3 (.tmp 9), none, false, false, []⟩,
  ⟨some 11, .fieldAddr 50 (.tmp 1) 4, none, false, false, []⟩,
  ⟨some 12, .load 3 (.tmp 11), none, false, false, []⟩,
  ⟨some 13, .build 88 #[(0, (.tmp 4)), (1, (.tmp 6)), (2, (.tmp 8)), (3, (.tmp 10)), (4, (.tmp 12))], none, false, false, []⟩,
  ⟨none, .store 88 (.tmp 2) (.tmp 13), none, false, false, []⟩]
/-- wireglass/conv.placeOfSum -/
def c42 : Cc := (.seq (.reg r42_0) (.seq (.reg r42_1) .ret))
def r43_0 : List Co := [
  ⟨some 2, .box 50 (.tmp 0), none, false, false, []⟩,
  ⟨some 3, .box 50 (.tmp 1), none, false, false, []⟩,
  ⟨some 4, .alloc 50, none, false, false, []⟩]
def r43_1 : List Co := [
  ⟨some 5, .fieldAddr 50 (.tmp 2) 5, none, false, false, []⟩,
  ⟨some 6, .load 3 (.tmp 5), none, false, false, []⟩,
  ⟨some 7, .fieldAddr 50 (.tmp 3) 5, none, false, false, []⟩,
  ⟨some 8, .load 3 (.tmp 7), none, false, false, []⟩,
  ⟨some 9, .binOp .add 3 (.tmp 6) (.tmp 8) 3, none, false, false, []⟩,
  ⟨some 10, .fieldAddr 50 (.tmp 2) 5, none, false, false, []⟩,
  ⟨none, .store 3 (.tmp 10) (.tmp 9), none, false, false, []⟩]
def r43_2 : List Co := [
  ⟨some 11, .fieldAddr 50 (.tmp 2) 6, none, false, false, []⟩,
  ⟨some 12, .load 3 (.tmp 11), none, false, false, []⟩,
  ⟨some 13, .fieldAddr 50 (.tmp 3) 6, none, false, false, []⟩,
  ⟨some 14, .load 3 (.tmp 13), none, false, false, []⟩,
  ⟨some 15, .binOp .add 3 (.tmp 12) (.tmp 14) 3, none, false, false, []⟩,
  ⟨some 16, .fieldAddr 50 (.tmp 2) 6, none, false, false, []⟩,
  ⟨none, .store 3 (.tmp 16) (.tmp 15), none, false, false, []⟩]
def r43_3 : List Co := [
  ⟨some 17, .fieldAddr 50 (.tmp 2) 7, none, false, false, []⟩,
  ⟨some 18, .load 3 (.tmp 17), none, false, false, []⟩,
  ⟨some 19, .fieldAddr 50 (.tmp 3) 7, none, false, false, []⟩,
  ⟨some 20, .load 3 (.tmp 19), none, false, false, []⟩,
  ⟨some 21, .binOp .add 3 (.tmp 18) (.tmp 20) 3, none, false, false, []⟩,
  ⟨some 22, .fieldAddr 50 (.tmp 2) 7, none, false, false, []⟩,
  ⟨none, .store 3 (.tmp 22) (.tmp 21), none, false, false, []⟩]
def r43_4 : List Co := [
  ⟨some 23, .fieldAddr 50 (.tmp 2) 8, none, false, false, []⟩,
  ⟨some 24, .load 3 (.tmp 23), none, false, false, []⟩,
  ⟨some 25, .fieldAddr 50 (.tmp 3) 8, none, false, false, []⟩,
  ⟨some 26, .load 3 (.tmp 25), none, false, false, []⟩,
  ⟨some 27, .binOp .add 3 (.tmp 24) (.tmp 26) 3, none, false, false, []⟩,
  ⟨some 28, .fieldAddr 50 (.tmp 2) 8, none, false, false, []⟩,
  ⟨none, .store 3 (.tmp 28) (.tmp 27), none, false, false, []⟩]
def r43_5 : List Co := [
  ⟨some 29, .fieldAddr 50 (.tmp 2) 9, none, false, false, []⟩,
  ⟨some 30, .load 3 (.tmp 29), none, false, false, []⟩,
  ⟨some 31, .fieldAddr 50 (.tmp 3) 9, none, false, false, []⟩,
  ⟨some 32, .load 3 (.tmp 31), none, false, false, []⟩,
  ⟨some 33, .call ⟨.builtin .min, #[(.tmp 30), (.tmp 32)], #[3, 3]⟩, none, false, false, []⟩,
  ⟨some 34, .fieldAddr 50 (.tmp 2) 10, none, false, false, []⟩,
  ⟨some 35, .load 3 (.tmp 34), none, false, false, []⟩,
  ⟨some 36, .fieldAddr 50 (.tmp 3) 10, none, false, false, []⟩,
  ⟨some 37, .load 3 (.tmp 36), none, false, false, []⟩,
  ⟨some 38, .call ⟨.builtin .max, #[(.tmp 35), (.tmp 37)], #[3, 3]⟩, none, false, false, []⟩,
  ⟨some 39, .fieldAddr 50 (.tmp 2) 9, none, false, false, []⟩,
  ⟨none, .store 3 (.tmp 39) (.tmp 33), none, false, false, [(none, .load 3 (.tmp 36))]⟩,
  ⟨some 40, .fieldAddr 50 (.tmp 2) 10, none, false, false, []⟩,
  ⟨none, .store 3 (.tmp 40) (.tmp 38), none, false, false, []⟩]
def r43_6 : List Co := [
  ⟨some 41, .load 50 (.tmp 2), none, false, false, []⟩,
  ⟨none, .store 50 (.tmp 4) (.tmp 41), none, false, false, []⟩]
/-- wireglass/conv.added -/
def c43 : Cc := (.seq (.reg r43_0) (.seq (.reg r43_1) (.seq (.reg r43_2) (.seq (.reg r43_3) (.seq (.reg r43_4) (.seq (.reg r43_5) (.seq (.reg r43_6) .ret)))))))
def r44_0 : List Co := [
  ⟨some 1, .box 50 (.tmp 0), none, false, false, []⟩,
  ⟨some 2, .assign (.const (.bool false)), none, false, false, []⟩]
def r44_1 : List Co := [
  ⟨some 4, .fieldAddr 50 (.tmp 1) 0, none, false, false, []⟩,
  ⟨some 5, .load 3 (.tmp 4), none, false, false, []⟩,
  ⟨some 6, .fieldAddr 50 (.tmp 1) 1, none, false, false, []⟩,
  ⟨some 7, .load 3 (.tmp 6), none, false, false, []⟩,
  ⟨some 8, .fieldAddr 50 (.tmp 1) 2, none, false, false, []⟩,
  ⟨some 9, .load 3 (.tmp 8), none, false, false, []⟩,
  ⟨some 10, .fieldAddr 50 (.tmp 1) 3, none, false, false, []⟩,
  ⟨some 11, .load 3 (.tmp 10), none, false, false, []⟩,
  ⟨some 12, .fieldAddr 50 (.tmp 1) 4, none, false, false, []⟩,
  ⟨some 13, .load 3 (.tmp 12), none, false, false, []⟩,
  ⟨some 14, .fieldAddr 50 (.tmp 1) 5, none, false, false, []⟩,
  ⟨some 15, .load 3 (.tmp 14), none, false, false, []⟩,
  ⟨some 16, .fieldAddr 50 (.tmp 1) 6, none, false, false, []⟩,
  ⟨some 17, .load 3 (.tmp 16), none, false, false, []⟩,
  ⟨some 18, .fieldAddr 50 (.tmp 1) 7, none, false, false, []⟩,
  ⟨some 19, .load 3 (.tmp 18), none, false, false, []⟩,
  ⟨some 20, .fieldAddr 50 (.tmp 1) 8, none, false, false, []⟩,
  ⟨some 21, .load 3 (.tmp 20), none, false, false, []⟩,
  ⟨some 22, .fieldAddr 50 (.tmp 1) 9, none, false, false, []⟩,
  ⟨some 23, .load 3 (.tmp 22), none, false, false, []⟩,
  ⟨some 24, .fieldAddr 50 (.tmp 1) 10, none, false, false, []⟩,
  ⟨some 25, .load 3 (.tmp 24), none, false, false, []⟩,
  ⟨some 26, .buildSlice 22 11 #[(0, (.tmp 5)), (1, (.tmp 7)), (2, (.tmp 9)), (3, (.tmp 11)), (4, (.tmp 13)), (5, (.tmp 15)), (6, (.tmp 17)), (7, (.tmp 19)), (8, (.tmp 21)), (9, (.tmp 23)), (10, (.tmp 25))], none, false, false, []⟩,
  ⟨some 3, .assign (.tmp 26), none, false, false, []⟩]
def r44_2 : List Co := [
  ⟨some 27, .move (.tmp 3), none, false, false, []⟩,
  ⟨some 28, .call ⟨.value (.func 70), #[(.tmp 27), (.func 71)], #[22, 129]⟩, none, false, false, []⟩,
  ⟨some 29, .unOp .not 4 (.tmp 28), none, false, false, []⟩,
  ⟨some 30, .move (.tmp 29), none, false, false, []⟩,
  ⟨some 31, .fieldAddr 50 (.tmp 1) 0, some (30, true), false, false, []⟩,
  ⟨some 32, .load 3 (.tmp 31), some (30, true), false, false, []⟩,
  ⟨some 33, .fieldAddr 50 (.tmp 1) 2, some (30, true), false, false, []⟩,
  ⟨some 34, .load 3 (.tmp 33), some (30, true), false, false, []⟩,
  ⟨some 35, .call ⟨.value (.func 51), #[(.tmp 32), (.tmp 34)], #[3, 3]⟩, some (30, true), true, false, []⟩,
  ⟨some 36, .fieldAddr 50 (.tmp 1) 1, some (30, true), true, false, []⟩,
  ⟨some 37, .load 3 (.tmp 36), some (30, true), true, true, []⟩,
  ⟨some 38, .fieldAddr 50 (.tmp 1) 3, some (30, true), true, false, []⟩,
  ⟨some 39, .load 3 (.tmp 38), some (30, true), true, true, []⟩,
  ⟨some 40, .call ⟨.value (.func 51), #[(.tmp 37), (.tmp 39)], #[3, 3]⟩, some (30, true), false, false, []⟩,
  ⟨some 41, .buildSlice 22 2 #[(0, (.tmp 35)), (1, (.tmp 40))], some (30, true), false, false, []⟩,
  ⟨some 42, .call ⟨.value (.func 58), #[(.tmp 41)], #[22]⟩, some (30, true), false, false, []⟩,
  ⟨some 43, .binOp .leq 3 (.tmp 42) (.const (.int .i64 0)) 3, some (30, true), false, false, []⟩,
  ⟨some 44, .pick (.tmp 30) (.tmp 43) (.const (.bool false)), none, false, false, []⟩,
  ⟨some 2, .assign (.tmp 44), none, false, false, []⟩]
/-- wireglass/conv.isSum -/
def c44 : Cc := (.seq (.reg r44_0) (.seq (.reg r44_1) (.seq (.reg r44_2) .ret)))
def r45_0 : List Co := [
  ⟨some 2, .assign (.const (.int .i64 0)), none, false, false, []⟩]
def r45_1 : List Co := [
  ⟨some 7, .move (.tmp 0), none, false, false, []⟩,
  ⟨some 8, .call ⟨.builtin .len, #[(.tmp 7)], #[37]⟩, none, false, false, []⟩,
  ⟨some 9, .binOp .gtr 3 (.tmp 8) (.const (.int .i64 200)) 3, none, false, false, []⟩]
def r45_2 : List Co := [
  ⟨some 2, .assign (.const (.int .i64 3)), none, false, false, []⟩]
def r45_3 : List Co := [
  ⟨some 3, .assign (.const (.int .i64 0)), none, false, false, []⟩]
def r45_4 : List Co := [
  ⟨some 10, .move (.tmp 3), none, false, false, []⟩,
  ⟨some 11, .move (.tmp 0), none, false, false, []⟩,
  ⟨some 12, .call ⟨.builtin .len, #[(.tmp 11)], #[37]⟩, none, false, false, []⟩,
  ⟨some 13, .binOp .lss 3 (.tmp 10) (.tmp 12) 3, none, false, false, []⟩]
def r45_5 : List Co := [
  ⟨some 16, .move (.tmp 0), none, false, false, []⟩,
  ⟨some 17, .move (.tmp 3), none, false, false, []⟩,
  ⟨some 18, .indexAddr 37 (.tmp 16) (.tmp 17), none, false, false, []⟩,
  ⟨some 19, .load 80 (.tmp 18), none, false, false, []⟩,
  ⟨some 20, .call ⟨.value (.func 72), #[(.tmp 19)], #[80]⟩, none, false, false, []⟩,
  ⟨some 4, .assign (.tmp 20), none, false, false, []⟩]
def r45_6 : List Co := [
  ⟨some 5, .assign (.const (.int .i64 0)), none, false, false, []⟩]
def r45_7 : List Co := [
  ⟨some 21, .move (.tmp 5), none, false, false, []⟩,
  ⟨some 22, .move (.tmp 4), none, false, false, []⟩,
  ⟨some 23, .call ⟨.builtin .len, #[(.tmp 22)], #[22]⟩, none, false, false, []⟩,
  ⟨some 24, .binOp .lss 3 (.tmp 21) (.tmp 23) 3, none, false, false, []⟩]
def r45_8 : List Co := [
  ⟨some 27, .move (.tmp 4), none, false, false, []⟩,
  ⟨some 28, .move (.tmp 5), none, false, false, []⟩,
  ⟨some 29, .indexAddr 22 (.tmp 27) (.tmp 28), none, false, false, []⟩,
  ⟨some 30, .load 3 (.tmp 29), none, false, false, []⟩,
  ⟨some 31, .call ⟨.value (.func 34), #[(.tmp 30), (.const (.int .i64 4503599627370496))], #[3, 3]⟩, none, false, false, []⟩,
  ⟨some 32, .unOp .not 4 (.tmp 31), none, false, false, []⟩]
def r45_9 : List Co := [
  ⟨some 2, .assign (.const (.int .i64 1)), none, false, false, []⟩]
def r45_10 : List Co := [
  ⟨some 25, .move (.tmp 5), none, false, false, []⟩,
  ⟨some 26, .binOp .add 3 (.tmp 25) (.const (.int .i64 1)) 3, none, false, false, []⟩,
  ⟨some 5, .assign (.tmp 26), none, false, false, []⟩]
def l45_11 : Cc := (.seq (.seq (.reg r45_7) (.cond (.tmp 24) .skip (.exit 2))) (.seq (.block 3 (.seq (.reg r45_8) (.cond (.tmp 32) (.seq (.reg r45_9) .ret) .skip))) (.reg r45_10)))
def r45_12 : List Co := [
  ⟨some 33, .move (.tmp 0), none, false, false, []⟩,
  ⟨some 34, .move (.tmp 3), none, false, false, []⟩,
  ⟨some 35, .indexAddr 37 (.tmp 33) (.tmp 34), none, false, false, []⟩,
  ⟨some 36, .load 80 (.tmp 35), none, false, false, []⟩,
  ⟨some 6, .alloc 80, none, false, false, []⟩,
  ⟨none, .store 80 (.tmp 6) (.tmp 36), none, false, false, []⟩]
def r45_13 : List Co := [
  ⟨some 37, .fieldAddr 80 (.tmp 6) 0, none, false, false, []⟩,
  ⟨some 38, .load 3 (.tmp 37), none, false, false, []⟩,
  ⟨some 39, .fieldAddr 80 (.tmp 6) 2, none, false, false, []⟩,
  ⟨some 40, .load 3 (.tmp 39), none, false, false, []⟩,
  ⟨some 41, .binOp .gtr 3 (.tmp 38) (.tmp 40) 3, none, false, false, []⟩,
  ⟨some 42, .move (.tmp 41), none, false, false, []⟩,
  ⟨some 43, .fieldAddr 80 (.tmp 6) 0, some (42, false), false, false, []⟩,
  ⟨some 44, .load 3 (.tmp 43), some (42, false), false, false, []⟩,
  ⟨some 45, .fieldAddr 80 (.tmp 6) 2, some (42, false), false, false, []⟩,
  ⟨some 46, .load 3 (.tmp 45), some (42, false), false, false, []⟩,
  ⟨some 47, .binOp .eql 3 (.tmp 44) (.tmp 46) 3, some (42, false), false, false, []⟩,
  ⟨some 48, .move (.tmp 47), some (42, false), false, false, []⟩,
  ⟨some 49, .fieldAddr 80 (.tmp 6) 1, some (48, true), false, false, []⟩,
  ⟨some 50, .load 3 (.tmp 49), some (48, true), false, false, []⟩,
  ⟨some 51, .fieldAddr 80 (.tmp 6) 3, some (48, true), false, false, []⟩,
  ⟨some 52, .load 3 (.tmp 51), some (48, true), false, false, []⟩,
  ⟨some 53, .binOp .gtr 3 (.tmp 50) (.tmp 52) 3, some (48, true), false, false, []⟩,
  ⟨some 54, .pick (.tmp 48) (.tmp 53) (.const (.bool false)), some (42, false), false, false, []⟩,
  ⟨some 55, .pick (.tmp 42) (.const (.bool true)) (.tmp 54), none, false, false, []⟩,
  ⟨some 56, .move (.tmp 55), none, false, false, []⟩,
  ⟨some 57, .move (.tmp 0), some (56, false), false, false, []⟩,
  ⟨some 58, .load 80 (.tmp 6), some (56, false), false, false, []⟩,
  ⟨some 59, .call ⟨.value (.func 46), #[(.tmp 58)], #[80]⟩, some (56, false), false, false, []⟩,
  ⟨some 60, .call ⟨.value (.func 37), #[(.tmp 57), (.tmp 59)], #[37, 81]⟩, some (56, false), false, false, []⟩,
  ⟨some 61, .move (.tmp 3), some (56, false), false, false, []⟩,
  ⟨some 62, .binOp .neq 3 (.tmp 60) (.tmp 61) 3, some (56, false), false, false, []⟩,
  ⟨some 63, .pick (.tmp 56) (.const (.bool true)) (.tmp 62), none, false, false, []⟩]
def r45_14 : List Co := [
  ⟨some 2, .assign (.const (.int .i64 1)), none, false, false, []⟩]
def r45_15 : List Co := [
  ⟨some 14, .move (.tmp 3), none, false, false, []⟩,
  ⟨some 15, .binOp .add 3 (.tmp 14) (.const (.int .i64 1)) 3, none, false, false, []⟩,
  ⟨some 3, .assign (.tmp 15), none, false, false, []⟩]
def l45_16 : Cc := (.seq (.seq (.reg r45_4) (.cond (.tmp 13) .skip (.exit 0))) (.seq (.block 1 (.seq (.reg r45_5) (.seq (.seq (.reg r45_6) (.block 2 (.loop l45_11))) (.seq (.reg r45_12) (.seq (.reg r45_13) (.cond (.tmp 63) (.seq (.reg r45_14) .ret) .skip)))))) (.reg r45_15)))
def r45_17 : List Co := [
  ⟨some 2, .assign (.const (.int .i64 0)), none, false, false, []⟩]
/-- wireglass/wireglassref20.asked -/
def c45 : Cc := (.seq (.reg r45_0) (.seq (.seq (.reg r45_1) (.cond (.tmp 9) (.seq (.reg r45_2) .ret) .skip)) (.seq (.seq (.reg r45_3) (.block 0 (.loop l45_16))) (.seq (.reg r45_17) .ret))))
def r46_0 : List Co := [
  ⟨some 1, .box 80 (.tmp 0), none, false, false, []⟩,
  ⟨some 2, .alloc 81, none, false, false, []⟩]
def r46_1 : List Co := [
  ⟨some 3, .fieldAddr 80 (.tmp 1) 0, none, false, false, []⟩,
  ⟨some 4, .load 3 (.tmp 3), none, false, false, []⟩,
  ⟨some 5, .fieldAddr 80 (.tmp 1) 1, none, false, false, []⟩,
  ⟨some 6, .load 3 (.tmp 5), none, false, false, []⟩,
  ⟨some 7, .fieldAddr 80 (.tmp 1) 2, none, false, false, []⟩,
  ⟨some 8, .load 3 (.tmp 7), none, false, false, []⟩,
  ⟨some 9, .fieldAddr 80 (.tmp 1) 3, none, false, false, []⟩,
  ⟨some 10, .load 3 (.tmp 9), none, false, false, []⟩,
  ⟨some 11, .fieldAddr 80 (.tmp 1) 4, none, false, false, []⟩,
  ⟨some 12, .load 3 (.tmp 11), none, false, false, []⟩,
  ⟨some 13, .build 81 #[(0, (.tmp 4)), (1, (.tmp 6)), (2, (.tmp 8)), (3, (.tmp 10)), (4, (.tmp 12))], none, false, false, []⟩,
  ⟨none, .store 81 (.tmp 2) (.tmp 13), none, false, false, []⟩]
/-- wireglass/wireglassref20.key -/
def c46 : Cc := (.seq (.reg r46_0) (.seq (.reg r46_1) .ret))
def r51_0 : List Co := [
  ⟨some 4, .assign (.const (.int .i64 0)), none, false, false, []⟩]
def r51_1 : List Co := [
  ⟨some 7, .move (.tmp 0), none, false, false, []⟩,
  ⟨some 8, .call ⟨.value (.func 74), #[(.tmp 7)], #[3]⟩, none, false, false, []⟩,
  ⟨some 5, .assign (.tmp 8), none, false, false, []⟩]
def r51_2 : List Co := [
  ⟨some 9, .move (.tmp 1), none, false, false, []⟩,
  ⟨some 10, .call ⟨.value (.func 74), #[(.tmp 9)], #[3]⟩, none, false, false, []⟩,
  ⟨some 6, .assign (.tmp 10), none, false, false, []⟩]
def r51_3 : List Co := [
  ⟨some 11, .move (.tmp 5), none, false, false, []⟩]
def r51_4 : List Co := [
  ⟨some 12, .move (.tmp 6), none, false, false, []⟩]
def r51_5 : List Co := [
  ⟨some 4, .assign (.const (.int .i64 0)), none, false, false, []⟩]
def r51_6 : List Co := [
  ⟨some 4, .assign (.const (.int .i64 (-1))), none, false, false, []⟩]
def r51_7 : List Co := [
  ⟨some 13, .move (.tmp 6), none, false, false, []⟩]
def r51_8 : List Co := [
  ⟨some 4, .assign (.const (.int .i64 1)), none, false, false, []⟩]
def r51_9 : List Co := [
  ⟨some 14, .move (.tmp 0), none, false, false, []⟩,
  ⟨some 15, .move (.tmp 1), none, false, false, []⟩,
  ⟨some 16, .binOp .lss 3 (.tmp 14) (.tmp 15) 3, none, false, false, []⟩]
def r51_10 : List Co := [
  ⟨some 4, .assign (.const (.int .i64 (-1))), none, false, false, []⟩]
def r51_11 : List Co := [
  ⟨some 17, .move (.tmp 0), none, false, false, []⟩,
  ⟨some 18, .move (.tmp 1), none, false, false, []⟩,
  ⟨some 19, .binOp .gtr 3 (.tmp 17) (.tmp 18) 3, none, false, false, []⟩]
def r51_12 : List Co := [
  ⟨some 4, .assign (.const (.int .i64 1)), none, false, false, []⟩]
def r51_13 : List Co := [
  ⟨some 4, .assign (.const (.int .i64 0)), none, false, false, []⟩]
/-- cmp.Compare[int] -/
def c51 : Cc := (.seq (.reg r51_0) (.seq (.reg r51_1) (.seq (.reg r51_2) (.seq (.seq (.reg r51_3) (.cond (.tmp 11) (.seq (.seq (.reg r51_4) (.cond (.tmp 12) (.seq (.reg r51_5) .ret) .skip)) (.seq (.reg r51_6) .ret)) .skip)) (.seq (.seq (.reg r51_7) (.cond (.tmp 13) (.seq (.reg r51_8) .ret) .skip)) (.seq (.seq (.reg r51_9) (.cond (.tmp 16) (.seq (.reg r51_10) .ret) .skip)) (.seq (.seq (.reg r51_11) (.cond (.tmp 19) (.seq (.reg r51_12) .ret) .skip)) (.seq (.reg r51_13) .ret))))))))
def r58_0 : List Co := [
  ⟨some 2, .assign (.const (.int .i64 0)), none, false, false, []⟩]
def r58_1 : List Co := [
  ⟨some 3, .assign (.const (.int .i64 0)), none, false, false, []⟩]
def r58_2 : List Co := [
  ⟨some 6, .move (.tmp 0), none, false, false, []⟩,
  ⟨some 7, .call ⟨.builtin .len, #[(.tmp 6)], #[22]⟩, none, false, false, []⟩,
  ⟨some 8, .move (.const (.int .i64 0)), none, false, false, []⟩]
def r58_3 : List Co := [
  ⟨some 9, .binOp .lss 3 (.tmp 8) (.tmp 7) 3, none, false, false, []⟩]
def r58_4 : List Co := [
  ⟨some 10, .indexAddr 22 (.tmp 6) (.tmp 8), none, false, false, []⟩,
  ⟨some 11, .load 3 (.tmp 10), none, false, false, []⟩,
  ⟨some 5, .assign (.tmp 11), none, false, false, []⟩]
def r58_5 : List Co := [
  ⟨some 12, .move (.tmp 5), none, false, false, []⟩,
  ⟨some 13, .move (.tmp 3), none, false, false, []⟩,
  ⟨some 14, .binOp .neq 3 (.tmp 12) (.tmp 13) 3, none, false, false, []⟩]
def r58_6 : List Co := [
  ⟨some 15, .move (.tmp 5), none, false, false, []⟩,
  ⟨some 2, .assign (.tmp 15), none, false, false, []⟩]
def r58_7 : List Co := [
  ⟨some 16, .binOp .add 3 (.tmp 8) (.const (.int .i64 1)) 3, none, false, false, []⟩,
  ⟨some 8, .move (.tmp 16), none, false, false, []⟩]
def l58_8 : Cc := (.seq (.reg r58_3) (.seq (.cond (.tmp 9) .skip (.exit 0)) (.seq (.block 1 (.seq (.reg r58_4) (.seq (.reg r58_5) (.cond (.tmp 14) (.seq (.reg r58_6) .ret) .skip)))) (.reg r58_7))))
def r58_9 : List Co := [
  ⟨some 17, .move (.tmp 3), none, false, false, []⟩,
  ⟨some 2, .assign (.tmp 17), none, false, false, []⟩]
/-- cmp.Or[int] -/
def c58 : Cc := (.seq (.reg r58_0) (.seq (.reg r58_1) (.seq (.seq (.reg r58_2) (.block 0 (.loop l58_8))) (.seq (.reg r58_9) .ret))))
def r70_0 : List Co := [
  ⟨some 3, .box 129 (.tmp 1), none, false, false, []⟩,
  ⟨some 4, .assign (.const (.bool false)), none, false, false, []⟩]
def r70_1 : List Co := [
  ⟨some 5, .move (.tmp 0), none, false, false, []⟩,
  ⟨some 6, .makeFunc (.func 88) #[] #[(.tmp 3)], none, false, false, []⟩,
  ⟨some 7, .call ⟨.value (.func 87), #[(.tmp 5), (.tmp 6)], #[22, 129]⟩, none, false, false, []⟩,
  ⟨some 4, .assign (.tmp 7), none, false, false, []⟩]
/-- wireglass/conv.wrong[int] -/
def c70 : Cc := (.seq (.reg r70_0) (.seq (.reg r70_1) .ret))
def r71_0 : List Co := [
  ⟨some 2, .assign (.const (.bool false)), none, false, false, []⟩]
def r71_1 : List Co := [
  ⟨some 3, .move (.tmp 0), none, false, false, []⟩,
  ⟨some 4, .call ⟨.value (.func 33), #[(.tmp 3), (.const (.int .i64 4503599627370496))], #[3, 3]⟩, none, false, false, []⟩,
  ⟨some 2, .assign (.tmp 4), none, false, false, []⟩]
/-- wireglass/conv.isSum$1 -/
def c71 : Cc := (.seq (.reg r71_0) (.seq (.reg r71_1) .ret))
def r72_0 : List Co := [
  ⟨some 1, .box 80 (.tmp 0), none, false, false, []⟩,
  ⟨some 2, .assign (.const (.slice none 0 0)), none, false, false, []⟩]
def r72_1 : List Co := [
  ⟨some 3, .fieldAddr 80 (.tmp 1) 0, none, false, false, []⟩,
  ⟨some 4, .load 3 (.tmp 3), none, false, false, []⟩,
  ⟨some 5, .fieldAddr 80 (.tmp 1) 1, none, false, false, []⟩,
  ⟨some 6, .load 3 (.tmp 5), none, false, false, []⟩,
  ⟨some 7, .fieldAddr 80 (.tmp 1) 2, none, false, false, []⟩,
  ⟨some 8, .load 3 (.tmp 7), none, false, false, []⟩,
  ⟨some 9, .fieldAddr 80 (.tmp 1) 3, none, false, false, []⟩,
  ⟨some 10, .load 3 (.tmp 9), none, false, false, []⟩,
  ⟨some 11, .fieldAddr 80 (.tmp 1) 4, none, false, false, []⟩,
  ⟨some 12, .load 3 (.tmp 11), none, false, false, []⟩,
  ⟨some 13, .fieldAddr 80 (.tmp 1) 5, none, false, false, []⟩,
  ⟨some 14, .load 3 (.tmp 13), none, false, false, []⟩,
  ⟨some 15, .fieldAddr 80 (.tmp 1) 6, none, false, false, []⟩,
  ⟨some 16, .load 3 (.tmp 15), none, false, false, []⟩,
  ⟨some 17, .fieldAddr 80 (.tmp 1) 7, none, false, false, []⟩,
  ⟨some 18, .load 3 (.tmp 17), none, false, false, []⟩,
  ⟨some 19, .fieldAddr 80 (.tmp 1) 8, none, false, false, []⟩,
  ⟨some 20, .load 3 (.tmp 19), none, false, false, []⟩,
  ⟨some 21, .fieldAddr 80 (.tmp 1) 9, none, false, false, []⟩,
  ⟨some 22, .load 3 (.tmp 21), none, false, false, []⟩,
  ⟨some 23, .fieldAddr 80 (.tmp 1) 10, none, false, false, []⟩,
  ⟨some 24, .load 3 (.tmp 23), none, false, false, []⟩,
  ⟨some 25, .buildSlice 22 11 #[(0, (.tmp 4)), (1, (.tmp 6)), (2, (.tmp 8)), (3, (.tmp 10)), (4, (.tmp 12)), (5, (.tmp 14)), (6, (.tmp 16)), (7, (.tmp 18)), (8, (.tmp 20)), (9, (.tmp 22)), (10, (.tmp 24))], none, false, false, []⟩,
  ⟨some 2, .assign (.tmp 25), none, false, false, []⟩]
/-- wireglass/wireglassref20.numbers -/
def c72 : Cc := (.seq (.reg r72_0) (.seq (.reg r72_1) .ret))
def r74_0 : List Co := [
  ⟨some 2, .assign (.const (.bool false)), none, false, false, []⟩]
def r74_1 : List Co := [
  ⟨some 3, .move (.tmp 0), none, false, false, []⟩,
  ⟨some 4, .move (.tmp 0), none, false, false, []⟩,
  ⟨some 5, .binOp .neq 3 (.tmp 3) (.tmp 4) 3, none, false, false, []⟩,
  ⟨some 2, .assign (.tmp 5), none, false, false, []⟩]
/-- cmp.isNaN[int] -/
def c74 : Cc := (.seq (.reg r74_0) (.seq (.reg r74_1) .ret))
def r87_0 : List Co := [
  ⟨some 4, .assign (.const (.bool false)), none, false, false, []⟩]
def r87_1 : List Co := [
  ⟨some 5, .move (.tmp 0), none, false, false, []⟩,
  ⟨some 6, .move (.tmp 1), none, false, false, []⟩,
  ⟨some 7, .call ⟨.value (.func 106), #[(.tmp 5), (.tmp 6)], #[22, 129]⟩, none, false, false, []⟩,
  ⟨some 8, .binOp .geq 3 (.tmp 7) (.const (.int .i64 0)) 3, none, false, false, []⟩,
  ⟨some 4, .assign (.tmp 8), none, false, false, []⟩]
/-- slices.ContainsFunc[[]int,int] -/
def c87 : Cc := (.seq (.reg r87_0) (.seq (.reg r87_1) .ret))
def r88_0 : List Co := [
  ⟨some 3, .assign (.const (.bool false)), none, false, false, []⟩]
def r88_1 : List Co := [
  ⟨some 4, .load 129 (.tmp 1), none, false, false, []⟩,
  ⟨some 5, .move (.tmp 0), none, false, false, []⟩,
  ⟨some 6, .call ⟨.value (.tmp 4), #[(.tmp 5)], #[3]⟩, none, false, false, []⟩,
  ⟨some 7, .unOp .not 4 (.tmp 6), none, false, false, []⟩,
  ⟨some 3, .assign (.tmp 7), none, false, false, []⟩]
/-- wireglass/conv.wrong[int]$1 -/
def c88 : Cc := (.seq (.reg r88_0) (.seq (.reg r88_1) .ret))
def r106_0 : List Co := [
  ⟨some 4, .assign (.const (.int .i64 0)), none, false, false, []⟩]
def r106_1 : List Co := [
  ⟨some 6, .move (.tmp 0), none, false, false, []⟩,
  ⟨some 7, .call ⟨.builtin .len, #[(.tmp 6)], #[22]⟩, none, false, false, []⟩,
  ⟨some 8, .move (.const (.int .i64 0)), none, false, false, []⟩]
def r106_2 : List Co := [
  ⟨some 9, .binOp .lss 3 (.tmp 8) (.tmp 7) 3, none, false, false, []⟩]
def r106_3 : List Co := [
  ⟨some 10, .move (.tmp 8), none, false, false, []⟩,
  ⟨some 5, .assign (.tmp 10), none, false, false, []⟩]
def r106_4 : List Co := [
  ⟨some 11, .move (.tmp 1), none, false, false, []⟩,
  ⟨some 12, .move (.tmp 0), none, false, false, []⟩,
  ⟨some 13, .move (.tmp 5), none, false, false, []⟩,
  ⟨some 14, .indexAddr 22 (.tmp 12) (.tmp 13), none, false, false, []⟩,
  ⟨some 15, .load 3 (.tmp 14), none, false, false, []⟩,
  ⟨some 16, .call ⟨.value (.tmp 11), #[(.tmp 15)], #[3]⟩, none, false, false, []⟩]
def r106_5 : List Co := [
  ⟨some 17, .move (.tmp 5), none, false, false, []⟩,
  ⟨some 4, .assign (.tmp 17), none, false, false, []⟩]
def r106_6 : List Co := [
  ⟨some 18, .binOp .add 3 (.tmp 8) (.const (.int .i64 1)) 3, none, false, false, []⟩,
  ⟨some 8, .move (.tmp 18), none, false, false, []⟩]
def l106_7 : Cc := (.seq (.reg r106_2) (.seq (.cond (.tmp 9) .skip (.exit 0)) (.seq (.block 1 (.seq (.reg r106_3) (.seq (.reg r106_4) (.cond (.tmp 16) (.seq (.reg r106_5) .ret) .skip)))) (.reg r106_6))))
def r106_8 : List Co := [
  ⟨some 4, .assign (.const (.int .i64 (-1))), none, false, false, []⟩]
/-- slices.IndexFunc[[]int,int] -/
def c106 : Cc := (.seq (.reg r106_0) (.seq (.seq (.reg r106_1) (.block 0 (.loop l106_7))) (.seq (.reg r106_8) .ret)))
def rs4 : List ResultVar := [.tmp 6]
set_option maxRecDepth 100000 in
theorem run4 {args : List V} {H : Hp} {R : V → Hp → Prop} (ha : args.length ≤ 91) (h : Wp Try.prog (callL Try.prog pr) 91 c4 args [] H (RetQ Try.prog rs4 R)) : ∃ v H', R v H' ∧ callL Try.prog pr 4 args H = some (gcC H (v, H')) :=
  call_of (fn := Try.f4) rfl Try.func4 rfl (by kernel_rfl) rfl (Nat.max_eq_right ha) h
def rs13 : List ResultVar := [.tmp 2]
set_option maxRecDepth 100000 in
theorem run13 {args : List V} {H : Hp} {R : V → Hp → Prop} (ha : args.length ≤ 19) (h : Wp Try.prog (callL Try.prog pr) 19 c13 args [] H (RetQ Try.prog rs13 R)) : ∃ v H', R v H' ∧ callL Try.prog pr 13 args H = some (gcC H (v, H')) :=
  call_of (fn := Try.f13) rfl Try.func13 rfl (by kernel_rfl) rfl (Nat.max_eq_right ha) h
def rs14 : List ResultVar := [.tmp 4]
set_option maxRecDepth 100000 in
theorem run14 {args : List V} {H : Hp} {R : V → Hp → Prop} (ha : args.length ≤ 119) (h : Wp Try.prog (callL Try.prog pr) 119 c14 args [] H (RetQ Try.prog rs14 R)) : ∃ v H', R v H' ∧ callL Try.prog pr 14 args H = some (gcC H (v, H')) :=
  call_of (fn := Try.f14) rfl Try.func14 rfl (by kernel_rfl) rfl (Nat.max_eq_right ha) h
def rs15 : List ResultVar := [.tmp 2]
set_option maxRecDepth 100000 in
theorem run15 {args : List V} {H : Hp} {R : V → Hp → Prop} (ha : args.length ≤ 107) (h : Wp Try.prog (callL Try.prog pr) 107 c15 args [] H (RetQ Try.prog rs15 R)) : ∃ v H', R v H' ∧ callL Try.prog pr 15 args H = some (gcC H (v, H')) :=
  call_of (fn := Try.f15) rfl Try.func15 rfl (by kernel_rfl) rfl (Nat.max_eq_right ha) h
def rs16 : List ResultVar := [.tmp 4, .tmp 5]
set_option maxRecDepth 100000 in
theorem run16 {args : List V} {H : Hp} {R : V → Hp → Prop} (ha : args.length ≤ 52) (h : Wp Try.prog (callL Try.prog pr) 52 c16 args [] H (RetQ Try.prog rs16 R)) : ∃ v H', R v H' ∧ callL Try.prog pr 16 args H = some (gcC H (v, H')) :=
  call_of (fn := Try.f16) rfl Try.func16 rfl (by kernel_rfl) rfl (Nat.max_eq_right ha) h
def rs17 : List ResultVar := [.tmp 2]
set_option maxRecDepth 100000 in
theorem run17 {args : List V} {H : Hp} {R : V → Hp → Prop} (ha : args.length ≤ 19) (h : Wp Try.prog (callL Try.prog pr) 19 c17 args [] H (RetQ Try.prog rs17 R)) : ∃ v H', R v H' ∧ callL Try.prog pr 17 args H = some (gcC H (v, H')) :=
  call_of (fn := Try.f17) rfl Try.func17 rfl (by kernel_rfl) rfl (Nat.max_eq_right ha) h
def rs18 : List ResultVar := [.tmp 4, .tmp 5]
set_option maxRecDepth 100000 in
theorem run18 {args : List V} {H : Hp} {R : V → Hp → Prop} (ha : args.length ≤ 149) (h : Wp Try.prog (callL Try.prog pr) 149 c18 args [] H (RetQ Try.prog rs18 R)) : ∃ v H', R v H' ∧ callL Try.prog pr 18 args H = some (gcC H (v, H')) :=
  call_of (fn := Try.f18) rfl Try.func18 rfl (by kernel_rfl) rfl (Nat.max_eq_right ha) h
def rs19 : List ResultVar := [.tmp 4]
set_option maxRecDepth 100000 in
theorem run19 {args : List V} {H : Hp} {R : V → Hp → Prop} (ha : args.length ≤ 26) (h : Wp Try.prog (callL Try.prog pr) 26 c19 args [] H (RetQ Try.prog rs19 R)) : ∃ v H', R v H' ∧ callL Try.prog pr 19 args H = some (gcC H (v, H')) :=
  call_of (fn := Try.f19) rfl Try.func19 rfl (by kernel_rfl) rfl (Nat.max_eq_right ha) h
def rs33 : List ResultVar := [.tmp 4]
set_option maxRecDepth 100000 in
theorem run33 {args : List V} {H : Hp} {R : V → Hp → Prop} (ha : args.length ≤ 12) (h : Wp Try.prog (callL Try.prog pr) 12 c33 args [] H (RetQ Try.prog rs33 R)) : ∃ v H', R v H' ∧ callL Try.prog pr 33 args H = some (gcC H (v, H')) :=
  call_of (fn := Try.f33) rfl Try.func33 rfl (by kernel_rfl) rfl (Nat.max_eq_right ha) h
def rs34 : List ResultVar := [.tmp 4]
set_option maxRecDepth 100000 in
theorem run34 {args : List V} {H : Hp} {R : V → Hp → Prop} (ha : args.length ≤ 12) (h : Wp Try.prog (callL Try.prog pr) 12 c34 args [] H (RetQ Try.prog rs34 R)) : ∃ v H', R v H' ∧ callL Try.prog pr 34 args H = some (gcC H (v, H')) :=
  call_of (fn := Try.f34) rfl Try.func34 rfl (by kernel_rfl) rfl (Nat.max_eq_right ha) h
def rs35 : List ResultVar := [.tmp 2]
set_option maxRecDepth 100000 in
theorem run35 {args : List V} {H : Hp} {R : V → Hp → Prop} (ha : args.length ≤ 36) (h : Wp Try.prog (callL Try.prog pr) 36 c35 args [] H (RetQ Try.prog rs35 R)) : ∃ v H', R v H' ∧ callL Try.prog pr 35 args H = some (gcC H (v, H')) :=
  call_of (fn := Try.f35) rfl Try.func35 rfl (by kernel_rfl) rfl (Nat.max_eq_right ha) h
def rs36 : List ResultVar := [.cell 2 81, .tmp 3]
set_option maxRecDepth 100000 in
theorem run36 {args : List V} {H : Hp} {R : V → Hp → Prop} (ha : args.length ≤ 45) (h : Wp Try.prog (callL Try.prog pr) 45 c36 args [] H (RetQ Try.prog rs36 R)) : ∃ v H', R v H' ∧ callL Try.prog pr 36 args H = some (gcC H (v, H')) :=
  call_of (fn := Try.f36) rfl Try.func36 rfl (by kernel_rfl) rfl (Nat.max_eq_right ha) h
def rs37 : List ResultVar := [.tmp 4]
set_option maxRecDepth 100000 in
theorem run37 {args : List V} {H : Hp} {R : V → Hp → Prop} (ha : args.length ≤ 20) (h : Wp Try.prog (callL Try.prog pr) 20 c37 args [] H (RetQ Try.prog rs37 R)) : ∃ v H', R v H' ∧ callL Try.prog pr 37 args H = some (gcC H (v, H')) :=
  call_of (fn := Try.f37) rfl Try.func37 rfl (by kernel_rfl) rfl (Nat.max_eq_right ha) h
def rs38 : List ResultVar := [.tmp 2]
set_option maxRecDepth 100000 in
theorem run38 {args : List V} {H : Hp} {R : V → Hp → Prop} (ha : args.length ≤ 47) (h : Wp Try.prog (callL Try.prog pr) 47 c38 args [] H (RetQ Try.prog rs38 R)) : ∃ v H', R v H' ∧ callL Try.prog pr 38 args H = some (gcC H (v, H')) :=
  call_of (fn := Try.f38) rfl Try.func38 rfl (by kernel_rfl) rfl (Nat.max_eq_right ha) h
def rs39 : List ResultVar := [.tmp 2]
set_option maxRecDepth 100000 in
theorem run39 {args : List V} {H : Hp} {R : V → Hp → Prop} (ha : args.length ≤ 8) (h : Wp Try.prog (callL Try.prog pr) 8 c39 args [] H (RetQ Try.prog rs39 R)) : ∃ v H', R v H' ∧ callL Try.prog pr 39 args H = some (gcC H (v, H')) :=
  call_of (fn := Try.f39) rfl Try.func39 rfl (by kernel_rfl) rfl (Nat.max_eq_right ha) h
def rs40 : List ResultVar := [.tmp 4]
set_option maxRecDepth 100000 in
theorem run40 {args : List V} {H : Hp} {R : V → Hp → Prop} (ha : args.length ≤ 19) (h : Wp Try.prog (callL Try.prog pr) 19 c40 args [] H (RetQ Try.prog rs40 R)) : ∃ v H', R v H' ∧ callL Try.prog pr 40 args H = some (gcC H (v, H')) :=
  call_of (fn := Try.f40) rfl Try.func40 rfl (by kernel_rfl) rfl (Nat.max_eq_right ha) h
def rs41 : List ResultVar := [.tmp 3]
set_option maxRecDepth 100000 in
theorem run41 {args : List V} {H : Hp} {R : V → Hp → Prop} (ha : args.length ≤ 9) (h : Wp Try.prog (callL Try.prog pr) 9 c41 args [] H (RetQ Try.prog rs41 R)) : ∃ v H', R v H' ∧ callL Try.prog pr 41 args H = some (gcC H (v, H')) :=
  call_of (fn := Try.f41) rfl Try.func41 rfl (by kernel_rfl) rfl (Nat.max_eq_right ha) h
def rs42 : List ResultVar := [.cell 2 88]
set_option maxRecDepth 100000 in
theorem run42 {args : List V} {H : Hp} {R : V → Hp → Prop} (ha : args.length ≤ 14) (h : Wp Try.prog (callL Try.prog pr) 14 c42 args [] H (RetQ Try.prog rs42 R)) : ∃ v H', R v H' ∧ callL Try.prog pr 42 args H = some (gcC H (v, H')) :=
  call_of (fn := Try.f42) rfl Try.func42 rfl (by kernel_rfl) rfl (Nat.max_eq_right ha) h
def rs43 : List ResultVar := [.cell 4 50]
set_option maxRecDepth 100000 in
theorem run43 {args : List V} {H : Hp} {R : V → Hp → Prop} (ha : args.length ≤ 42) (h : Wp Try.prog (callL Try.prog pr) 42 c43 args [] H (RetQ Try.prog rs43 R)) : ∃ v H', R v H' ∧ callL Try.prog pr 43 args H = some (gcC H (v, H')) :=
  call_of (fn := Try.f43) rfl Try.func43 rfl (by kernel_rfl) rfl (Nat.max_eq_right ha) h
def rs44 : List ResultVar := [.tmp 2]
set_option maxRecDepth 100000 in
theorem run44 {args : List V} {H : Hp} {R : V → Hp → Prop} (ha : args.length ≤ 45) (h : Wp Try.prog (callL Try.prog pr) 45 c44 args [] H (RetQ Try.prog rs44 R)) : ∃ v H', R v H' ∧ callL Try.prog pr 44 args H = some (gcC H (v, H')) :=
  call_of (fn := Try.f44) rfl Try.func44 rfl (by kernel_rfl) rfl (Nat.max_eq_right ha) h
def rs45 : List ResultVar := [.tmp 2]
set_option maxRecDepth 100000 in
theorem run45 {args : List V} {H : Hp} {R : V → Hp → Prop} (ha : args.length ≤ 64) (h : Wp Try.prog (callL Try.prog pr) 64 c45 args [] H (RetQ Try.prog rs45 R)) : ∃ v H', R v H' ∧ callL Try.prog pr 45 args H = some (gcC H (v, H')) :=
  call_of (fn := Try.f45) rfl Try.func45 rfl (by kernel_rfl) rfl (Nat.max_eq_right ha) h
def rs46 : List ResultVar := [.cell 2 81]
set_option maxRecDepth 100000 in
theorem run46 {args : List V} {H : Hp} {R : V → Hp → Prop} (ha : args.length ≤ 14) (h : Wp Try.prog (callL Try.prog pr) 14 c46 args [] H (RetQ Try.prog rs46 R)) : ∃ v H', R v H' ∧ callL Try.prog pr 46 args H = some (gcC H (v, H')) :=
  call_of (fn := Try.f46) rfl Try.func46 rfl (by kernel_rfl) rfl (Nat.max_eq_right ha) h
def rs51 : List ResultVar := [.tmp 4]
set_option maxRecDepth 100000 in
theorem run51 {args : List V} {H : Hp} {R : V → Hp → Prop} (ha : args.length ≤ 20) (h : Wp Try.prog (callL Try.prog pr) 20 c51 args [] H (RetQ Try.prog rs51 R)) : ∃ v H', R v H' ∧ callL Try.prog pr 51 args H = some (gcC H (v, H')) :=
  call_of (fn := Try.f51) rfl Try.func51 rfl (by kernel_rfl) rfl (Nat.max_eq_right ha) h
def rs58 : List ResultVar := [.tmp 2]
set_option maxRecDepth 100000 in
theorem run58 {args : List V} {H : Hp} {R : V → Hp → Prop} (ha : args.length ≤ 18) (h : Wp Try.prog (callL Try.prog pr) 18 c58 args [] H (RetQ Try.prog rs58 R)) : ∃ v H', R v H' ∧ callL Try.prog pr 58 args H = some (gcC H (v, H')) :=
  call_of (fn := Try.f58) rfl Try.func58 rfl (by kernel_rfl) rfl (Nat.max_eq_right ha) h
def rs70 : List ResultVar := [.tmp 4]
set_option maxRecDepth 100000 in
theorem run70 {args : List V} {H : Hp} {R : V → Hp → Prop} (ha : args.length ≤ 8) (h : Wp Try.prog (callL Try.prog pr) 8 c70 args [] H (RetQ Try.prog rs70 R)) : ∃ v H', R v H' ∧ callL Try.prog pr 70 args H = some (gcC H (v, H')) :=
  call_of (fn := Try.f70) rfl Try.func70 rfl (by kernel_rfl) rfl (Nat.max_eq_right ha) h
def rs71 : List ResultVar := [.tmp 2]
set_option maxRecDepth 100000 in
theorem run71 {args : List V} {H : Hp} {R : V → Hp → Prop} (ha : args.length ≤ 5) (h : Wp Try.prog (callL Try.prog pr) 5 c71 args [] H (RetQ Try.prog rs71 R)) : ∃ v H', R v H' ∧ callL Try.prog pr 71 args H = some (gcC H (v, H')) :=
  call_of (fn := Try.f71) rfl Try.func71 rfl (by kernel_rfl) rfl (Nat.max_eq_right ha) h
def rs72 : List ResultVar := [.tmp 2]
set_option maxRecDepth 100000 in
theorem run72 {args : List V} {H : Hp} {R : V → Hp → Prop} (ha : args.length ≤ 26) (h : Wp Try.prog (callL Try.prog pr) 26 c72 args [] H (RetQ Try.prog rs72 R)) : ∃ v H', R v H' ∧ callL Try.prog pr 72 args H = some (gcC H (v, H')) :=
  call_of (fn := Try.f72) rfl Try.func72 rfl (by kernel_rfl) rfl (Nat.max_eq_right ha) h
def rs74 : List ResultVar := [.tmp 2]
set_option maxRecDepth 100000 in
theorem run74 {args : List V} {H : Hp} {R : V → Hp → Prop} (ha : args.length ≤ 6) (h : Wp Try.prog (callL Try.prog pr) 6 c74 args [] H (RetQ Try.prog rs74 R)) : ∃ v H', R v H' ∧ callL Try.prog pr 74 args H = some (gcC H (v, H')) :=
  call_of (fn := Try.f74) rfl Try.func74 rfl (by kernel_rfl) rfl (Nat.max_eq_right ha) h
def rs87 : List ResultVar := [.tmp 4]
set_option maxRecDepth 100000 in
theorem run87 {args : List V} {H : Hp} {R : V → Hp → Prop} (ha : args.length ≤ 9) (h : Wp Try.prog (callL Try.prog pr) 9 c87 args [] H (RetQ Try.prog rs87 R)) : ∃ v H', R v H' ∧ callL Try.prog pr 87 args H = some (gcC H (v, H')) :=
  call_of (fn := Try.f87) rfl Try.func87 rfl (by kernel_rfl) rfl (Nat.max_eq_right ha) h
def rs88 : List ResultVar := [.tmp 3]
set_option maxRecDepth 100000 in
theorem run88 {args : List V} {H : Hp} {R : V → Hp → Prop} (ha : args.length ≤ 8) (h : Wp Try.prog (callL Try.prog pr) 8 c88 args [] H (RetQ Try.prog rs88 R)) : ∃ v H', R v H' ∧ callL Try.prog pr 88 args H = some (gcC H (v, H')) :=
  call_of (fn := Try.f88) rfl Try.func88 rfl (by kernel_rfl) rfl (Nat.max_eq_right ha) h
def rs106 : List ResultVar := [.tmp 4]
set_option maxRecDepth 100000 in
theorem run106 {args : List V} {H : Hp} {R : V → Hp → Prop} (ha : args.length ≤ 19) (h : Wp Try.prog (callL Try.prog pr) 19 c106 args [] H (RetQ Try.prog rs106 R)) : ∃ v H', R v H' ∧ callL Try.prog pr 106 args H = some (gcC H (v, H')) :=
  call_of (fn := Try.f106) rfl Try.func106 rfl (by kernel_rfl) rfl (Nat.max_eq_right ha) h
end Go.Proofs.Ytdpdlobaabcjjaa
/-
  Conversations as plain data; the small functions on them, walked. No statement of the seat stands here.
-/
namespace Go.Proofs.Ytdpdlobaabcjjaa
open Go Go.Am
set_option maxRecDepth 4000
set_option linter.unusedSimpArgs false
set_option linter.unusedVariables false

/-- A conversation. -/
structure Sm where
  a : Int
  ap : Int
  b : Int
  bp : Int
  proto : Int
  go : Int
  gb : Int
  back : Int
  bb : Int
  first : Int
  last : Int
abbrev smC (s : Sm) : List V := [.int .i64 s.a, .int .i64 s.ap, .int .i64 s.b, .int .i64 s.bp, .int .i64 s.proto, .int .i64 s.go, .int .i64 s.gb, .int .i64 s.back, .int .i64 s.bb, .int .i64 s.first, .int .i64 s.last]
theorem smC_len (s : Sm) : (smC s).length = 11 := rfl
structure Key where
  a : Int
  ap : Int
  b : Int
  bp : Int
  proto : Int
abbrev keyC (k : Key) : List V := [.int .i64 k.a, .int .i64 k.ap, .int .i64 k.b, .int .i64 k.bp, .int .i64 k.proto]
def keyOf (s : Sm) : Key := ⟨s.a, s.ap, s.b, s.bp, s.proto⟩
def keyEq (k l : Key) : Bool := decide (k.a = l.a) && (decide (k.ap = l.ap) && (decide (k.b = l.b) && (decide (k.bp = l.bp) && decide (k.proto = l.proto))))
theorem keyEq_iff (k l : Key) : keyEq k l = true ↔ k = l := by
  cases k; cases l
  simp [keyEq]
/-- A message. -/
structure Tk where
  time : Int
  src : Int
  dst : Int
  port : Int
  dest : Int
  proto : Int
  size : Int
abbrev tkC (t : Tk) : List V := [.int .i64 t.time, .int .i64 t.src, .int .i64 t.dst, .int .i64 t.port, .int .i64 t.dest, .int .i64 t.proto, .int .i64 t.size]

def inB (n m : Int) : Bool := decide (0 ≤ n) && decide (n ≤ m)
theorem fn33 (n m : Int) (H : Hp) : callL Try.prog pr 33 [.int .i64 n, .int .i64 m] H = some (.bool (inB n m), H) := by
  refine flat_of (run33 (Nat.le_of_ble_eq_true rfl) ?_) rfl rfl
  unfold inB
  by_cases h0 : 0 ≤ n <;> by_cases h1 : n ≤ m <;>
    simp only [c33, r33_0, r33_1, rs33, ↓reduceIte, go_sem, Nat.reduceLT, Nat.reduceEqDiff, Nat.reduceAdd, Nat.reduceMul, Nat.reduceLeDiff, Int.reduceLT, Int.reduceLE, Int.reduceEq, Int.reduceNeg, Int.reduceToNat, h0, h1] <;> exact ⟨[], by simp⟩
theorem fn34 (n m : Int) (H : Hp) : callL Try.prog pr 34 [.int .i64 n, .int .i64 m] H = some (.bool (inB n m), H) := by
  refine flat_of (run34 (Nat.le_of_ble_eq_true rfl) ?_) rfl rfl
  unfold inB
  by_cases h0 : 0 ≤ n <;> by_cases h1 : n ≤ m <;>
    simp only [c34, r34_0, r34_1, rs34, ↓reduceIte, go_sem, Nat.reduceLT, Nat.reduceEqDiff, Nat.reduceAdd, Nat.reduceMul, Nat.reduceLeDiff, Int.reduceLT, Int.reduceLE, Int.reduceEq, Int.reduceNeg, Int.reduceToNat, h0, h1] <;> exact ⟨[], by simp⟩
theorem fn46 (s : Sm) (H : Hp) : callL Try.prog pr 46 [.agg (smC s)] H = some (.agg (keyC (keyOf s)), H) := by
  refine flat_of (run46 (Nat.le_of_ble_eq_true rfl) ?_) rfl rfl
  simp (disch := exact lt_new _) only [c46, r46_0, r46_1, rs46, ↓reduceIte, go_sem, Nat.reduceLT, Nat.reduceEqDiff, Nat.reduceAdd, Nat.reduceMul, Nat.reduceLeDiff, Int.reduceLT, Int.reduceLE, Int.reduceEq, Int.reduceNeg, Int.reduceToNat, keyOf]
  exact ⟨_, by rw [List.append_assoc]⟩
theorem fn42 (s : Sm) (H : Hp) : callL Try.prog pr 42 [.agg (smC s)] H = some (.agg (keyC (keyOf s)), H) := by
  refine flat_of (run42 (Nat.le_of_ble_eq_true rfl) ?_) rfl rfl
  simp (disch := exact lt_new _) only [c42, r42_0, r42_1, rs42, ↓reduceIte, go_sem, Nat.reduceLT, Nat.reduceEqDiff, Nat.reduceAdd, Nat.reduceMul, Nat.reduceLeDiff, Int.reduceLT, Int.reduceLE, Int.reduceEq, Int.reduceNeg, Int.reduceToNat, keyOf]
  exact ⟨_, by rw [List.append_assoc]⟩
theorem fn74 (n : Int) (H : Hp) : callL Try.prog pr 74 [.int .i64 n] H = some (.bool false, H) := by
  refine flat_of (run74 (Nat.le_of_ble_eq_true rfl) ?_) rfl rfl
  simp only [c74, r74_0, r74_1, rs74, ↓reduceIte, go_sem, Nat.reduceLT, Nat.reduceEqDiff, Nat.reduceAdd, Nat.reduceMul, Nat.reduceLeDiff, Int.reduceLT, Int.reduceLE, Int.reduceEq, Int.reduceNeg, Int.reduceToNat, eq_self]
  exact ⟨[], by simp⟩
def cmpI (x y : Int) : Int := if x < y then -1 else if y < x then 1 else 0
theorem fn51 (x y : Int) (H : Hp) : callL Try.prog pr 51 [.int .i64 x, .int .i64 y] H = some (.int .i64 (cmpI x y), H) := by
  refine flat_of (run51 (Nat.le_of_ble_eq_true rfl) ?_) rfl rfl
  unfold cmpI
  by_cases h0 : x < y
  · simp only [c51, r51_0, r51_1, r51_2, r51_3, r51_4, r51_5, r51_6, r51_7, r51_8, r51_9, r51_10, r51_11, r51_12, r51_13, rs51, ↓reduceIte, go_sem, Nat.reduceLT, Nat.reduceEqDiff, Nat.reduceAdd, Nat.reduceMul, Nat.reduceLeDiff, Int.reduceLT, Int.reduceLE, Int.reduceEq, Int.reduceNeg, Int.reduceToNat, h0, fn74]
    exact ⟨[], by simp⟩
  · by_cases h1 : y < x
    · simp only [c51, r51_0, r51_1, r51_2, r51_3, r51_4, r51_5, r51_6, r51_7, r51_8, r51_9, r51_10, r51_11, r51_12, r51_13, rs51, ↓reduceIte, go_sem, Nat.reduceLT, Nat.reduceEqDiff, Nat.reduceAdd, Nat.reduceMul, Nat.reduceLeDiff, Int.reduceLT, Int.reduceLE, Int.reduceEq, Int.reduceNeg, Int.reduceToNat, h0, h1, fn74]
      exact ⟨[], by simp⟩
    · simp only [c51, r51_0, r51_1, r51_2, r51_3, r51_4, r51_5, r51_6, r51_7, r51_8, r51_9, r51_10, r51_11, r51_12, r51_13, rs51, ↓reduceIte, go_sem, Nat.reduceLT, Nat.reduceEqDiff, Nat.reduceAdd, Nat.reduceMul, Nat.reduceLeDiff, Int.reduceLT, Int.reduceLE, Int.reduceEq, Int.reduceNeg, Int.reduceToNat, h0, h1, fn74]
      exact ⟨[], by simp⟩
/-- The message's key, and its direction. -/
def goes (t : Tk) : Bool := decide (t.src < t.dst) || (decide (t.src = t.dst) && decide (t.port ≤ t.dest))
def tkKey (t : Tk) : Key := if goes t = true then ⟨t.src, t.port, t.dst, t.dest, t.proto⟩ else ⟨t.dst, t.dest, t.src, t.port, t.proto⟩
theorem fn36 (t : Tk) (H : Hp) : callL Try.prog pr 36 [.agg (tkC t)] H = some (.tup [.agg (keyC (tkKey t)), .bool (goes t)], H) := by
  refine flat_of (run36 (Nat.le_of_ble_eq_true rfl) ?_) rfl rfl
  unfold tkKey goes
  by_cases h0 : t.src < t.dst
  · simp (disch := exact lt_new _) only [c36, r36_0, r36_1, r36_2, rs36, ↓reduceIte, go_sem, Nat.reduceLT, Nat.reduceEqDiff, Nat.reduceAdd, Nat.reduceMul, Nat.reduceLeDiff, Int.reduceLT, Int.reduceLE, Int.reduceEq, Int.reduceNeg, Int.reduceToNat, h0, Bool.true_or]
    exact ⟨_, by rw [List.append_assoc]⟩
  · by_cases h1 : t.src = t.dst
    · by_cases h2 : t.port ≤ t.dest
      · simp (disch := exact lt_new _) only [c36, r36_0, r36_1, r36_2, rs36, ↓reduceIte, go_sem, Nat.reduceLT, Nat.reduceEqDiff, Nat.reduceAdd, Nat.reduceMul, Nat.reduceLeDiff, Int.reduceLT, Int.reduceLE, Int.reduceEq, Int.reduceNeg, Int.reduceToNat, h0, h1, h2, Bool.true_or, Bool.false_or, Int.lt_irrefl, eq_self]
        exact ⟨_, by rw [List.append_assoc]⟩
      · simp (disch := exact lt_new _) only [c36, r36_0, r36_1, r36_3, rs36, ↓reduceIte, go_sem, Nat.reduceLT, Nat.reduceEqDiff, Nat.reduceAdd, Nat.reduceMul, Nat.reduceLeDiff, Int.reduceLT, Int.reduceLE, Int.reduceEq, Int.reduceNeg, Int.reduceToNat, h0, h1, h2, Bool.true_or, Bool.false_or, Int.lt_irrefl, eq_self]
        exact ⟨_, by rw [List.append_assoc]⟩
    · simp (disch := exact lt_new _) only [c36, r36_0, r36_1, r36_3, rs36, ↓reduceIte, go_sem, Nat.reduceLT, Nat.reduceEqDiff, Nat.reduceAdd, Nat.reduceMul, Nat.reduceLeDiff, Int.reduceLT, Int.reduceLE, Int.reduceEq, Int.reduceNeg, Int.reduceToNat, h0, h1, Bool.true_or, Bool.false_or]
      exact ⟨_, by rw [List.append_assoc]⟩
/-- Where a conversation is. -/
theorem fn37 (H : Hp) (s : V) (l : List Sm) (k : Key) (hs : Sl H s 11 (l.map smC)) (hlen : l.length < 2 ^ 62) : callL Try.prog pr 37 [s, .agg (keyC k)] H = some (.int .i64 (findI (fun x => keyEq (keyOf x) k) l 0), H) := by
  have hl : (l.map smC).length = l.length := List.length_map _
  have hlenS := fun H' => hs.len (P := Try.prog) (H' := H') s37
  rw [hl] at hlenS
  refine flat_of (run37 (Nat.le_of_ble_eq_true rfl) ?_) rfl rfl
  simp only [c37, r37_0, r37_1, rs37, ↓reduceIte, go_sem, Nat.reduceLT, Nat.reduceEqDiff, Nat.reduceAdd, Nat.reduceMul, Nat.reduceLeDiff, Int.reduceLT, Int.reduceLE, Int.reduceEq, Int.reduceNeg, Int.reduceToNat]
  refine Wp_loop (fun m T D H' => ∃ i, m = l.length - i ∧ i ≤ l.length ∧ D = [] ∧ H' = H ++ [.row 0 (keyC k) true] ∧ get T 0 = s ∧ get T 3 = .ptr H.length 0 0 ∧ get T 5 = .int .i64 i ∧ findI (fun x => keyEq (keyOf x) k) l 0 = findI (fun x => keyEq (keyOf x) k) (l.drop i) i) ?_ l.length _ _ _ ?_
  · rintro m T D H' ⟨i, rfl, hi, rfl, rfl, t0, t3, t5, hp⟩
    by_cases hlt : i < l.length
    · have hlt' : (i : Int) < l.length := by omega
      obtain ⟨x, hx⟩ : ∃ x, l[i]? = some x := ⟨_, List.getElem?_eq_getElem hlt⟩
      have hx' : (l.map smC)[i]? = some (smC x) := by rw [List.getElem?_map, hx]; rfl
      have hi2 := fun k => hs.idx (P := Try.prog) (k := k) s37 (i := i) (by omega)
      have hag := (hs.app (L := [.row 0 (keyC k) true])).agg (P := Try.prog) g80 z80 hx'
      rw [findI_drop _ hx] at hp
      by_cases hb : keyEq (keyOf x) k = true
      · rw [if_pos hb] at hp
        have hb' := hb
        simp only [keyEq] at hb'
        simp (disch := omega) only [l37_6, r37_2, r37_3, r37_4, r37_5, ↓reduceIte, go_sem, Nat.reduceLT, Nat.reduceEqDiff, Nat.reduceAdd, Nat.reduceMul, Nat.reduceLeDiff, Int.reduceLT, Int.reduceLE, Int.reduceEq, Int.reduceNeg, Int.reduceToNat, t0, t3, t5, hlt', hlenS, hi2, hag, fn46, hb', IntWalk.i64_in]
        exact ⟨by rw [hp], _, rfl⟩
      · rw [if_neg hb] at hp
        rw [Bool.not_eq_true] at hb
        have hb' := hb
        simp only [keyEq] at hb'
        simp (disch := omega) only [l37_6, r37_2, r37_3, r37_4, r37_5, ↓reduceIte, go_sem, Nat.reduceLT, Nat.reduceEqDiff, Nat.reduceAdd, Nat.reduceMul, Nat.reduceLeDiff, Int.reduceLT, Int.reduceLE, Int.reduceEq, Int.reduceNeg, Int.reduceToNat, t0, t3, t5, hlt', hlenS, hi2, hag, fn46, hb', IntWalk.i64_in]
        exact ⟨_, by omega, i + 1, rfl, hlt, rfl, hp⟩
    · obtain rfl : i = l.length := by omega
      simp (disch := omega) only [l37_6, r37_2, r37_7, ↓reduceIte, go_sem, Nat.reduceLT, Nat.reduceEqDiff, Nat.reduceAdd, Nat.reduceMul, Nat.reduceLeDiff, Int.reduceLT, Int.reduceLE, Int.reduceEq, Int.reduceNeg, Int.reduceToNat, t0, t3, t5, hlenS, Int.lt_irrefl]
      refine ⟨?_, _, rfl⟩
      rw [hp, List.drop_length]
      rfl
  · exact ⟨0, by simp [go_sem]⟩
end Go.Proofs.Ytdpdlobaabcjjaa
/-
  Messages asked, conversations made of them, and copied: walked. No statement of the seat stands here.
-/
namespace Go.Proofs.Ytdpdlobaabcjjaa
open Go Go.Am
set_option maxRecDepth 4000
set_option linter.unusedSimpArgs false
set_option linter.unusedVariables false

def okTalk (t : Tk) : Bool := inB t.time 1000000000000000 && (inB t.src 4294967295 && (inB t.dst 4294967295 && (inB t.port 65535 && (inB t.dest 65535 && (inB t.proto 255 && inB t.size 1000000)))))
theorem fn35 (t : Tk) (H : Hp) : callL Try.prog pr 35 [.agg (tkC t)] H = some (.bool (okTalk t), H) := by
  refine flat_of (run35 (Nat.le_of_ble_eq_true rfl) ?_) rfl rfl
  unfold okTalk
  generalize e1 : inB t.time 1000000000000000 = b1
  generalize e2 : inB t.src 4294967295 = b2
  generalize e3 : inB t.dst 4294967295 = b3
  generalize e4 : inB t.port 65535 = b4
  generalize e5 : inB t.dest 65535 = b5
  generalize e6 : inB t.proto 255 = b6
  cases b1
  · simp only [c35, r35_0, r35_1, rs35, ↓reduceIte, go_sem, Nat.reduceLT, Nat.reduceEqDiff, Nat.reduceAdd, Nat.reduceMul, Nat.reduceLeDiff, Int.reduceLT, Int.reduceLE, Int.reduceEq, Int.reduceNeg, Int.reduceToNat, fn34, e1]; exact ⟨_, rfl⟩
  · cases b2
    · simp only [c35, r35_0, r35_1, rs35, ↓reduceIte, go_sem, Nat.reduceLT, Nat.reduceEqDiff, Nat.reduceAdd, Nat.reduceMul, Nat.reduceLeDiff, Int.reduceLT, Int.reduceLE, Int.reduceEq, Int.reduceNeg, Int.reduceToNat, fn34, e1, e2]; exact ⟨_, rfl⟩
    · cases b3
      · simp only [c35, r35_0, r35_1, rs35, ↓reduceIte, go_sem, Nat.reduceLT, Nat.reduceEqDiff, Nat.reduceAdd, Nat.reduceMul, Nat.reduceLeDiff, Int.reduceLT, Int.reduceLE, Int.reduceEq, Int.reduceNeg, Int.reduceToNat, fn34, e1, e2, e3]; exact ⟨_, rfl⟩
      · cases b4
        · simp only [c35, r35_0, r35_1, rs35, ↓reduceIte, go_sem, Nat.reduceLT, Nat.reduceEqDiff, Nat.reduceAdd, Nat.reduceMul, Nat.reduceLeDiff, Int.reduceLT, Int.reduceLE, Int.reduceEq, Int.reduceNeg, Int.reduceToNat, fn34, e1, e2, e3, e4]; exact ⟨_, rfl⟩
        · cases b5
          · simp only [c35, r35_0, r35_1, rs35, ↓reduceIte, go_sem, Nat.reduceLT, Nat.reduceEqDiff, Nat.reduceAdd, Nat.reduceMul, Nat.reduceLeDiff, Int.reduceLT, Int.reduceLE, Int.reduceEq, Int.reduceNeg, Int.reduceToNat, fn34, e1, e2, e3, e4, e5]; exact ⟨_, rfl⟩
          · cases b6
            · simp only [c35, r35_0, r35_1, rs35, ↓reduceIte, go_sem, Nat.reduceLT, Nat.reduceEqDiff, Nat.reduceAdd, Nat.reduceMul, Nat.reduceLeDiff, Int.reduceLT, Int.reduceLE, Int.reduceEq, Int.reduceNeg, Int.reduceToNat, fn34, e1, e2, e3, e4, e5, e6]; exact ⟨_, rfl⟩
            · simp only [c35, r35_0, r35_1, rs35, ↓reduceIte, go_sem, Nat.reduceLT, Nat.reduceEqDiff, Nat.reduceAdd, Nat.reduceMul, Nat.reduceLeDiff, Int.reduceLT, Int.reduceLE, Int.reduceEq, Int.reduceNeg, Int.reduceToNat, fn34, e1, e2, e3, e4, e5, e6]; exact ⟨_, rfl⟩
def valE (l : List Tk) : Int := if 200 < l.length then 3 else if l.all okTalk = true then 0 else 1
theorem fn13 (H : Hp) (s : V) (l : List Tk) (hs : Sl H s 7 (l.map tkC)) : callL Try.prog pr 13 [s] H = some (.int .i64 (valE l), H) := by
  have hl : (l.map tkC).length = l.length := List.length_map _
  have hlenS := fun H' => hs.len (P := Try.prog) (H' := H') s34
  rw [hl] at hlenS
  refine flat_of (run13 (Nat.le_of_ble_eq_true rfl) ?_) rfl rfl
  by_cases h1 : 200 < l.length
  · have h1' : (200 : Int) < l.length := by omega
    simp (disch := omega) only [c13, r13_0, r13_1, r13_2, rs13, ↓reduceIte, go_sem, Nat.reduceLT, Nat.reduceEqDiff, Nat.reduceAdd, Nat.reduceMul, Nat.reduceLeDiff, Int.reduceLT, Int.reduceLE, Int.reduceEq, Int.reduceNeg, Int.reduceToNat, hlenS, h1']
    exact ⟨by simp [valE, h1], [], by simp⟩
  · have h1' : ¬ (200 : Int) < l.length := by omega
    simp (disch := omega) only [c13, r13_0, r13_1, r13_3, rs13, ↓reduceIte, go_sem, Nat.reduceLT, Nat.reduceEqDiff, Nat.reduceAdd, Nat.reduceMul, Nat.reduceLeDiff, Int.reduceLT, Int.reduceLE, Int.reduceEq, Int.reduceNeg, Int.reduceToNat, hlenS, h1']
    refine Wp_loop (fun m T D H' => ∃ i, m = l.length - i ∧ i ≤ l.length ∧ D = [] ∧ H' = H ∧ get T 0 = s ∧ get T 3 = .int .i64 i ∧ (l.take i).all okTalk = true) ?_ l.length _ _ _ ?_
    · rintro m T D H' ⟨i, rfl, hi, rfl, rfl, t0, t3, hp⟩
      by_cases hlt : i < l.length
      · have hlt' : (i : Int) < l.length := by omega
        obtain ⟨x, hx⟩ : ∃ x, l[i]? = some x := ⟨_, List.getElem?_eq_getElem hlt⟩
        have hx' : (l.map tkC)[i]? = some (tkC x) := by rw [List.getElem?_map, hx]; rfl
        have hi2 := fun k => hs.idx (P := Try.prog) (k := k) s34 (i := i) (by omega)
        have hag := hs.agg (P := Try.prog) g58 z58 hx'
        by_cases hb : okTalk x = true
        · simp (disch := omega) only [l13_8, r13_4, r13_5, r13_6, r13_7, ↓reduceIte, go_sem, Nat.reduceLT, Nat.reduceEqDiff, Nat.reduceAdd, Nat.reduceMul, Nat.reduceLeDiff, Int.reduceLT, Int.reduceLE, Int.reduceEq, Int.reduceNeg, Int.reduceToNat, t0, t3, hlt', hlenS, hi2, hag, fn35, hb, IntWalk.i64_in]
          refine ⟨_, by omega, i + 1, rfl, hlt, rfl, ?_⟩
          rw [take_snoc hx, List.all_append, hp]
          simp [hb]
        · have hb' : okTalk x = false := by simpa using hb
          simp (disch := omega) only [l13_8, r13_4, r13_5, r13_6, r13_7, ↓reduceIte, go_sem, Nat.reduceLT, Nat.reduceEqDiff, Nat.reduceAdd, Nat.reduceMul, Nat.reduceLeDiff, Int.reduceLT, Int.reduceLE, Int.reduceEq, Int.reduceNeg, Int.reduceToNat, t0, t3, hlt', hlenS, hi2, hag, fn35, hb', IntWalk.i64_in]
          refine ⟨?_, [], by simp⟩
          have : l.all okTalk = false := List.all_eq_false.2 ⟨x, List.mem_of_getElem? hx, hb⟩
          simp [valE, h1, this]
      · obtain rfl : i = l.length := by omega
        rw [List.take_length] at hp
        simp (disch := omega) only [l13_8, r13_4, r13_9, ↓reduceIte, go_sem, Nat.reduceLT, Nat.reduceEqDiff, Nat.reduceAdd, Nat.reduceMul, Nat.reduceLeDiff, Int.reduceLT, Int.reduceLE, Int.reduceEq, Int.reduceNeg, Int.reduceToNat, t0, t3, hlenS, Int.lt_irrefl]
        exact ⟨by simp [valE, h1, hp], [], by simp⟩
    · exact ⟨0, by simp [go_sem]⟩
theorem sm_all (l : List Sm) : ∀ x ∈ l.map smC, x.length = 11 := by
  intro x hx
  obtain ⟨p, _, rfl⟩ := List.mem_map.1 hx
  rfl
theorem sm_flat (l : List Sm) : (l.map smC).flatten.length = l.length * 11 := by
  rw [flat_len (sm_all l), List.length_map]
theorem sm_leaf (l : List Sm) : (l.map smC).flatten.all V.leaf = true := by
  simp [V.leaf]
theorem sm_cell (l : List Sm) : (l.map smC).flatten.all V.isCell = true := by
  simp [V.isCell]
theorem sm_snoc {l : List Sm} {i : Nat} {x : Sm} (h : l[i]? = some x) : ((l.take (i + 1)).map smC).flatten = ((l.take i).map smC).flatten ++ smC x := by
  rw [take_snoc h, List.map_append, List.flatten_append]; simp
/-- A list copied, element by element. -/
theorem fn17 (H : Hp) (s : V) (l : List Sm) (hs : Sl H s 11 (l.map smC)) (hlen : l.length ≤ 1000) : ∃ v H2, callL Try.prog pr 17 [s] H = some (v, H2) ∧ Own H2 v 11 (l.map smC).flatten ∧ (∃ G, H2 = H ++ G) ∧ ∀ id, At v id → H.length ≤ id := by
  have hl : (l.map smC).length = l.length := List.length_map _
  have hlenS := fun H' => hs.len (P := Try.prog) (H' := H') s37
  rw [hl] at hlenS
  refine own1_of (run17 (Nat.le_of_ble_eq_true rfl) ?_) (sm_leaf l)
  simp (disch := omega) only [c17, r17_0, r17_1, r17_2, rs17, ↓reduceIte, go_sem, Nat.reduceLT, Nat.reduceEqDiff, Nat.reduceAdd, Nat.reduceMul, Nat.reduceLeDiff, Int.reduceLT, Int.reduceLE, Int.reduceEq, Int.reduceNeg, Int.reduceToNat]
  refine Wp_loop (fun m T D H' => ∃ i out, m = l.length - i ∧ i ≤ l.length ∧ D = [] ∧ get T 0 = s ∧ get T 4 = .int .i64 i ∧ get T 3 = out ∧ H.length ≤ H'.length ∧ (∀ id, id < H.length → H'[id]? = H[id]?) ∧ Own H' out 11 ((l.take i).map smC).flatten ∧ ∀ id, At out id → H.length ≤ id) ?_ l.length _ _ _ ?_
  · rintro m T D H' ⟨i, out, rfl, hi, rfl, t0, t4, t3, hle, hfr, ho, hat⟩
    by_cases hlt : i < l.length
    · have hlt' : (i : Int) < l.length := by omega
      obtain ⟨x, hx⟩ : ∃ x, l[i]? = some x := ⟨_, List.getElem?_eq_getElem hlt⟩
      have hx' : (l.map smC)[i]? = some (smC x) := by rw [List.getElem?_map, hx]; rfl
      have hi2 := fun k => hs.idx (P := Try.prog) (k := k) s37 (i := i) (by omega)
      have hs1 : Sl H' s 11 (l.map smC) := hs.move fun id h => hfr id (hs.at_lt h)
      have hag := hs1.agg (P := Try.prog) g80 z80 hx'
      have hfl := sm_flat (l.take i)
      rw [List.length_take, Nat.min_eq_left hi] at hfl
      obtain ⟨o', H1, e1, o1, f1, le1, at1⟩ := ho.push (by_ := 88) (ys := smC x) rfl rfl (by omega) (by omega) (by omega)
      simp (disch := omega) only [l17_6, r17_3, r17_4, r17_5, ↓reduceIte, go_sem, Nat.reduceLT, Nat.reduceEqDiff, Nat.reduceAdd, Nat.reduceMul, Nat.reduceLeDiff, Int.reduceLT, Int.reduceLE, Int.reduceEq, Int.reduceNeg, Int.reduceToNat, t0, t4, t3, hlt', hlenS, hi2, hag, e1, IntWalk.i64_in]
      refine ⟨_, by omega, i + 1, o', rfl, hlt, rfl, rfl, by omega, fun id hid => ?_, ?_, fun id h => ?_⟩
      · rw [f1 id (by omega) fun h => by have := hat id h; omega]
        exact hfr id hid
      · rw [sm_snoc hx]; exact o1
      · rcases at1 id h with h | h
        · exact hat id h
        · omega
    · obtain rfl : i = l.length := by omega
      rw [List.take_length] at ho
      simp (disch := omega) only [l17_6, r17_3, r17_7, ↓reduceIte, go_sem, Nat.reduceLT, Nat.reduceEqDiff, Nat.reduceAdd, Nat.reduceMul, Nat.reduceLeDiff, Int.reduceLT, Int.reduceLE, Int.reduceEq, Int.reduceNeg, Int.reduceToNat, t0, t4, t3, hlenS, Int.lt_irrefl]
      exact ⟨ho, hfr, hat⟩
  · exact ⟨0, .nilslice, by simp [go_sem, own_nil, At]⟩
end Go.Proofs.Ytdpdlobaabcjjaa
/-
  Conversations made of messages, by the document's function: walked. No statement of the seat stands here.
-/
namespace Go.Proofs.Ytdpdlobaabcjjaa
open Go Go.Am
set_option maxRecDepth 4000
set_option linter.unusedSimpArgs false
set_option linter.unusedVariables false

def w64 (n : Int) : Int := IntKind.i64.wrap n
def bump (t : Tk) (s : Sm) : Sm :=
  let f := if t.time < s.first then t.time else s.first
  let l := if t.time > s.last then t.time else s.last
  if goes t = true then { s with go := w64 (s.go + 1), gb := w64 (s.gb + t.size), first := f, last := l }
  else { s with back := w64 (s.back + 1), bb := w64 (s.bb + t.size), first := f, last := l }

def tail15 : Cc := .seq (.reg r15_10) (.seq (.seq (.reg r15_11) (.cond (.tmp 53) (.seq (.reg r15_12) (.reg r15_13)) (.seq (.reg r15_14) (.reg r15_15)))) (.reg r15_16))
theorem tail15_ok {T : Fr} {Hc : Hp} {R : Ex → Fr → Dfr → Hp → Prop} {out : V} {xs : List Sm} {x : Sm} {i tb : Nat} {t : Tk} (ho : Own Hc out 11 (xs.map smC).flatten) (hx : xs[i]? = some x) (t3 : get T 3 = out) (t8 : get T 8 = .int .i64 i) (t7 : get T 7 = .bool (goes t)) (t5 : get T 5 = .ptr tb 0 0) (hne : ¬ At out tb)
    (h0 : loadV Try.prog 3 Hc (.ptr tb 0 0) = some (.int .i64 t.time)) (h6 : loadV Try.prog 3 Hc (.ptr tb 0 6) = some (.int .i64 t.size))
    (hR : ∀ T' H', get T' 0 = get T 0 → get T' 3 = out → get T' 4 = get T 4 → Own H' out 11 ((xs.set i (bump t x)).map smC).flatten → (∀ j, ¬ At out j → H'[j]? = Hc[j]?) → H'.length = Hc.length → R .nor T' [] H') :
    Wp Try.prog (callL Try.prog pr) 107 tail15 T [] Hc R := by
  have hi : i < xs.length := (List.getElem?_eq_some_iff.1 hx).1
  obtain ⟨id, g, pre, post, rfl, hid, hpre, hH, hset⟩ := ho.focus smC_len (by omega) hx
  have hne' : id ≠ tb := fun e => hne ⟨g, 0, xs.length, 11, .full, by rw [e]⟩
  have ha := i37 (id := id) (g := g) (off := 0) (n := xs.length) (cp := .full) (k := .i64) (j := (i : Int)) ⟨by omega, by omega⟩
  rw [Int.toNat_natCast, hpre] at ha
  have fin : ∀ T' x', x' = bump t x → get T' 0 = get T 0 → get T' 3 = .slice id g 0 xs.length 11 .full → get T' 4 = get T 4 → R .nor T' [] (Hc.set id (.row g (pre ++ smC x' ++ post) true)) := by
    intro T' x' e k0 k3 k4
    subst e
    refine hR T' _ k0 k3 k4 (hset _) (fun j hj => ?_) (by simp)
    rw [List.getElem?_set_ne fun e => hj ⟨g, 0, xs.length, 11, .full, by rw [e]⟩]
  rw [hH]
  cases hg : goes t with
  | true =>
    rw [hg] at t7
    simp (disch := first | exact hid | exact hne' | exact Nat.le_of_ble_eq_true rfl | exact rfl | omega) only [tail15, r15_10, r15_11, r15_12, r15_13, r15_16, ↓reduceIte, go_sem, Nat.reduceLT, Nat.reduceEqDiff, Nat.reduceAdd, Nat.reduceMul, Nat.reduceLeDiff, Int.reduceLT, Int.reduceLE, Int.reduceEq, Int.reduceNeg, Int.reduceToNat, t3, t8, t7, t5, ha, foc_load g3, foc_stI z3, foc_other, h0, h6]
    refine fin _ ⟨x.a, x.ap, x.b, x.bp, x.proto, w64 (x.go + 1), w64 (x.gb + t.size), x.back, x.bb, if t.time < x.first then t.time else x.first, if t.time > x.last then t.time else x.last⟩ (by simp [bump, hg]) ?_ ?_ ?_
    · simp only [↓reduceIte, go_sem, Nat.reduceLT, Nat.reduceEqDiff, Nat.reduceAdd, Nat.reduceMul, Nat.reduceLeDiff, Int.reduceLT, Int.reduceLE, Int.reduceEq, Int.reduceNeg, Int.reduceToNat]
    · simp only [↓reduceIte, go_sem, Nat.reduceLT, Nat.reduceEqDiff, Nat.reduceAdd, Nat.reduceMul, Nat.reduceLeDiff, Int.reduceLT, Int.reduceLE, Int.reduceEq, Int.reduceNeg, Int.reduceToNat, t3]
    · simp only [↓reduceIte, go_sem, Nat.reduceLT, Nat.reduceEqDiff, Nat.reduceAdd, Nat.reduceMul, Nat.reduceLeDiff, Int.reduceLT, Int.reduceLE, Int.reduceEq, Int.reduceNeg, Int.reduceToNat]
  | false =>
    rw [hg] at t7
    simp (disch := first | exact hid | exact hne' | exact Nat.le_of_ble_eq_true rfl | exact rfl | omega) only [tail15, r15_10, r15_11, r15_14, r15_15, r15_16, ↓reduceIte, go_sem, Nat.reduceLT, Nat.reduceEqDiff, Nat.reduceAdd, Nat.reduceMul, Nat.reduceLeDiff, Int.reduceLT, Int.reduceLE, Int.reduceEq, Int.reduceNeg, Int.reduceToNat, t3, t8, t7, t5, ha, foc_load g3, foc_stI z3, foc_other, h0, h6]
    refine fin _ ⟨x.a, x.ap, x.b, x.bp, x.proto, x.go, x.gb, w64 (x.back + 1), w64 (x.bb + t.size), if t.time < x.first then t.time else x.first, if t.time > x.last then t.time else x.last⟩ (by simp [bump, hg]) ?_ ?_ ?_
    · simp only [↓reduceIte, go_sem, Nat.reduceLT, Nat.reduceEqDiff, Nat.reduceAdd, Nat.reduceMul, Nat.reduceLeDiff, Int.reduceLT, Int.reduceLE, Int.reduceEq, Int.reduceNeg, Int.reduceToNat]
    · simp only [↓reduceIte, go_sem, Nat.reduceLT, Nat.reduceEqDiff, Nat.reduceAdd, Nat.reduceMul, Nat.reduceLeDiff, Int.reduceLT, Int.reduceLE, Int.reduceEq, Int.reduceNeg, Int.reduceToNat, t3]
    · simp only [↓reduceIte, go_sem, Nat.reduceLT, Nat.reduceEqDiff, Nat.reduceAdd, Nat.reduceMul, Nat.reduceLeDiff, Int.reduceLT, Int.reduceLE, Int.reduceEq, Int.reduceNeg, Int.reduceToNat]

/-- The conversations of messages. -/
def newSm (t : Tk) : Sm := ⟨(tkKey t).a, (tkKey t).ap, (tkKey t).b, (tkKey t).bp, (tkKey t).proto, 0, 0, 0, 0, t.time, t.time⟩
def findS (l : List Sm) (k : Key) : Int := findI (fun x => keyEq (keyOf x) k) l 0
def convStep (l : List Sm) (t : Tk) : List Sm :=
  if findS l (tkKey t) < 0 then (l ++ [newSm t]).set l.length (bump t (newSm t)) else
  match l[(findS l (tkKey t)).toNat]? with
  | some x => l.set (findS l (tkKey t)).toNat (bump t x)
  | none => l
def convsOf (l : List Tk) : List Sm := l.foldl convStep []
theorem convStep_len (l : List Sm) (t : Tk) : (convStep l t).length ≤ l.length + 1 := by
  unfold convStep
  split
  · simp
  · split <;> simp
theorem convsOf_snoc {l : List Tk} {i : Nat} {t : Tk} (h : l[i]? = some t) : convsOf (l.take (i + 1)) = convStep (convsOf (l.take i)) t := by
  unfold convsOf
  rw [take_snoc h, List.foldl_append]
  rfl
theorem convsOf_len (l : List Tk) : ∀ i, (convsOf (l.take i)).length ≤ i
  | 0 => by simp [convsOf]
  | i + 1 => by
    cases h : l[i]? with
    | none =>
      have hl : l.length ≤ i := by simpa using h
      have := convsOf_len l i
      rw [List.take_of_length_le (by omega)] at this ⊢
      omega
    | some t =>
      rw [convsOf_snoc h]
      have := convStep_len (convsOf (l.take i)) t
      have := convsOf_len l i
      omega
theorem findI_lt {α : Type} (p : α → Bool) : ∀ (xs : List α) (n : Nat), findI p xs n = -1 ∨ ∃ j : Nat, j < xs.length ∧ findI p xs n = ((n + j : Nat) : Int)
  | [], _ => .inl rfl
  | x :: xs, n => by
    unfold findI
    split
    · exact .inr ⟨0, by simp, by simp⟩
    · rcases findI_lt p xs (n + 1) with h | ⟨j, h1, h2⟩
      · exact .inl (by rw [← h]; norm_cast)
      · refine .inr ⟨j + 1, by simp only [List.length_cons]; omega, ?_⟩
        have e : ((n : Int) + 1) = ((n + 1 : Nat) : Int) := by omega
        rw [e, h2]; omega
theorem findS_cases (l : List Sm) (k : Key) : findS l k = -1 ∨ ∃ j : Nat, j < l.length ∧ findS l k = (j : Int) := by
  rcases findI_lt (fun x => keyEq (keyOf x) k) l 0 with h | ⟨j, h1, h2⟩
  · exact .inl h
  · exact .inr ⟨j, h1, by unfold findS; rw [show (0 : Int) = ((0 : Nat) : Int) from rfl, h2]; simp⟩
end Go.Proofs.Ytdpdlobaabcjjaa
/-
  Conversations made of messages, by the document's function: the loop. No statement of the seat stands here.
-/
namespace Go.Proofs.Ytdpdlobaabcjjaa
open Go Go.Am
set_option maxRecDepth 4000
set_option linter.unusedSimpArgs false
set_option linter.unusedVariables false

theorem l15_eq : l15_18 = .seq (.seq (.reg r15_3) (.cond (.tmp 13) .skip (.exit 0))) (.seq (.block 1 (.seq (.reg r15_4) (.seq (.reg r15_5) (.seq (.reg r15_6) (.seq (.seq (.reg r15_7) (.cond (.tmp 29) (.seq (.reg r15_8) (.reg r15_9)) .skip)) tail15))))) (.reg r15_17)) := rfl
theorem fn15 (H : Hp) (s : V) (l : List Tk) (hs : Sl H s 7 (l.map tkC)) (hlen : l.length ≤ 200) : ∃ v H2, callL Try.prog pr 15 [s] H = some (v, H2) ∧ Own H2 v 11 ((convsOf l).map smC).flatten ∧ (∃ G, H2 = H ++ G) ∧ ∀ id, At v id → H.length ≤ id := by
  have hl : (l.map tkC).length = l.length := List.length_map _
  have hlenS := fun H' => hs.len (P := Try.prog) (H' := H') s34
  rw [hl] at hlenS
  refine own1_of (run15 (Nat.le_of_ble_eq_true rfl) ?_) (sm_leaf _)
  simp (disch := omega) only [c15, r15_0, r15_1, r15_2, rs15, ↓reduceIte, go_sem, Nat.reduceLT, Nat.reduceEqDiff, Nat.reduceAdd, Nat.reduceMul, Nat.reduceLeDiff, Int.reduceLT, Int.reduceLE, Int.reduceEq, Int.reduceNeg, Int.reduceToNat]
  refine Wp_loop (fun m T D H' => ∃ i out, m = l.length - i ∧ i ≤ l.length ∧ D = [] ∧ get T 0 = s ∧ get T 4 = .int .i64 i ∧ get T 3 = out ∧ H.length ≤ H'.length ∧ (∀ id, id < H.length → H'[id]? = H[id]?) ∧ Own H' out 11 ((convsOf (l.take i)).map smC).flatten ∧ ∀ id, At out id → H.length ≤ id) ?_ l.length _ _ _ ?_
  · rintro m T D H' ⟨i, out, rfl, hi, rfl, t0, t4, t3, hle, hfr, ho, hat⟩
    by_cases hlt : i < l.length
    · have hlt' : (i : Int) < l.length := by omega
      obtain ⟨t, ht⟩ : ∃ t, l[i]? = some t := ⟨_, List.getElem?_eq_getElem hlt⟩
      have hx' : (l.map tkC)[i]? = some (tkC t) := by rw [List.getElem?_map, ht]; rfl
      have hi2 := fun k => hs.idx (P := Try.prog) (k := k) s34 (i := i) (by omega)
      have hs1 : Sl H' s 7 (l.map tkC) := hs.move fun id h => hfr id (hs.at_lt h)
      have hag := hs1.agg (P := Try.prog) g58 z58 hx'
      have hcl := convsOf_len l i
      have hfl := sm_flat (convsOf (l.take i))
      generalize hxs : convsOf (l.take i) = xs at ho hcl hfl
      have hsx : ∀ L1 L2 : Hp, Sl (H' ++ L1 ++ L2) out 11 (xs.map smC) := fun L1 L2 => ((ho.sl (sm_all xs) (by omega)).app).app
      have h37 := fun L1 L2 => fn37 (H' ++ L1 ++ L2) out xs (tkKey t) (hsx L1 L2) (by omega)
      have hlenO := fun H2 => (ho.sl (sm_all xs) (by omega)).len (P := Try.prog) (H' := H2) s37
      rw [List.length_map] at hlenO
      have hstep : convsOf (l.take (i + 1)) = convStep xs t := by rw [convsOf_snoc ht, hxs]
      -- the heap's two new rows: the message and its key
      obtain ⟨Hx, hHx⟩ : ∃ Hx, Hx = H' ++ [AB.row 0 (tkC t) true] ++ [AB.row 0 (keyC (tkKey t)) true] := ⟨_, rfl⟩
      have hxl : Hx.length = H'.length + 2 := by rw [hHx]; simp
      have oX : Own Hx out 11 (xs.map smC).flatten := by rw [hHx]; exact ho.app.app
      have x0 : loadV Try.prog 3 Hx (.ptr H'.length 0 0) = some (.int .i64 t.time) := by
        rw [hHx]; simp (disch := exact lt_new _) only [↓reduceIte, go_sem, Nat.reduceLT, Nat.reduceEqDiff, Nat.reduceAdd, Nat.reduceMul, Nat.reduceLeDiff, Int.reduceLT, Int.reduceLE, Int.reduceEq, Int.reduceNeg, Int.reduceToNat]
      have x6 : loadV Try.prog 3 Hx (.ptr H'.length 0 6) = some (.int .i64 t.size) := by
        rw [hHx]; simp (disch := exact lt_new _) only [↓reduceIte, go_sem, Nat.reduceLT, Nat.reduceEqDiff, Nat.reduceAdd, Nat.reduceMul, Nat.reduceLeDiff, Int.reduceLT, Int.reduceLE, Int.reduceEq, Int.reduceNeg, Int.reduceToNat]
      have xfr : ∀ id, id < H'.length → Hx[id]? = H'[id]? := fun id hid => by
        rw [hHx, List.append_assoc, List.getElem?_append_left hid]
      rcases findS_cases xs (tkKey t) with hf | ⟨j, hj, hf⟩
      · have hn : xs ++ [newSm t] = xs ++ [newSm t] := rfl
        obtain ⟨o', H1, e1, o1, f1, le1, at1⟩ := oX.push (by_ := 88) (ys := smC (newSm t)) rfl rfl (by omega) (by omega) (by omega)
        have o1' : Own H1 o' 11 ((xs ++ [newSm t]).map smC).flatten := by
          rw [List.map_append, List.flatten_append]; simpa using o1
        have y0 : loadV Try.prog 3 H1 (.ptr H'.length 0 0) = some (.int .i64 t.time) := by
          rw [← x0]; exact load_frame (f1 _ (by omega) fun h => by have := ho.lt h; omega)
        have y6 : loadV Try.prog 3 H1 (.ptr H'.length 0 6) = some (.int .i64 t.size) := by
          rw [← x6]; exact load_frame (f1 _ (by omega) fun h => by have := ho.lt h; omega)
        rw [hHx] at e1
        simp only [newSm] at e1
        have hf' : findI (fun x => keyEq (keyOf x) (tkKey t)) xs 0 = -1 := hf
        rw [l15_eq]
        simp (config := { maxSteps := 1000000 }) (disch := first | exact lt_new _ | exact len_snoc _ _ _ | omega) only [r15_3, r15_4, r15_5, r15_6, r15_7, r15_8, r15_9, ↓reduceIte, go_sem, Nat.reduceLT, Nat.reduceEqDiff, Nat.reduceAdd, Nat.reduceMul, Nat.reduceLeDiff, Int.reduceLT, Int.reduceLE, Int.reduceEq, Int.reduceNeg, Int.reduceToNat, t0, t4, t3, hlt', hlenS, hi2, hag, fn36, h37, hf', hlenO, e1]
        refine tail15_ok (x := newSm t) (i := xs.length) (tb := H'.length) o1' (by simp) (by simp only [↓reduceIte, go_sem, Nat.reduceLT, Nat.reduceEqDiff, Nat.reduceAdd, Nat.reduceMul, Nat.reduceLeDiff, Int.reduceLT, Int.reduceLE, Int.reduceEq, Int.reduceNeg, Int.reduceToNat]) (by simp only [↓reduceIte, go_sem, Nat.reduceLT, Nat.reduceEqDiff, Nat.reduceAdd, Nat.reduceMul, Nat.reduceLeDiff, Int.reduceLT, Int.reduceLE, Int.reduceEq, Int.reduceNeg, Int.reduceToNat]) (by simp only [↓reduceIte, go_sem, Nat.reduceLT, Nat.reduceEqDiff, Nat.reduceAdd, Nat.reduceMul, Nat.reduceLeDiff, Int.reduceLT, Int.reduceLE, Int.reduceEq, Int.reduceNeg, Int.reduceToNat]) (by simp only [↓reduceIte, go_sem, Nat.reduceLT, Nat.reduceEqDiff, Nat.reduceAdd, Nat.reduceMul, Nat.reduceLeDiff, Int.reduceLT, Int.reduceLE, Int.reduceEq, Int.reduceNeg, Int.reduceToNat]) (fun h => ?_) y0 y6 fun T' H2 k0 k3 k4 ko kf kl => ?_
        · rcases at1 _ h with h | h
          · have := ho.lt h; omega
          · omega
        · simp (disch := omega) only [↓reduceIte, go_sem, Nat.reduceLT, Nat.reduceEqDiff, Nat.reduceAdd, Nat.reduceMul, Nat.reduceLeDiff, Int.reduceLT, Int.reduceLE, Int.reduceEq, Int.reduceNeg, Int.reduceToNat, t0, t4] at k0 k4
          simp (disch := omega) only [r15_17, ↓reduceIte, go_sem, Nat.reduceLT, Nat.reduceEqDiff, Nat.reduceAdd, Nat.reduceMul, Nat.reduceLeDiff, Int.reduceLT, Int.reduceLE, Int.reduceEq, Int.reduceNeg, Int.reduceToNat, k0, k3, k4, IntWalk.i64_in]
          refine ⟨_, by omega, i + 1, o', rfl, hlt, rfl, rfl, by omega, fun id hid => ?_, ?_, fun id h => ?_⟩
          · rw [kf id fun h => ?_, f1 id (by omega) fun h => by have := hat id h; omega, xfr id (by omega)]
            · exact hfr id hid
            · rcases at1 _ h with h | h
              · have := hat id h; omega
              · omega
          · rw [hstep]
            unfold convStep
            rw [if_pos (by omega)]
            exact ko
          · rcases at1 _ h with h | h
            · exact hat id h
            · omega
      · have hf' : findI (fun x => keyEq (keyOf x) (tkKey t)) xs 0 = (j : Int) := hf
        obtain ⟨x, hx⟩ : ∃ x, xs[j]? = some x := ⟨_, List.getElem?_eq_getElem hj⟩
        have hneg : ¬ ((j : Int) < 0) := by omega
        rw [l15_eq]
        simp (config := { maxSteps := 1000000 }) (disch := first | exact lt_new _ | exact len_snoc _ _ _ | omega) only [r15_3, r15_4, r15_5, r15_6, r15_7, r15_8, r15_9, ↓reduceIte, go_sem, Nat.reduceLT, Nat.reduceEqDiff, Nat.reduceAdd, Nat.reduceMul, Nat.reduceLeDiff, Int.reduceLT, Int.reduceLE, Int.reduceEq, Int.reduceNeg, Int.reduceToNat, t0, t4, t3, hlt', hlenS, hi2, hag, fn36, h37, hf', hlenO, hneg]
        rw [← hHx]
        refine tail15_ok (i := j) (tb := H'.length) oX hx (by simp only [↓reduceIte, go_sem, Nat.reduceLT, Nat.reduceEqDiff, Nat.reduceAdd, Nat.reduceMul, Nat.reduceLeDiff, Int.reduceLT, Int.reduceLE, Int.reduceEq, Int.reduceNeg, Int.reduceToNat, t3]) (by simp only [↓reduceIte, go_sem, Nat.reduceLT, Nat.reduceEqDiff, Nat.reduceAdd, Nat.reduceMul, Nat.reduceLeDiff, Int.reduceLT, Int.reduceLE, Int.reduceEq, Int.reduceNeg, Int.reduceToNat]) (by simp only [↓reduceIte, go_sem, Nat.reduceLT, Nat.reduceEqDiff, Nat.reduceAdd, Nat.reduceMul, Nat.reduceLeDiff, Int.reduceLT, Int.reduceLE, Int.reduceEq, Int.reduceNeg, Int.reduceToNat]) (by simp only [↓reduceIte, go_sem, Nat.reduceLT, Nat.reduceEqDiff, Nat.reduceAdd, Nat.reduceMul, Nat.reduceLeDiff, Int.reduceLT, Int.reduceLE, Int.reduceEq, Int.reduceNeg, Int.reduceToNat]) (fun h => ?_) x0 x6 fun T' H2 k0 k3 k4 ko kf kl => ?_
        · have := ho.lt h; omega
        · simp (disch := omega) only [↓reduceIte, go_sem, Nat.reduceLT, Nat.reduceEqDiff, Nat.reduceAdd, Nat.reduceMul, Nat.reduceLeDiff, Int.reduceLT, Int.reduceLE, Int.reduceEq, Int.reduceNeg, Int.reduceToNat, t0, t4] at k0 k4
          simp (disch := omega) only [r15_17, ↓reduceIte, go_sem, Nat.reduceLT, Nat.reduceEqDiff, Nat.reduceAdd, Nat.reduceMul, Nat.reduceLeDiff, Int.reduceLT, Int.reduceLE, Int.reduceEq, Int.reduceNeg, Int.reduceToNat, k0, k3, k4, IntWalk.i64_in]
          refine ⟨_, by omega, i + 1, out, rfl, hlt, rfl, rfl, by omega, fun id hid => ?_, ?_, hat⟩
          · rw [kf id fun h => by have := hat id h; omega, xfr id (by omega)]
            exact hfr id hid
          · rw [hstep]
            unfold convStep
            rw [if_neg (by omega), hf, Int.toNat_natCast, hx]
            exact ko
    · obtain rfl : i = l.length := by omega
      rw [List.take_length] at ho
      simp (disch := omega) only [l15_18, r15_3, r15_19, ↓reduceIte, go_sem, Nat.reduceLT, Nat.reduceEqDiff, Nat.reduceAdd, Nat.reduceMul, Nat.reduceLeDiff, Int.reduceLT, Int.reduceLE, Int.reduceEq, Int.reduceNeg, Int.reduceToNat, t0, t4, t3, hlenS, Int.lt_irrefl]
      exact ⟨ho, hfr, hat⟩
  · exact ⟨0, .nilslice, by simp [go_sem, own_nil, At, convsOf]⟩
end Go.Proofs.Ytdpdlobaabcjjaa
/-
  Conversations, one number of which may be another one: walked. No statement of the seat stands here.
-/
namespace Go.Proofs.Ytdpdlobaabcjjaa
open Go Go.Am
set_option maxRecDepth 4000
set_option linter.unusedSimpArgs false
set_option linter.unusedVariables false

set_option maxHeartbeats 2000000 in
theorem fn14 (H : Hp) (s : V) (l : List Sm) (a b c : Int) (hs : Sl H s 11 (l.map smC)) (hlen : l.length ≤ 1000) : ∃ ks : List Sm, ks.length = l.length ∧ ∃ v H2, callL Try.prog pr 14 [s, .agg [.int .i64 a, .int .i64 b, .int .i64 c]] H = some (v, H2) ∧ Own H2 v 11 (ks.map smC).flatten ∧ (∃ G, H2 = H ++ G) ∧ ∀ id, At v id → H.length ≤ id := by
  have hl : (l.map smC).length = l.length := List.length_map _
  suffices h : ∃ ks : List Sm, ks.length = l.length ∧ Wp Try.prog (callL Try.prog pr) 119 c14 [s, .agg [.int .i64 a, .int .i64 b, .int .i64 c]] [] H (RetQ Try.prog rs14 (RetOwn1 H 11 (ks.map smC).flatten)) by
    obtain ⟨ks, h1, h2⟩ := h
    exact ⟨ks, h1, own1_of (run14 (Nat.le_of_ble_eq_true rfl) h2) (sm_leaf ks)⟩
  have hsb : Sl (H ++ [.row 0 [.int .i64 a, .int .i64 b, .int .i64 c] true]) s 11 (l.map smC) := hs.app
  by_cases hn : l = []
  · subst hn
    have e1 : appOf 11 88 (H ++ [.row 0 [.int .i64 a, .int .i64 b, .int .i64 c] true]) .nilslice s = some (.nilslice, H ++ [.row 0 [.int .i64 a, .int .i64 b, .int .i64 c] true]) := by
      unfold appOf
      rw [hsb.src]
      simp
    refine ⟨[], rfl, ?_⟩
    have ho : RetOwn1 H 11 (([] : List Sm).map smC).flatten .nilslice (H ++ [.row 0 [.int .i64 a, .int .i64 b, .int .i64 c] true]) := ⟨own_nil _ _, fun id h => List.getElem?_append_left h, by simp [At]⟩
    by_cases ha : a < 0
    · simp (disch := first | exact lt_new _ | omega) only [c14, r14_0, r14_1, r14_2, r14_3, rs14, ↓reduceIte, go_sem, Nat.reduceLT, Nat.reduceEqDiff, Nat.reduceAdd, Nat.reduceMul, Nat.reduceLeDiff, Int.reduceLT, Int.reduceLE, Int.reduceEq, Int.reduceNeg, Int.reduceToNat, e1, ha]
      exact ho
    · have ha' : 0 ≤ a := by omega
      simp (disch := first | exact lt_new _ | omega) only [c14, r14_0, r14_1, r14_2, r14_3, rs14, ↓reduceIte, go_sem, Nat.reduceLT, Nat.reduceEqDiff, Nat.reduceAdd, Nat.reduceMul, Nat.reduceLeDiff, Int.reduceLT, Int.reduceLE, Int.reduceEq, Int.reduceNeg, Int.reduceToNat, e1, ha, ha']
      exact ho
  · have hn' : l.map smC ≠ [] := by simpa using hn
    have hn0 : l.length ≠ 0 := fun e => hn (List.length_eq_zero_iff.1 e)
    have e1 := app_nil' (by_ := 88) hsb (sm_cell l) hn' (by omega) (by omega)
    rw [hl] at e1
    obtain ⟨H1, hH1⟩ : ∃ H1, H1 = H ++ [AB.row 0 [.int .i64 a, .int .i64 b, .int .i64 c] true] ++ [.row 0 (l.map smC).flatten true] := ⟨_, rfl⟩
    obtain ⟨o, hoe⟩ : ∃ o, o = V.slice (H ++ [AB.row 0 [.int .i64 a, .int .i64 b, .int .i64 c] true]).length 0 0 l.length 11 .full := ⟨_, rfl⟩
    rw [← hH1, ← hoe] at e1
    have o1 : Own H1 o 11 (l.map smC).flatten := by
      rw [hH1, hoe]
      exact .inr ⟨_, 0, _, rfl, by rw [sm_flat], by omega, by simp⟩
    have f1 : ∀ id, id < H.length → H1[id]? = H[id]? := fun id h => by rw [hH1, List.append_assoc, List.getElem?_append_left h]
    have a1 : ∀ id, At o id → H.length < id := by
      rintro id ⟨_, _, _, _, _, e⟩
      rw [hoe] at e
      injection e with e1
      rw [← e1]; simp
    have hlenO := fun H2 => (o1.sl (sm_all l) (by omega)).len (P := Try.prog) (H' := H2) s37
    rw [hl] at hlenO
    have b0 : loadV Try.prog 3 H1 (.ptr H.length 0 0) = some (.int .i64 a) := by rw [hH1]; simp (disch := exact lt_new _) only [↓reduceIte, go_sem, Nat.reduceLT, Nat.reduceEqDiff, Nat.reduceAdd, Nat.reduceMul, Nat.reduceLeDiff, Int.reduceLT, Int.reduceLE, Int.reduceEq, Int.reduceNeg, Int.reduceToNat]
    have b1 : loadV Try.prog 3 H1 (.ptr H.length 0 1) = some (.int .i64 b) := by rw [hH1]; simp (disch := exact lt_new _) only [↓reduceIte, go_sem, Nat.reduceLT, Nat.reduceEqDiff, Nat.reduceAdd, Nat.reduceMul, Nat.reduceLeDiff, Int.reduceLT, Int.reduceLE, Int.reduceEq, Int.reduceNeg, Int.reduceToNat]
    have b2 : loadV Try.prog 3 H1 (.ptr H.length 0 2) = some (.int .i64 c) := by rw [hH1]; simp (disch := exact lt_new _) only [↓reduceIte, go_sem, Nat.reduceLT, Nat.reduceEqDiff, Nat.reduceAdd, Nat.reduceMul, Nat.reduceLeDiff, Int.reduceLT, Int.reduceLE, Int.reduceEq, Int.reduceNeg, Int.reduceToNat]
    have keep : RetOwn1 H 11 (l.map smC).flatten o H1 := ⟨o1, f1, fun id h => by have := a1 id h; omega⟩
    by_cases ha : a < 0
    · refine ⟨l, rfl, ?_⟩
      simp (disch := first | exact lt_new _ | omega) only [c14, r14_0, r14_1, r14_2, r14_3, rs14, ↓reduceIte, go_sem, Nat.reduceLT, Nat.reduceEqDiff, Nat.reduceAdd, Nat.reduceMul, Nat.reduceLeDiff, Int.reduceLT, Int.reduceLE, Int.reduceEq, Int.reduceNeg, Int.reduceToNat, e1, ha, b0]
      exact keep
    · by_cases ha2 : (l.length : Int) ≤ a
      · refine ⟨l, rfl, ?_⟩
        simp (disch := first | exact lt_new _ | omega) only [c14, r14_0, r14_1, r14_2, r14_3, rs14, ↓reduceIte, go_sem, Nat.reduceLT, Nat.reduceEqDiff, Nat.reduceAdd, Nat.reduceMul, Nat.reduceLeDiff, Int.reduceLT, Int.reduceLE, Int.reduceEq, Int.reduceNeg, Int.reduceToNat, e1, ha, ha2, b0, hlenO]
        exact keep
      · obtain ⟨i, rfl⟩ : ∃ i : Nat, a = i := ⟨a.toNat, by omega⟩
        have hi : i < l.length := by omega
        obtain ⟨x, hx⟩ : ∃ x, l[i]? = some x := ⟨_, List.getElem?_eq_getElem hi⟩
        obtain ⟨id, g, pre, post, ho2, hid, hpre, hH, hset⟩ := o1.focus smC_len (by omega) hx
        have hne : id ≠ H.length := fun e => by
          have := a1 id (by rw [ho2]; exact ⟨_, _, _, _, _, rfl⟩)
          omega
        have hia := i37 (id := id) (g := g) (off := 0) (n := l.length) (cp := .full) (k := .i64) (j := (i : Int)) ⟨by omega, by omega⟩
        rw [Int.toNat_natCast, hpre, ← ho2] at hia
        have done : ∀ x', RetOwn1 H 11 ((l.set i x').map smC).flatten o (H1.set id (.row g (pre ++ smC x' ++ post) true)) := fun x' =>
          ⟨hset x', fun j hj => by
            rw [List.getElem?_set_ne (by
              have := a1 id (by rw [ho2]; exact ⟨_, _, _, _, _, rfl⟩)
              omega)]
            exact f1 j hj, fun j h => by have := a1 j h; omega⟩
        have hi0 : ¬ ((i : Int) < 0) := by omega
        rw [hH] at e1 b0 b1 b2
        rw [foc_other hne] at b0 b1 b2
        by_cases k0 : b = 0
        · subst k0
          refine ⟨l.set i ⟨c, x.ap, x.b, x.bp, x.proto, x.go, x.gb, x.back, x.bb, x.first, x.last⟩, by simp, ?_⟩
          simp (config := { maxSteps := 1000000 }) (disch := first | exact lt_new _ | exact hid | exact hne | exact Nat.le_of_ble_eq_true rfl | omega) only [c14, r14_0, r14_1, r14_2, r14_4, r14_5, r14_6, r14_7, r14_31, rs14, ↓reduceIte, go_sem, Nat.reduceLT, Nat.reduceEqDiff, Nat.reduceAdd, Nat.reduceMul, Nat.reduceLeDiff, Int.reduceLT, Int.reduceLE, Int.reduceEq, Int.reduceNeg, Int.reduceToNat, e1, hi0, ha2, b0, b1, b2, hlenO, hia, foc_other, foc_stI z3]
          exact done ⟨c, x.ap, x.b, x.bp, x.proto, x.go, x.gb, x.back, x.bb, x.first, x.last⟩
        by_cases k1 : b = 1
        · subst k1
          refine ⟨l.set i ⟨x.a, c, x.b, x.bp, x.proto, x.go, x.gb, x.back, x.bb, x.first, x.last⟩, by simp, ?_⟩
          simp (config := { maxSteps := 1000000 }) (disch := first | exact lt_new _ | exact hid | exact hne | exact Nat.le_of_ble_eq_true rfl | omega) only [c14, r14_0, r14_1, r14_2, r14_4, r14_5, r14_6, r14_8, r14_9, r14_31, rs14, ↓reduceIte, go_sem, Nat.reduceLT, Nat.reduceEqDiff, Nat.reduceAdd, Nat.reduceMul, Nat.reduceLeDiff, Int.reduceLT, Int.reduceLE, Int.reduceEq, Int.reduceNeg, Int.reduceToNat, e1, hi0, ha2, b0, b1, b2, hlenO, hia, foc_other, foc_stI z3]
          exact done ⟨x.a, c, x.b, x.bp, x.proto, x.go, x.gb, x.back, x.bb, x.first, x.last⟩
        by_cases k2 : b = 2
        · subst k2
          refine ⟨l.set i ⟨x.a, x.ap, c, x.bp, x.proto, x.go, x.gb, x.back, x.bb, x.first, x.last⟩, by simp, ?_⟩
          simp (config := { maxSteps := 1000000 }) (disch := first | exact lt_new _ | exact hid | exact hne | exact Nat.le_of_ble_eq_true rfl | omega) only [c14, r14_0, r14_1, r14_2, r14_4, r14_5, r14_6, r14_8, r14_10, r14_11, r14_31, rs14, ↓reduceIte, go_sem, Nat.reduceLT, Nat.reduceEqDiff, Nat.reduceAdd, Nat.reduceMul, Nat.reduceLeDiff, Int.reduceLT, Int.reduceLE, Int.reduceEq, Int.reduceNeg, Int.reduceToNat, e1, hi0, ha2, b0, b1, b2, hlenO, hia, foc_other, foc_stI z3]
          exact done ⟨x.a, x.ap, c, x.bp, x.proto, x.go, x.gb, x.back, x.bb, x.first, x.last⟩
        by_cases k3 : b = 3
        · subst k3
          refine ⟨l.set i ⟨x.a, x.ap, x.b, c, x.proto, x.go, x.gb, x.back, x.bb, x.first, x.last⟩, by simp, ?_⟩
          simp (config := { maxSteps := 1000000 }) (disch := first | exact lt_new _ | exact hid | exact hne | exact Nat.le_of_ble_eq_true rfl | omega) only [c14, r14_0, r14_1, r14_2, r14_4, r14_5, r14_6, r14_8, r14_10, r14_12, r14_13, r14_31, rs14, ↓reduceIte, go_sem, Nat.reduceLT, Nat.reduceEqDiff, Nat.reduceAdd, Nat.reduceMul, Nat.reduceLeDiff, Int.reduceLT, Int.reduceLE, Int.reduceEq, Int.reduceNeg, Int.reduceToNat, e1, hi0, ha2, b0, b1, b2, hlenO, hia, foc_other, foc_stI z3]
          exact done ⟨x.a, x.ap, x.b, c, x.proto, x.go, x.gb, x.back, x.bb, x.first, x.last⟩
        by_cases k4 : b = 4
        · subst k4
          refine ⟨l.set i ⟨x.a, x.ap, x.b, x.bp, c, x.go, x.gb, x.back, x.bb, x.first, x.last⟩, by simp, ?_⟩
          simp (config := { maxSteps := 1000000 }) (disch := first | exact lt_new _ | exact hid | exact hne | exact Nat.le_of_ble_eq_true rfl | omega) only [c14, r14_0, r14_1, r14_2, r14_4, r14_5, r14_6, r14_8, r14_10, r14_12, r14_14, r14_15, r14_31, rs14, ↓reduceIte, go_sem, Nat.reduceLT, Nat.reduceEqDiff, Nat.reduceAdd, Nat.reduceMul, Nat.reduceLeDiff, Int.reduceLT, Int.reduceLE, Int.reduceEq, Int.reduceNeg, Int.reduceToNat, e1, hi0, ha2, b0, b1, b2, hlenO, hia, foc_other, foc_stI z3]
          exact done ⟨x.a, x.ap, x.b, x.bp, c, x.go, x.gb, x.back, x.bb, x.first, x.last⟩
        by_cases k5 : b = 5
        · subst k5
          refine ⟨l.set i ⟨x.a, x.ap, x.b, x.bp, x.proto, c, x.gb, x.back, x.bb, x.first, x.last⟩, by simp, ?_⟩
          simp (config := { maxSteps := 1000000 }) (disch := first | exact lt_new _ | exact hid | exact hne | exact Nat.le_of_ble_eq_true rfl | omega) only [c14, r14_0, r14_1, r14_2, r14_4, r14_5, r14_6, r14_8, r14_10, r14_12, r14_14, r14_16, r14_17, r14_31, rs14, ↓reduceIte, go_sem, Nat.reduceLT, Nat.reduceEqDiff, Nat.reduceAdd, Nat.reduceMul, Nat.reduceLeDiff, Int.reduceLT, Int.reduceLE, Int.reduceEq, Int.reduceNeg, Int.reduceToNat, e1, hi0, ha2, b0, b1, b2, hlenO, hia, foc_other, foc_stI z3]
          exact done ⟨x.a, x.ap, x.b, x.bp, x.proto, c, x.gb, x.back, x.bb, x.first, x.last⟩
        by_cases k6 : b = 6
        · subst k6
          refine ⟨l.set i ⟨x.a, x.ap, x.b, x.bp, x.proto, x.go, c, x.back, x.bb, x.first, x.last⟩, by simp, ?_⟩
          simp (config := { maxSteps := 1000000 }) (disch := first | exact lt_new _ | exact hid | exact hne | exact Nat.le_of_ble_eq_true rfl | omega) only [c14, r14_0, r14_1, r14_2, r14_4, r14_5, r14_6, r14_8, r14_10, r14_12, r14_14, r14_16, r14_18, r14_19, r14_31, rs14, ↓reduceIte, go_sem, Nat.reduceLT, Nat.reduceEqDiff, Nat.reduceAdd, Nat.reduceMul, Nat.reduceLeDiff, Int.reduceLT, Int.reduceLE, Int.reduceEq, Int.reduceNeg, Int.reduceToNat, e1, hi0, ha2, b0, b1, b2, hlenO, hia, foc_other, foc_stI z3]
          exact done ⟨x.a, x.ap, x.b, x.bp, x.proto, x.go, c, x.back, x.bb, x.first, x.last⟩
        by_cases k7 : b = 7
        · subst k7
          refine ⟨l.set i ⟨x.a, x.ap, x.b, x.bp, x.proto, x.go, x.gb, c, x.bb, x.first, x.last⟩, by simp, ?_⟩
          simp (config := { maxSteps := 1000000 }) (disch := first | exact lt_new _ | exact hid | exact hne | exact Nat.le_of_ble_eq_true rfl | omega) only [c14, r14_0, r14_1, r14_2, r14_4, r14_5, r14_6, r14_8, r14_10, r14_12, r14_14, r14_16, r14_18, r14_20, r14_21, r14_31, rs14, ↓reduceIte, go_sem, Nat.reduceLT, Nat.reduceEqDiff, Nat.reduceAdd, Nat.reduceMul, Nat.reduceLeDiff, Int.reduceLT, Int.reduceLE, Int.reduceEq, Int.reduceNeg, Int.reduceToNat, e1, hi0, ha2, b0, b1, b2, hlenO, hia, foc_other, foc_stI z3]
          exact done ⟨x.a, x.ap, x.b, x.bp, x.proto, x.go, x.gb, c, x.bb, x.first, x.last⟩
        by_cases k8 : b = 8
        · subst k8
          refine ⟨l.set i ⟨x.a, x.ap, x.b, x.bp, x.proto, x.go, x.gb, x.back, c, x.first, x.last⟩, by simp, ?_⟩
          simp (config := { maxSteps := 1000000 }) (disch := first | exact lt_new _ | exact hid | exact hne | exact Nat.le_of_ble_eq_true rfl | omega) only [c14, r14_0, r14_1, r14_2, r14_4, r14_5, r14_6, r14_8, r14_10, r14_12, r14_14, r14_16, r14_18, r14_20, r14_22, r14_23, r14_31, rs14, ↓reduceIte, go_sem, Nat.reduceLT, Nat.reduceEqDiff, Nat.reduceAdd, Nat.reduceMul, Nat.reduceLeDiff, Int.reduceLT, Int.reduceLE, Int.reduceEq, Int.reduceNeg, Int.reduceToNat, e1, hi0, ha2, b0, b1, b2, hlenO, hia, foc_other, foc_stI z3]
          exact done ⟨x.a, x.ap, x.b, x.bp, x.proto, x.go, x.gb, x.back, c, x.first, x.last⟩
        by_cases k9 : b = 9
        · subst k9
          refine ⟨l.set i ⟨x.a, x.ap, x.b, x.bp, x.proto, x.go, x.gb, x.back, x.bb, c, x.last⟩, by simp, ?_⟩
          simp (config := { maxSteps := 1000000 }) (disch := first | exact lt_new _ | exact hid | exact hne | exact Nat.le_of_ble_eq_true rfl | omega) only [c14, r14_0, r14_1, r14_2, r14_4, r14_5, r14_6, r14_8, r14_10, r14_12, r14_14, r14_16, r14_18, r14_20, r14_22, r14_24, r14_25, r14_31, rs14, ↓reduceIte, go_sem, Nat.reduceLT, Nat.reduceEqDiff, Nat.reduceAdd, Nat.reduceMul, Nat.reduceLeDiff, Int.reduceLT, Int.reduceLE, Int.reduceEq, Int.reduceNeg, Int.reduceToNat, e1, hi0, ha2, b0, b1, b2, hlenO, hia, foc_other, foc_stI z3]
          exact done ⟨x.a, x.ap, x.b, x.bp, x.proto, x.go, x.gb, x.back, x.bb, c, x.last⟩
        by_cases k10 : b = 10
        · subst k10
          refine ⟨l.set i ⟨x.a, x.ap, x.b, x.bp, x.proto, x.go, x.gb, x.back, x.bb, x.first, c⟩, by simp, ?_⟩
          simp (config := { maxSteps := 1000000 }) (disch := first | exact lt_new _ | exact hid | exact hne | exact Nat.le_of_ble_eq_true rfl | omega) only [c14, r14_0, r14_1, r14_2, r14_4, r14_5, r14_6, r14_8, r14_10, r14_12, r14_14, r14_16, r14_18, r14_20, r14_22, r14_24, r14_26, r14_27, r14_31, rs14, ↓reduceIte, go_sem, Nat.reduceLT, Nat.reduceEqDiff, Nat.reduceAdd, Nat.reduceMul, Nat.reduceLeDiff, Int.reduceLT, Int.reduceLE, Int.reduceEq, Int.reduceNeg, Int.reduceToNat, e1, hi0, ha2, b0, b1, b2, hlenO, hia, foc_other, foc_stI z3]
          exact done ⟨x.a, x.ap, x.b, x.bp, x.proto, x.go, x.gb, x.back, x.bb, x.first, c⟩
        by_cases k11 : b = 11
        · subst k11
          by_cases h1 : 1 < l.length
          · have h1' : (1 : Int) < l.length := by omega
            obtain ⟨m, hm⟩ : ∃ m, m = (i + 1) % l.length := ⟨_, rfl⟩
            have hml : m < l.length := by rw [hm]; exact Nat.mod_lt _ (by omega)
            have hmod : ((i : Int) + 1).tmod (l.length : Int) = (m : Int) := by
              rw [Int.tmod_eq_emod_of_nonneg (by omega), hm]
              show ((i + 1 : Nat) : Int) % (l.length : Int) = _
              rw [← Int.natCast_emod]
            obtain ⟨y, hy⟩ : ∃ y, l[m]? = some y := ⟨_, List.getElem?_eq_getElem hml⟩
            have hy' : (l.map smC)[m]? = some (smC y) := by rw [List.getElem?_map, hy]; rfl
            have sl1 := o1.sl (sm_all l) (by omega)
            have hj := fun k => sl1.idx (P := Try.prog) (k := k) s37 (i := m) (by rw [hl]; exact hml)
            have hld := sl1.agg (P := Try.prog) g80 z80 hy'
            have hld' : loadV Try.prog 80 (H1.set id (.row g (pre ++ smC x ++ post) true)) (.ptr (vid o) (vgen o) (voff o + m * 11)) = some (.agg (smC y)) := by rw [← hH]; exact hld
            have hst : storeV Try.prog 80 (H1.set id (.row g (pre ++ smC x ++ post) true)) (.ptr id g pre.length) (.agg (smC y)) = some (H1.set id (.row g (pre ++ smC y ++ post) true)) := foc_stA z80 hid rfl rfl rfl
            have hl0 : ¬ (l.length : Int) = 0 := by omega
            refine ⟨l.set i y, by simp, ?_⟩
            simp (config := { maxSteps := 1000000 }) (disch := first | exact lt_new _ | exact hid | exact hne | exact Nat.le_of_ble_eq_true rfl | omega) only [c14, r14_0, r14_1, r14_2, r14_4, r14_5, r14_6, r14_8, r14_10, r14_12, r14_14, r14_16, r14_18, r14_20, r14_22, r14_24, r14_26, r14_28, r14_29, r14_30, r14_31, rs14, ↓reduceIte, go_sem, Nat.reduceLT, Nat.reduceEqDiff, Nat.reduceAdd, Nat.reduceMul, Nat.reduceLeDiff, Int.reduceLT, Int.reduceLE, Int.reduceEq, Int.reduceNeg, Int.reduceToNat, e1, hi0, ha2, b0, b1, b2, hlenO, hia, h1', hmod, hj, hld', hst, hl0, foc_other, IntWalk.i64_in]
            exact done y
          · have h1' : ¬ (1 : Int) < l.length := by omega
            refine ⟨l, rfl, ?_⟩
            simp (config := { maxSteps := 1000000 }) (disch := first | exact lt_new _ | exact hid | exact hne | exact Nat.le_of_ble_eq_true rfl | omega) only [c14, r14_0, r14_1, r14_2, r14_4, r14_5, r14_6, r14_8, r14_10, r14_12, r14_14, r14_16, r14_18, r14_20, r14_22, r14_24, r14_26, r14_28, r14_29, r14_31, rs14, ↓reduceIte, go_sem, Nat.reduceLT, Nat.reduceEqDiff, Nat.reduceAdd, Nat.reduceMul, Nat.reduceLeDiff, Int.reduceLT, Int.reduceLE, Int.reduceEq, Int.reduceNeg, Int.reduceToNat, e1, hi0, ha2, b0, b1, b2, hlenO, hia, h1', foc_other]
            rw [← hH]
            exact keep
        · refine ⟨l, rfl, ?_⟩
          simp (config := { maxSteps := 1000000 }) (disch := first | exact lt_new _ | exact hid | exact hne | exact Nat.le_of_ble_eq_true rfl | omega) only [c14, r14_0, r14_1, r14_2, r14_4, r14_5, r14_6, r14_8, r14_10, r14_12, r14_14, r14_16, r14_18, r14_20, r14_22, r14_24, r14_26, r14_28, r14_31, rs14, ↓reduceIte, go_sem, Nat.reduceLT, Nat.reduceEqDiff, Nat.reduceAdd, Nat.reduceMul, Nat.reduceLeDiff, Int.reduceLT, Int.reduceLE, Int.reduceEq, Int.reduceNeg, Int.reduceToNat, e1, hi0, ha2, b0, b1, b2, hlenO, hia, k0, k1, k2, k3, k4, k5, k6, k7, k8, k9, k10, k11, foc_other]
          rw [← hH]
          exact keep
end Go.Proofs.Ytdpdlobaabcjjaa
/-
  Lists of conversations asked, by the document's function: walked. No statement of the seat stands here.
-/
namespace Go.Proofs.Ytdpdlobaabcjjaa
open Go Go.Am
set_option maxRecDepth 4000
set_option linter.unusedSimpArgs false
set_option linter.unusedVariables false

def nums (s : Sm) : List Int := [s.a, s.ap, s.b, s.bp, s.proto, s.go, s.gb, s.back, s.bb, s.first, s.last]
def mostN : Int := 4503599627370496
theorem nums_leaf (s : Sm) : ((nums s).map intC).flatten.all V.leaf = true := rfl
theorem ints_all (l : List Int) : ∀ x ∈ l.map intC, x.length = 1 := by
  intro x hx
  obtain ⟨p, _, rfl⟩ := List.mem_map.1 hx
  rfl
theorem fn72 (s : Sm) (H : Hp) : ∃ v H2, callL Try.prog pr 72 [.agg (smC s)] H = some (v, H2) ∧ Own H2 v 1 ((nums s).map intC).flatten ∧ (∃ G, H2 = H ++ G) ∧ ∀ id, At v id → H.length ≤ id := by
  refine own1_of (run72 (Nat.le_of_ble_eq_true rfl) ?_) (nums_leaf s)
  simp (config := { maxSteps := 1000000 }) (disch := exact lt_new _) only [c72, r72_0, r72_1, rs72, ↓reduceIte, go_sem, Nat.reduceLT, Nat.reduceEqDiff, Nat.reduceAdd, Nat.reduceMul, Nat.reduceLeDiff, Int.reduceLT, Int.reduceLE, Int.reduceEq, Int.reduceNeg, Int.reduceToNat]
  refine ⟨.inr ⟨_, 0, 11, rfl, rfl, by omega, by simp [nums, intC]⟩, fun id hid => ?_, ?_⟩
  · rw [List.append_assoc, List.getElem?_append_left hid]
  · rintro id ⟨_, _, _, _, _, e⟩
    injection e with e1
    rw [← e1]; simp
theorem fn39 (H : Hp) (s : V) (l : List Sm) (hs : Own H s 11 (l.map smC).flatten) (hlen : l.length ≤ 1000) : ∃ v H2, callL Try.prog pr 39 [s] H = some (v, H2) ∧ Own H2 v 11 (l.map smC).flatten ∧ (∃ G, H2 = H ++ G) ∧ ∀ id, At v id → H.length ≤ id := by
  refine own1_of (run39 (Nat.le_of_ble_eq_true rfl) ?_) (sm_leaf l)
  have hsl := hs.sl (sm_all l) (by omega)
  rcases hs with ⟨rfl, h2⟩ | ⟨id, g, n, rfl, h1, h2, h3⟩
  · simp (disch := omega) only [c39, r39_0, r39_1, r39_2, rs39, ↓reduceIte, go_sem, Nat.reduceLT, Nat.reduceEqDiff, Nat.reduceAdd, Nat.reduceMul, Nat.reduceLeDiff, Int.reduceLT, Int.reduceLE, Int.reduceEq, Int.reduceNeg, Int.reduceToNat]
    exact ⟨.inl ⟨rfl, h2⟩, fun _ _ => rfl, by simp [At]⟩
  · have hn : l.map smC ≠ [] := by
      intro h
      rw [h] at h1
      simp only [List.flatten_nil, List.length_nil] at h1
      omega
    have e1 := app_empty (by_ := 88) hsl (sm_cell l) hn (by omega) (by rw [List.length_map]; omega) (by rw [List.length_map]; omega)
    have hlm : (l.map smC).length = l.length := List.length_map _
    have hpos : 0 < (l.map smC).length := List.length_pos_iff.2 hn
    simp (disch := omega) only [c39, r39_0, r39_1, r39_3, rs39, ↓reduceIte, go_sem, Nat.reduceLT, Nat.reduceEqDiff, Nat.reduceAdd, Nat.reduceMul, Nat.reduceLeDiff, Int.reduceLT, Int.reduceLE, Int.reduceEq, Int.reduceNeg, Int.reduceToNat, e1]
    refine ⟨.inr ⟨H.length, 1, (l.map smC).length, rfl, by rw [sm_flat, hlm], hpos, by simp⟩, fun id hid => ?_, ?_⟩
    · rw [List.getElem?_append_left hid]
    · rintro id' ⟨g', o, n, z, cp', e'⟩
      injection e' with e1
      omega
def orL : List Int → Int
  | [] => 0
  | x :: l => if x = 0 then orL l else x
theorem orL_drop {l : List Int} {i : Nat} {x : Int} (h : l[i]? = some x) : orL (l.drop i) = if x = 0 then orL (l.drop (i + 1)) else x := by
  obtain ⟨h1, rfl⟩ := List.getElem?_eq_some_iff.1 h
  rw [List.drop_eq_getElem_cons h1]
  rfl
theorem fn58 (H : Hp) (s : V) (l : List Int) (hs : Sl H s 1 (l.map intC)) (hlen : l.length < 2 ^ 62) : callL Try.prog pr 58 [s] H = some (.int .i64 (orL l), H) := by
  have hl : (l.map intC).length = l.length := List.length_map _
  have hlenS := fun H' => hs.len (P := Try.prog) (H' := H') s22
  rw [hl] at hlenS
  refine flat_of (run58 (Nat.le_of_ble_eq_true rfl) ?_) rfl rfl
  simp (disch := omega) only [c58, r58_0, r58_1, r58_2, rs58, ↓reduceIte, go_sem, Nat.reduceLT, Nat.reduceEqDiff, Nat.reduceAdd, Nat.reduceMul, Nat.reduceLeDiff, Int.reduceLT, Int.reduceLE, Int.reduceEq, Int.reduceNeg, Int.reduceToNat, hlenS]
  refine Wp_loop (fun m T D H' => ∃ i, m = l.length - i ∧ i ≤ l.length ∧ D = [] ∧ H' = H ∧ get T 3 = .int .i64 0 ∧ get T 6 = s ∧ get T 7 = .int .i64 l.length ∧ get T 8 = .int .i64 i ∧ orL l = orL (l.drop i)) ?_ l.length _ _ _ ?_
  · rintro m T D H' ⟨i, rfl, hi, rfl, rfl, t3, t6, t7, t8, hp⟩
    by_cases hlt : i < l.length
    · have hlt' : (i : Int) < l.length := by omega
      obtain ⟨x, hx⟩ : ∃ x, l[i]? = some x := ⟨_, List.getElem?_eq_getElem hlt⟩
      have hx' : (l.map intC)[i]? = some (intC x) := by rw [List.getElem?_map, hx]; rfl
      have hi2 := fun k => hs.idx (P := Try.prog) (k := k) s22 (i := i) (by omega)
      have hc := hs.cell0 (P := Try.prog) g3 hx' (by omega)
      rw [orL_drop hx] at hp
      by_cases hb : x = 0
      · rw [if_pos hb] at hp
        subst hb
        simp (disch := omega) only [l58_8, r58_3, r58_4, r58_5, r58_6, r58_7, ↓reduceIte, go_sem, Nat.reduceLT, Nat.reduceEqDiff, Nat.reduceAdd, Nat.reduceMul, Nat.reduceLeDiff, Int.reduceLT, Int.reduceLE, Int.reduceEq, Int.reduceNeg, Int.reduceToNat, t3, t6, t7, t8, hlt', hi2, hc, intC, eq_self, IntWalk.i64_in]
        exact ⟨_, by omega, i + 1, rfl, hlt, rfl, hp⟩
      · rw [if_neg hb] at hp
        simp (disch := omega) only [l58_8, r58_3, r58_4, r58_5, r58_6, r58_7, ↓reduceIte, go_sem, Nat.reduceLT, Nat.reduceEqDiff, Nat.reduceAdd, Nat.reduceMul, Nat.reduceLeDiff, Int.reduceLT, Int.reduceLE, Int.reduceEq, Int.reduceNeg, Int.reduceToNat, t3, t6, t7, t8, hlt', hi2, hc, intC, hb, IntWalk.i64_in]
        exact ⟨by rw [hp], [], by simp⟩
    · obtain rfl : i = l.length := by omega
      rw [List.drop_length] at hp
      simp (disch := omega) only [l58_8, r58_3, r58_9, ↓reduceIte, go_sem, Nat.reduceLT, Nat.reduceEqDiff, Nat.reduceAdd, Nat.reduceMul, Nat.reduceLeDiff, Int.reduceLT, Int.reduceLE, Int.reduceEq, Int.reduceNeg, Int.reduceToNat, t3, t6, t7, t8, Int.lt_irrefl]
      exact ⟨by rw [hp]; rfl, [], by simp⟩
  · exact ⟨0, by simp [go_sem]⟩
theorem fn106 (H : Hp) (s : V) (xs : List Int) (hs : Sl H s 1 (xs.map intC)) (hlen : xs.length < 2 ^ 63) (p : Int → Bool) (f : Nat) (ca cb : List V) (hf : ∀ x ∈ xs, callL Try.prog pr f (ca ++ [.int .i64 x] ++ cb) H = some (.bool (p x), H)) : callL Try.prog pr 106 [s, .fn f ca cb] H = some (.int .i64 (findI p xs 0), H) := by
  have hl : (xs.map intC).length = xs.length := List.length_map _
  have hlenS := fun H' => hs.len (P := Try.prog) (H' := H') s22
  rw [hl] at hlenS
  refine flat_of (run106 (Nat.le_of_ble_eq_true rfl) ?_) rfl rfl
  simp (disch := omega) only [c106, r106_0, r106_1, rs106, ↓reduceIte, go_sem, Nat.reduceLT, Nat.reduceEqDiff, Nat.reduceAdd, Nat.reduceMul, Nat.reduceLeDiff, Int.reduceLT, Int.reduceLE, Int.reduceEq, Int.reduceNeg, Int.reduceToNat, hlenS]
  refine Wp_loop (fun m T D H' => ∃ i, m = xs.length - i ∧ i ≤ xs.length ∧ D = [] ∧ H' = H ∧ get T 0 = s ∧ get T 1 = .fn f ca cb ∧ get T 7 = .int .i64 xs.length ∧ get T 8 = .int .i64 i ∧ findI p xs 0 = findI p (xs.drop i) i) ?_ xs.length _ _ _ ?_
  · rintro m T D H' ⟨i, rfl, hi, rfl, rfl, h0, h1, h7, h8, hp⟩
    by_cases hlt : i < xs.length
    · obtain ⟨x, hx⟩ : ∃ x, xs[i]? = some x := ⟨_, List.getElem?_eq_getElem hlt⟩
      have hx' : (xs.map intC)[i]? = some (intC x) := by rw [List.getElem?_map, hx]; rfl
      have hfx := hf x (List.mem_of_getElem? hx)
      have hlt' : (i : Int) < xs.length := by omega
      have hi2 := fun k => hs.idx (P := Try.prog) (k := k) s22 (i := i) (by omega)
      rw [findI_drop p hx] at hp
      by_cases hb : p x = true
      · rw [if_pos hb] at hp
        simp (disch := omega) only [l106_7, r106_2, r106_3, r106_4, r106_5, r106_6, ↓reduceIte, go_sem, Nat.reduceLT, Nat.reduceEqDiff, Nat.reduceAdd, Nat.reduceMul, Nat.reduceLeDiff, Int.reduceLT, Int.reduceLE, Int.reduceEq, Int.reduceNeg, Int.reduceToNat, h0, h1, h7, h8, hlt', hi2, hs.cell0 g3 hx' (by omega), intC, hfx, hb, IntWalk.i64_in]
        exact ⟨by rw [hp], [], by simp⟩
      · rw [if_neg hb] at hp
        rw [Bool.not_eq_true] at hb
        simp (disch := omega) only [l106_7, r106_2, r106_3, r106_4, r106_5, r106_6, ↓reduceIte, go_sem, Nat.reduceLT, Nat.reduceEqDiff, Nat.reduceAdd, Nat.reduceMul, Nat.reduceLeDiff, Int.reduceLT, Int.reduceLE, Int.reduceEq, Int.reduceNeg, Int.reduceToNat, h0, h1, h7, h8, hlt', hi2, hs.cell0 g3 hx' (by omega), intC, hfx, hb, IntWalk.i64_in]
        exact ⟨_, by omega, i + 1, rfl, hlt, rfl, hp⟩
    · obtain rfl : i = xs.length := by omega
      simp (disch := omega) only [l106_7, r106_2, r106_8, ↓reduceIte, go_sem, Nat.reduceLT, Nat.reduceEqDiff, Nat.reduceAdd, Nat.reduceMul, Nat.reduceLeDiff, Int.reduceLT, Int.reduceLE, Int.reduceEq, Int.reduceNeg, Int.reduceToNat, h0, h1, h7, h8, Int.lt_irrefl]
      refine ⟨?_, [], by simp⟩
      rw [hp, List.drop_length]
      rfl
  · exact ⟨0, by simp [go_sem]⟩

theorem fn87 (H : Hp) (s : V) (xs : List Int) (hs : Sl H s 1 (xs.map intC)) (hlen : xs.length < 2 ^ 63) (p : Int → Bool) (f : Nat) (ca cb : List V) (hf : ∀ x ∈ xs, callL Try.prog pr f (ca ++ [.int .i64 x] ++ cb) H = some (.bool (p x), H)) : callL Try.prog pr 87 [s, .fn f ca cb] H = some (.bool (xs.any p), H) := by
  refine flat_of (run87 (Nat.le_of_ble_eq_true rfl) ?_) rfl rfl
  simp (disch := omega) only [c87, r87_0, r87_1, rs87, ↓reduceIte, go_sem, Nat.reduceLT, Nat.reduceEqDiff, Nat.reduceAdd, Nat.reduceMul, Nat.reduceLeDiff, Int.reduceLT, Int.reduceLE, Int.reduceEq, Int.reduceNeg, Int.reduceToNat, fn106 H s xs hs hlen p f ca cb hf]
  exact ⟨by rw [findI_any p xs 0 (by omega)], [], by simp⟩

theorem fn71 (n : Int) (H : Hp) : callL Try.prog pr 71 [.int .i64 n] H = some (.bool (inB n 4503599627370496), H) := by
  refine flat_of (run71 (Nat.le_of_ble_eq_true rfl) ?_) rfl rfl
  simp only [c71, r71_0, r71_1, rs71, ↓reduceIte, go_sem, Nat.reduceLT, Nat.reduceEqDiff, Nat.reduceAdd, Nat.reduceMul, Nat.reduceLeDiff, Int.reduceLT, Int.reduceLE, Int.reduceEq, Int.reduceNeg, Int.reduceToNat, fn33]
  exact ⟨[], by simp⟩
theorem fn88 (n : Int) (id : Nat) (H : Hp) (hl : loadV Try.prog 129 H (.ptr id 0 0) = some (.fn 71 [] [])) : callL Try.prog pr 88 [.int .i64 n, .ptr id 0 0] H = some (.bool (!inB n 4503599627370496), H) := by
  refine flat_of (run88 (Nat.le_of_ble_eq_true rfl) ?_) rfl rfl
  simp only [c88, r88_0, r88_1, rs88, ↓reduceIte, go_sem, Nat.reduceLT, Nat.reduceEqDiff, Nat.reduceAdd, Nat.reduceMul, Nat.reduceLeDiff, Int.reduceLT, Int.reduceLE, Int.reduceEq, Int.reduceNeg, Int.reduceToNat, hl, fn71]
  exact ⟨[], by simp⟩
theorem fn70 (H : Hp) (s : V) (l : List Int) (hs : Sl H s 1 (l.map intC)) (hlen : l.length < 2 ^ 62) : callL Try.prog pr 70 [s, .fn 71 [] []] H = some (.bool (l.any fun x => !inB x 4503599627370496), H) := by
  refine flat_of (run70 (Nat.le_of_ble_eq_true rfl) ?_) rfl rfl
  have h87 := fn87 (H ++ [.row 0 [.fn 71 [] []] true]) s l hs.app (by omega) (fun x => !inB x 4503599627370496) 88 [] [.ptr H.length 0 0] fun x _ => fn88 x H.length _ (by simp [go_sem])
  simp (disch := omega) only [c70, r70_0, r70_1, rs70, ↓reduceIte, go_sem, Nat.reduceLT, Nat.reduceEqDiff, Nat.reduceAdd, Nat.reduceMul, Nat.reduceLeDiff, Int.reduceLT, Int.reduceLE, Int.reduceEq, Int.reduceNeg, Int.reduceToNat, h87]
  exact ⟨_, rfl⟩
/-- Whether a conversation's numbers and ends are right. -/
def numsOk (s : Sm) : Bool := (nums s).all fun n => inB n 4503599627370496
def endsOk (s : Sm) : Bool := !(decide (s.b < s.a) || (decide (s.a = s.b) && decide (s.bp < s.ap)))
theorem or_ends (s : Sm) : decide (orL [cmpI s.a s.b, cmpI s.ap s.bp] ≤ 0) = endsOk s := by
  unfold endsOk orL orL orL cmpI
  by_cases h1 : s.a < s.b
  · have h2 : ¬ s.b < s.a := by omega
    have h3 : ¬ s.a = s.b := by omega
    simp [h1, h2, h3]
  · by_cases h2 : s.b < s.a
    · simp [h1, h2]
    · have h3 : s.a = s.b := by omega
      by_cases h4 : s.ap < s.bp
      · have h5 : ¬ s.bp < s.ap := by omega
        simp [h3, h4, h5]
      · by_cases h5 : s.bp < s.ap
        · simp [h3, h4, h5]
        · simp [h3, h4, h5]
def isSumB (s : Sm) : Bool := numsOk s && endsOk s
theorem fn44 (s : Sm) (H : Hp) : callL Try.prog pr 44 [.agg (smC s)] H = some (.bool (isSumB s), H) := by
  refine flat_of (run44 (Nat.le_of_ble_eq_true rfl) ?_) rfl rfl
  have hsl : ∀ H : Hp, Sl (H ++ [.row 0 (smC s) true] ++ [.row 0 [.int .i64 s.a, .int .i64 s.ap, .int .i64 s.b, .int .i64 s.bp, .int .i64 s.proto, .int .i64 s.go, .int .i64 s.gb, .int .i64 s.back, .int .i64 s.bb, .int .i64 s.first, .int .i64 s.last] true]) (.slice (H ++ [AB.row 0 (smC s) true]).length 0 0 11 1 .full) 1 ((nums s).map intC) := fun H =>
    Own.sl (xs := (nums s).map intC) (.inr ⟨_, 0, 11, rfl, rfl, by omega, by simp [nums, intC]⟩) (ints_all _) (by omega)
  have h70 := fn70 _ _ (nums s) (hsl H) (by simp [nums])
  have hno : ((nums s).any fun x => !inB x 4503599627370496) = !numsOk s := by
    unfold numsOk
    rw [List.all_eq_not_any_not]; simp
  rw [hno] at h70
  unfold isSumB
  by_cases hb : numsOk s = true
  · have h58 := fn58 _ _ [cmpI s.a s.b, cmpI s.ap s.bp] (Own.sl (xs := [cmpI s.a s.b, cmpI s.ap s.bp].map intC) (own_new (H := H ++ [.row 0 (smC s) true] ++ [.row 0 [.int .i64 s.a, .int .i64 s.ap, .int .i64 s.b, .int .i64 s.bp, .int .i64 s.proto, .int .i64 s.go, .int .i64 s.gb, .int .i64 s.back, .int .i64 s.bb, .int .i64 s.first, .int .i64 s.last] true]) (n := 2) rfl (by omega)) (ints_all _) (by omega)) (by simp)
    simp only [List.map_cons, List.map_nil, List.flatten_cons, List.flatten_nil, intC, List.cons_append, List.nil_append] at h58
    simp (config := { maxSteps := 1000000 }) (disch := first | exact lt_new _ | exact lt_app (lt_new _) | omega) only [c44, r44_0, r44_1, r44_2, rs44, ↓reduceIte, go_sem, Nat.reduceLT, Nat.reduceEqDiff, Nat.reduceAdd, Nat.reduceMul, Nat.reduceLeDiff, Int.reduceLT, Int.reduceLE, Int.reduceEq, Int.reduceNeg, Int.reduceToNat, h70, hb, fn51, h58, or_ends]
    exact ⟨_, by rw [List.append_assoc, List.append_assoc]⟩
  · rw [Bool.not_eq_true] at hb
    simp (config := { maxSteps := 1000000 }) (disch := first | exact lt_new _ | exact lt_app (lt_new _) | omega) only [c44, r44_0, r44_1, r44_2, rs44, ↓reduceIte, go_sem, Nat.reduceLT, Nat.reduceEqDiff, Nat.reduceAdd, Nat.reduceMul, Nat.reduceLeDiff, Int.reduceLT, Int.reduceLE, Int.reduceEq, Int.reduceNeg, Int.reduceToNat, h70, hb]
    exact ⟨_, List.append_assoc ..⟩
end Go.Proofs.Ytdpdlobaabcjjaa
/-
  Lists of conversations asked, by the document's function: walked. No statement of the seat stands here.
-/
namespace Go.Proofs.Ytdpdlobaabcjjaa
open Go Go.Am
set_option maxRecDepth 4000
set_option linter.unusedSimpArgs false
set_option linter.unusedVariables false

def okAt (l : List Sm) (i : Nat) : Bool := match l[i]? with
  | some s => numsOk s && (endsOk s && decide (findS l (keyOf s) = (i : Int)))
  | none => true
def okAll (l : List Sm) (n : Nat) : Bool := (List.range n).all (okAt l)
def askS (l : List Sm) : Int := if 200 < l.length then 3 else if okAll l l.length = true then 0 else 1
theorem okAll_next (l : List Sm) (i : Nat) : okAll l (i + 1) = (okAll l i && okAt l i) := by
  unfold okAll
  rw [List.range_succ, List.all_append]
  simp
theorem okAll_bad {l : List Sm} {i : Nat} (h : i < l.length) (hb : okAt l i = false) : okAll l l.length = false := by
  unfold okAll
  exact List.all_eq_false.2 ⟨i, by simpa using h, by simp [hb]⟩
theorem all_take {p : Int → Bool} {l : List Int} {k : Nat} {x : Int} (h : l[k]? = some x) : (l.take (k + 1)).all p = ((l.take k).all p && p x) := by
  rw [take_snoc h, List.all_append]; simp

set_option maxHeartbeats 1000000 in
theorem fn45 (H : Hp) (s : V) (l : List Sm) (hs : Sl H s 11 (l.map smC)) : callL Try.prog pr 45 [s] H = some (.int .i64 (askS l), H) := by
  have hl : (l.map smC).length = l.length := List.length_map _
  have hlenS := fun H' => hs.len (P := Try.prog) (H' := H') s37
  rw [hl] at hlenS
  refine flat_of (run45 (Nat.le_of_ble_eq_true rfl) ?_) rfl rfl
  by_cases h1 : 200 < l.length
  · have h1' : (200 : Int) < l.length := by omega
    simp (disch := omega) only [c45, r45_0, r45_1, r45_2, rs45, ↓reduceIte, go_sem, Nat.reduceLT, Nat.reduceEqDiff, Nat.reduceAdd, Nat.reduceMul, Nat.reduceLeDiff, Int.reduceLT, Int.reduceLE, Int.reduceEq, Int.reduceNeg, Int.reduceToNat, hlenS, h1']
    exact ⟨by simp [askS, h1], [], by simp⟩
  · have h1' : ¬ (200 : Int) < l.length := by omega
    simp (disch := omega) only [c45, r45_0, r45_1, r45_3, rs45, ↓reduceIte, go_sem, Nat.reduceLT, Nat.reduceEqDiff, Nat.reduceAdd, Nat.reduceMul, Nat.reduceLeDiff, Int.reduceLT, Int.reduceLE, Int.reduceEq, Int.reduceNeg, Int.reduceToNat, hlenS, h1']
    refine Wp_loop (fun m T D H' => ∃ i, m = l.length - i ∧ i ≤ l.length ∧ D = [] ∧ (∃ G, H' = H ++ G) ∧ get T 0 = s ∧ get T 3 = .int .i64 i ∧ okAll l i = true) ?_ l.length _ _ _ ?_
    · rintro m T D H' ⟨i, rfl, hi, rfl, ⟨G, rfl⟩, t0, t3, hp⟩
      by_cases hlt : i < l.length
      · have hlt' : (i : Int) < l.length := by omega
        obtain ⟨x, hx⟩ : ∃ x, l[i]? = some x := ⟨_, List.getElem?_eq_getElem hlt⟩
        have hx' : (l.map smC)[i]? = some (smC x) := by rw [List.getElem?_map, hx]; rfl
        have hi2 := fun k => hs.idx (P := Try.prog) (k := k) s37 (i := i) (by omega)
        have hag := hs.app (L := G) |>.agg (P := Try.prog) g80 z80 hx'
        obtain ⟨v, H2, e72, o72, ⟨G2, rfl⟩, f72⟩ := fn72 x (H ++ G)
        have sn := o72.sl (ints_all _) (by omega)
        have hlenN := fun H' => sn.len (P := Try.prog) (H' := H') s22
        have hnl : ((nums x).map intC).length = 11 := rfl
        rw [hnl] at hlenN
        have hbad : numsOk x = false ∨ endsOk x = false ∨ findS l (keyOf x) ≠ (i : Int) → askS l = 1 := by
          intro h
          have : okAt l i = false := by
            unfold okAt
            rw [hx]
            simp only
            rcases h with h | h | h
            · simp [h]
            · simp [h]
            · simp [h]
          simp [askS, h1, okAll_bad hlt this]
        simp (disch := omega) only [l45_16, r45_4, r45_5, r45_6, ↓reduceIte, go_sem, Nat.reduceLT, Nat.reduceEqDiff, Nat.reduceAdd, Nat.reduceMul, Nat.reduceLeDiff, Int.reduceLT, Int.reduceLE, Int.reduceEq, Int.reduceNeg, Int.reduceToNat, t0, t3, hlt', hlenS, hi2, hag, e72, IntWalk.i64_in]
        refine Wp_loop (fun m T D H' => ∃ k, m = 11 - k ∧ k ≤ 11 ∧ D = [] ∧ H' = H ++ G ++ G2 ∧ get T 0 = s ∧ get T 3 = .int .i64 i ∧ get T 4 = v ∧ get T 5 = .int .i64 k ∧ ((nums x).take k).all (fun n => inB n 4503599627370496) = true) ?_ 11 _ _ _ ?_
        · rintro m T D H' ⟨k, rfl, hk, rfl, rfl, t0, t3, t4, t5, hq⟩
          by_cases hlk : k < 11
          · have hlk' : (k : Int) < 11 := by omega
            obtain ⟨n, hn⟩ : ∃ n, (nums x)[k]? = some n := ⟨_, List.getElem?_eq_getElem (by simpa [nums] using hlk)⟩
            have hn' : ((nums x).map intC)[k]? = some (intC n) := by rw [List.getElem?_map, hn]; rfl
            have hk2 := fun j => sn.idx (P := Try.prog) (k := j) s22 (i := k) (by rw [hnl]; exact hlk)
            have hc := sn.cell0 (P := Try.prog) g3 hn' (by omega)
            by_cases hb : inB n 4503599627370496 = true
            · simp (disch := omega) only [l45_11, r45_7, r45_8, r45_9, r45_10, ↓reduceIte, go_sem, Nat.reduceLT, Nat.reduceEqDiff, Nat.reduceAdd, Nat.reduceMul, Nat.reduceLeDiff, Int.reduceLT, Int.reduceLE, Int.reduceEq, Int.reduceNeg, Int.reduceToNat, t0, t3, t4, t5, hlk', hlenN, hk2, hc, intC, fn34, hb, IntWalk.i64_in]
              refine ⟨_, by omega, k + 1, rfl, hlk, rfl, ?_⟩
              rw [all_take hn, hq, hb]; rfl
            · rw [Bool.not_eq_true] at hb
              simp (disch := omega) only [l45_11, r45_7, r45_8, r45_9, r45_10, ↓reduceIte, go_sem, Nat.reduceLT, Nat.reduceEqDiff, Nat.reduceAdd, Nat.reduceMul, Nat.reduceLeDiff, Int.reduceLT, Int.reduceLE, Int.reduceEq, Int.reduceNeg, Int.reduceToNat, t0, t3, t4, t5, hlk', hlenN, hk2, hc, intC, fn34, hb, IntWalk.i64_in]
              refine ⟨?_, _, List.append_assoc ..⟩
              rw [hbad (.inl ?_)]
              unfold numsOk
              exact List.all_eq_false.2 ⟨n, List.mem_of_getElem? hn, by simp [hb]⟩
          · obtain rfl : k = 11 := by omega
            have hno : numsOk x = true := hq
            have hlk' : ¬ (11 : Int) < 11 := by omega
            have hag2 := ((hs.app (L := G)).app (L := G2)).agg (P := Try.prog) g80 z80 hx'
            have h37 := fn37 (H ++ G ++ G2 ++ [.row 0 (smC x) true]) s l (keyOf x) ((hs.app.app).app) (by omega)
            have hfin : endsOk x = true → findS l (keyOf x) = (i : Int) → ∃ m', m' < l.length - i ∧ ∃ i_1, m' = l.length - i_1 ∧ i_1 ≤ l.length ∧ (∃ G_1, H ++ G ++ G2 ++ [AB.row 0 (smC x) true] = H ++ G_1) ∧ V.int .i64 ((i : Int) + 1) = V.int .i64 (i_1 : Int) ∧ okAll l i_1 = true := by
              intro h2 h3
              refine ⟨_, by omega, i + 1, rfl, hlt, ⟨_, by rw [List.append_assoc, List.append_assoc]⟩, rfl, ?_⟩
              rw [okAll_next, hp]
              unfold okAt
              rw [hx]
              simp [hno, h2, h3]
            by_cases c1 : x.b < x.a
            · simp (config := { maxSteps := 1000000 }) (disch := first | exact lt_new _ | omega) only [l45_11, r45_7, r45_12, r45_13, r45_14, r45_15, ↓reduceIte, go_sem, Nat.reduceLT, Nat.reduceEqDiff, Nat.reduceAdd, Nat.reduceMul, Nat.reduceLeDiff, Int.reduceLT, Int.reduceLE, Int.reduceEq, Int.reduceNeg, Int.reduceToNat, t0, t3, t4, t5, hlk', hlenN, hi2, hag2, c1, IntWalk.i64_in]
              refine ⟨?_, _, by rw [List.append_assoc, List.append_assoc]⟩
              rw [hbad (.inr (.inl (by simp [endsOk, c1])))]
            · by_cases c2 : x.a = x.b
              · have c2' : decide (x.a = x.b) = true := decide_eq_true c2
                by_cases c3 : x.bp < x.ap
                · simp (config := { maxSteps := 1000000 }) (disch := first | exact lt_new _ | omega) only [l45_11, r45_7, r45_12, r45_13, r45_14, r45_15, ↓reduceIte, go_sem, Nat.reduceLT, Nat.reduceEqDiff, Nat.reduceAdd, Nat.reduceMul, Nat.reduceLeDiff, Int.reduceLT, Int.reduceLE, Int.reduceEq, Int.reduceNeg, Int.reduceToNat, t0, t3, t4, t5, hlk', hlenN, hi2, hag2, c1, c2, c3, Int.lt_irrefl, eq_self, IntWalk.i64_in]
                  refine ⟨?_, _, by rw [List.append_assoc, List.append_assoc]⟩
                  rw [hbad (.inr (.inl (by simp [endsOk, c2, c3])))]
                · have he : endsOk x = true := by simp [endsOk, c2, c3]
                  by_cases c4 : findS l (keyOf x) = (i : Int)
                  · have c4' : findI (fun x_1 => keyEq (keyOf x_1) (keyOf x)) l 0 = (i : Int) := c4
                    simp (config := { maxSteps := 1000000 }) (disch := first | exact lt_new _ | omega) only [l45_11, r45_7, r45_12, r45_13, r45_14, r45_15, ↓reduceIte, go_sem, Nat.reduceLT, Nat.reduceEqDiff, Nat.reduceAdd, Nat.reduceMul, Nat.reduceLeDiff, Int.reduceLT, Int.reduceLE, Int.reduceEq, Int.reduceNeg, Int.reduceToNat, t0, t3, t4, t5, hlk', hlenN, hi2, hag2, c1, c2', c3, fn46, h37, c4', eq_self, IntWalk.i64_in]
                    exact hfin he c4
                  · have c4' : ¬ findI (fun x_1 => keyEq (keyOf x_1) (keyOf x)) l 0 = (i : Int) := c4
                    simp (config := { maxSteps := 1000000 }) (disch := first | exact lt_new _ | omega) only [l45_11, r45_7, r45_12, r45_13, r45_14, r45_15, ↓reduceIte, go_sem, Nat.reduceLT, Nat.reduceEqDiff, Nat.reduceAdd, Nat.reduceMul, Nat.reduceLeDiff, Int.reduceLT, Int.reduceLE, Int.reduceEq, Int.reduceNeg, Int.reduceToNat, t0, t3, t4, t5, hlk', hlenN, hi2, hag2, c1, c2', c3, fn46, h37, c4', IntWalk.i64_in]
                    refine ⟨?_, _, by rw [List.append_assoc, List.append_assoc]⟩
                    rw [hbad (.inr (.inr c4))]
              · have he : endsOk x = true := by simp [endsOk, c1, c2]
                by_cases c4 : findS l (keyOf x) = (i : Int)
                · have c4' : findI (fun x_1 => keyEq (keyOf x_1) (keyOf x)) l 0 = (i : Int) := c4
                  simp (config := { maxSteps := 1000000 }) (disch := first | exact lt_new _ | omega) only [l45_11, r45_7, r45_12, r45_13, r45_14, r45_15, ↓reduceIte, go_sem, Nat.reduceLT, Nat.reduceEqDiff, Nat.reduceAdd, Nat.reduceMul, Nat.reduceLeDiff, Int.reduceLT, Int.reduceLE, Int.reduceEq, Int.reduceNeg, Int.reduceToNat, t0, t3, t4, t5, hlk', hlenN, hi2, hag2, c1, c2, fn46, h37, c4', eq_self, IntWalk.i64_in]
                  exact hfin he c4
                · have c4' : ¬ findI (fun x_1 => keyEq (keyOf x_1) (keyOf x)) l 0 = (i : Int) := c4
                  simp (config := { maxSteps := 1000000 }) (disch := first | exact lt_new _ | omega) only [l45_11, r45_7, r45_12, r45_13, r45_14, r45_15, ↓reduceIte, go_sem, Nat.reduceLT, Nat.reduceEqDiff, Nat.reduceAdd, Nat.reduceMul, Nat.reduceLeDiff, Int.reduceLT, Int.reduceLE, Int.reduceEq, Int.reduceNeg, Int.reduceToNat, t0, t3, t4, t5, hlk', hlenN, hi2, hag2, c1, c2, fn46, h37, c4', IntWalk.i64_in]
                  refine ⟨?_, _, by rw [List.append_assoc, List.append_assoc]⟩
                  rw [hbad (.inr (.inr c4))]
        · refine ⟨0, rfl, by omega, rfl, rfl, ?_⟩
          simp [go_sem, t0, t3]
      · obtain rfl : i = l.length := by omega
        simp (disch := omega) only [l45_16, r45_4, r45_17, ↓reduceIte, go_sem, Nat.reduceLT, Nat.reduceEqDiff, Nat.reduceAdd, Nat.reduceMul, Nat.reduceLeDiff, Int.reduceLT, Int.reduceLE, Int.reduceEq, Int.reduceNeg, Int.reduceToNat, t0, t3, hlenS, Int.lt_irrefl]
        exact ⟨by simp [askS, h1, hp], _, rfl⟩
    · exact ⟨0, by simp [go_sem, okAll]⟩
end Go.Proofs.Ytdpdlobaabcjjaa
/-
  Two conversations added, and the search for one: walked. No statement of the seat stands here.
-/
namespace Go.Proofs.Ytdpdlobaabcjjaa
open Go Go.Am
set_option maxRecDepth 4000
set_option linter.unusedSimpArgs false
set_option linter.unusedVariables false

def addS (x y : Sm) : Sm := ⟨x.a, x.ap, x.b, x.bp, x.proto, w64 (x.go + y.go), w64 (x.gb + y.gb), w64 (x.back + y.back), w64 (x.bb + y.bb), if y.first < x.first then y.first else x.first, if x.last < y.last then y.last else x.last⟩
theorem fn43 (x y : Sm) (H : Hp) : callL Try.prog pr 43 [.agg (smC x), .agg (smC y)] H = some (.agg (smC (addS x y)), H) := by
  refine flat_of (run43 (Nat.le_of_ble_eq_true rfl) ?_) rfl rfl
  simp (config := { maxSteps := 1000000 }) (disch := first | exact lt_new _ | exact len_snoc _ _ _ | omega | (simp only [List.length_append, List.length_singleton, List.length_set]; done) | (simp only [List.length_append, List.length_singleton, List.length_set]; omega)) only [c43, r43_0, r43_1, r43_2, r43_3, r43_4, r43_5, r43_6, rs43, ↓reduceIte, go_sem, Nat.reduceLT, Nat.reduceEqDiff, Nat.reduceAdd, Nat.reduceMul, Nat.reduceLeDiff, Int.reduceLT, Int.reduceLE, Int.reduceEq, Int.reduceNeg, Int.reduceToNat]
  exact ⟨rfl, _, by rw [List.append_assoc, List.append_assoc]⟩
theorem fn41 (x y : Sm) (id : Nat) (H : Hp) (hid : id < H.length) (hl : loadV Try.prog 50 H (.ptr id 0 0) = some (.agg (smC y))) : callL Try.prog pr 41 [.agg (smC x), .ptr id 0 0] H = some (.bool (keyEq (keyOf x) (keyOf y)), H) := by
  refine flat_of (run41 (Nat.le_of_ble_eq_true rfl) ?_) rfl rfl
  simp (config := { maxSteps := 1000000 }) (disch := first | exact lt_new _ | exact len_snoc _ _ _ | omega | (simp only [List.length_append, List.length_singleton, List.length_set]; done) | (simp only [List.length_append, List.length_singleton, List.length_set]; omega)) only [c41, r41_0, r41_1, rs41, ↓reduceIte, go_sem, Nat.reduceLT, Nat.reduceEqDiff, Nat.reduceAdd, Nat.reduceMul, Nat.reduceLeDiff, Int.reduceLT, Int.reduceLE, Int.reduceEq, Int.reduceNeg, Int.reduceToNat, hl, fn42]
  exact ⟨rfl, _, rfl⟩
theorem fn40 {α : Type} (enc : α → List V) (H : Hp) (s : V) (xs : List α) (hs : Sl H s 11 (xs.map enc)) (hlen : xs.length < 2 ^ 63) (p : α → Bool) (f : Nat) (ca cb : List V) (hf : ∀ x ∈ xs, callL Try.prog pr f (ca ++ [.agg (enc x)] ++ cb) H = some (.bool (p x), H)) : callL Try.prog pr 40 [s, .fn f ca cb] H = some (.int .i64 (findI p xs 0), H) := by
  have hl : (xs.map enc).length = xs.length := List.length_map _
  have hlenS := fun H' => hs.len (P := Try.prog) (H' := H') s40
  rw [hl] at hlenS
  refine flat_of (run40 (Nat.le_of_ble_eq_true rfl) ?_) rfl rfl
  simp (disch := omega) only [c40, r40_0, r40_1, rs40, ↓reduceIte, go_sem, Nat.reduceLT, Nat.reduceEqDiff, Nat.reduceAdd, Nat.reduceMul, Nat.reduceLeDiff, Int.reduceLT, Int.reduceLE, Int.reduceEq, Int.reduceNeg, Int.reduceToNat, hlenS]
  refine Wp_loop (fun m T D H' => ∃ i, m = xs.length - i ∧ i ≤ xs.length ∧ D = [] ∧ H' = H ∧ get T 0 = s ∧ get T 1 = .fn f ca cb ∧ get T 7 = .int .i64 xs.length ∧ get T 8 = .int .i64 i ∧ findI p xs 0 = findI p (xs.drop i) i) ?_ xs.length _ _ _ ?_
  · rintro m T D H' ⟨i, rfl, hi, rfl, rfl, h0, h1, h7, h8, hp⟩
    by_cases hlt : i < xs.length
    · obtain ⟨x, hx⟩ : ∃ x, xs[i]? = some x := ⟨_, List.getElem?_eq_getElem hlt⟩
      have hx' : (xs.map enc)[i]? = some (enc x) := by rw [List.getElem?_map, hx]; rfl
      have hfx := hf x (List.mem_of_getElem? hx)
      have hlt' : (i : Int) < xs.length := by omega
      have hi2 := fun k => hs.idx (P := Try.prog) (k := k) s40 (i := i) (by omega)
      rw [findI_drop p hx] at hp
      by_cases hb : p x = true
      · rw [if_pos hb] at hp
        simp (disch := omega) only [l40_7, r40_2, r40_3, r40_4, r40_5, r40_6, ↓reduceIte, go_sem, Nat.reduceLT, Nat.reduceEqDiff, Nat.reduceAdd, Nat.reduceMul, Nat.reduceLeDiff, Int.reduceLT, Int.reduceLE, Int.reduceEq, Int.reduceNeg, Int.reduceToNat, h0, h1, h7, h8, hlt', hi2, hs.agg g50 z50 hx', hfx, hb, IntWalk.i64_in]
        exact ⟨by rw [hp], [], by simp⟩
      · rw [if_neg hb] at hp
        rw [Bool.not_eq_true] at hb
        simp (disch := omega) only [l40_7, r40_2, r40_3, r40_4, r40_5, r40_6, ↓reduceIte, go_sem, Nat.reduceLT, Nat.reduceEqDiff, Nat.reduceAdd, Nat.reduceMul, Nat.reduceLeDiff, Int.reduceLT, Int.reduceLE, Int.reduceEq, Int.reduceNeg, Int.reduceToNat, h0, h1, h7, h8, hlt', hi2, hs.agg g50 z50 hx', hfx, hb, IntWalk.i64_in]
        exact ⟨_, by omega, i + 1, rfl, hlt, rfl, hp⟩
    · obtain rfl : i = xs.length := by omega
      simp (disch := omega) only [l40_7, r40_2, r40_8, ↓reduceIte, go_sem, Nat.reduceLT, Nat.reduceEqDiff, Nat.reduceAdd, Nat.reduceMul, Nat.reduceLeDiff, Int.reduceLT, Int.reduceLE, Int.reduceEq, Int.reduceNeg, Int.reduceToNat, h0, h1, h7, h8, Int.lt_irrefl]
      refine ⟨?_, [], by simp⟩
      rw [hp, List.drop_length]
      rfl
  · exact ⟨0, by simp [go_sem]⟩

end Go.Proofs.Ytdpdlobaabcjjaa
/-
  The abstract machine, part ZH: maps, read and written as lists of pairs. No statement of the seat stands here.
-/
namespace Go.Am
open Go
set_option linter.unusedSectionVars false

section
variable {P : Program} {cl : CallT} {T : Fr} {D : Dfr} {H : Hp}
def mapKV (P : Program) (t : TypeId) : Option (TypeId × TypeId) := match P.underlying t with
  | some (.map kt et) => some (kt, et)
  | _ => none
theorem mapKV_eq {t kt et : TypeId} (h : mapKV P t = some (kt, et)) : P.underlying t = some (.map kt et) := by
  unfold mapKV at h
  split at h
  · injection h with h
    injection h with h1 h2
    subst h1 h2
    assumption
  · simp at h
def mkMapW (q : Option (TypeId × TypeId)) (D : Dfr) (H : Hp) : Option (V × Dfr × Hp) := match q with
  | some (kt, _) => some (.map H.length, D, H ++ [.map kt []])
  | none => none
@[go_sem] theorem mkMapW_some (kt et : TypeId) : mkMapW (some (kt, et)) D H = some (.map H.length, D, H ++ [.map kt []]) := rfl
@[go_sem] theorem s_makeMap (t : TypeId) : stepW P cl (.makeMap t none) T D H = mkMapW (mapKV P t) D H := by
  simp only [stepW, opV, mapKV]
  cases P.underlying t with
  | none => rfl
  | some u => cases u <;> rfl
theorem keyOk_agg {kt : TypeId} {ks : List CK} {cs : List V} (h1 : flatT P 8 kt = some ks) (h2 : aggT P kt = some true) (h3 : szOf P kt = some ks.length) (h4 : ckOks ks cs = true) : keyOk P kt (.agg cs) = true := by
  simp [keyOk, h1, h2, h3, V.cells, h4]
theorem keyOk_int {kt : TypeId} {k : IntKind} (h1 : flatT P 8 kt = some [.int k]) (h2 : aggT P kt = some false) (h3 : szOf P kt = some 1) (n : Int) : keyOk P kt (.int k n) = true := by
  simp [keyOk, h1, h2, h3, V.cells, ckOks, ckOk]
theorem keyOk_str {kt : TypeId} (h1 : flatT P 8 kt = some [.str]) (h2 : aggT P kt = some false) (h3 : szOf P kt = some 1) (s : List UInt8) : keyOk P kt (.str s) = true := by
  simp [keyOk, h1, h2, h3, V.cells, ckOks, ckOk]

/-! A map whose keys and values are plain data. -/
variable {α β : Type} [DecidableEq α]
def enP (ek : α → V) (ev : β → V) (p : α × β) : V × V := (ek p.1, ev p.2)
def MapOf (H : Hp) (id : Nat) (kt : TypeId) (ek : α → V) (ev : β → V) (l : List (α × β)) : Prop := H[id]? = some (.map kt (l.map (enP ek ev)))
def lookA : List (α × β) → α → Option β
  | [], _ => none
  | p :: l, k => if p.1 = k then some p.2 else lookA l k
def putA : List (α × β) → α → β → List (α × β)
  | [], k, v => [(k, v)]
  | p :: l, k, v => if p.1 = k then (k, v) :: l else p :: putA l k v
def delA : List (α × β) → α → List (α × β)
  | [], _ => []
  | p :: l, k => if p.1 = k then l else p :: delA l k
abbrev KeyEq (ek : α → V) : Prop := ∀ a b, eqCells (ek a).cells (ek b).cells = decide (a = b)
theorem findM_none {ek : α → V} {ev : β → V} (hk : KeyEq ek) : ∀ (l : List (α × β)) (k : α), lookA l k = none → findM (l.map (enP ek ev)) (ek k) = none ∧ putA l k = fun v => l ++ [(k, v)]
  | [], k, _ => ⟨rfl, rfl⟩
  | p :: l, k, h => by
    unfold lookA at h
    split at h
    · simp at h
    · obtain ⟨h1, h2⟩ := findM_none hk l k h
      rename_i hne
      refine ⟨?_, ?_⟩
      · unfold findM at h1 ⊢
        rw [List.map_cons, List.findIdx?_cons, h1]
        simp [enP, hk, hne]
      · funext v
        simp [putA, hne, h2]
theorem findM_some {ek : α → V} {ev : β → V} (hk : KeyEq ek) : ∀ (l : List (α × β)) (k : α) (v : β), lookA l k = some v → ∃ i, findM (l.map (enP ek ev)) (ek k) = some i ∧ l[i]? = some (k, v) ∧ (∀ v', putA l k v' = l.set i (k, v')) ∧ delA l k = l.eraseIdx i
  | [], k, v, h => by simp [lookA] at h
  | p :: l, k, v, h => by
    unfold lookA at h
    split at h
    · rename_i he
      injection h with h
      refine ⟨0, ?_, ?_, fun v' => ?_, ?_⟩
      · simp [findM, List.findIdx?_cons, enP, hk, he]
      · cases p; simp_all
      · simp [putA, he]
      · simp [delA, he]
    · rename_i hne
      obtain ⟨i, h1, h2, h3, h4⟩ := findM_some hk l k v h
      refine ⟨i + 1, ?_, by simpa using h2, fun v' => ?_, ?_⟩
      · unfold findM at h1 ⊢
        rw [List.map_cons, List.findIdx?_cons, h1]
        simp [enP, hk, hne]
      · simp [putA, hne, h3]
      · simp [delA, hne, h4]
theorem map_look {t kt et : TypeId} {ek : α → V} {ev : β → V} {id : Nat} {l : List (α × β)} {k : α} {ok : Bool} {z : V} (hk : KeyEq ek) (ht : mapKV P t = some (kt, et)) (hm : MapOf H id kt ek ev l) (ho : keyOk P kt (ek k) = true) (hz : zeroV P et = some z) : lookupV P t H (.map id) (ek k) ok = some (if ok then .tup [((lookA l k).map ev).getD z, .bool (lookA l k).isSome] else ((lookA l k).map ev).getD z) := by
  have hg : getMap H id = some (kt, l.map (enP ek ev)) := by unfold getMap; rw [hm]
  unfold lookupV
  rw [mapKV_eq ht]
  simp only [hg, Option.bind_some]
  rw [if_pos ⟨by simp, ho⟩]
  cases hl : lookA l k with
  | none =>
    rw [(findM_none hk l k hl).1]
    simp [hz]
  | some v =>
    obtain ⟨i, h1, h2, -, -⟩ := findM_some (ev := ev) hk l k v hl
    rw [h1]
    simp [List.getElem?_map, h2, enP]
theorem map_put {t kt et : TypeId} {ek : α → V} {ev : β → V} {id : Nat} {l : List (α × β)} {k : α} {v : β} (hk : KeyEq ek) (ht : mapKV P t = some (kt, et)) (hm : MapOf H id kt ek ev l) (ho : keyOk P kt (ek k) = true) (hv : elemOk (ev v) = true) : updateV P t H (.map id) (ek k) (ev v) = some (H.set id (.map kt ((putA l k v).map (enP ek ev)))) := by
  have hg : getMap H id = some (kt, l.map (enP ek ev)) := by unfold getMap; rw [hm]
  unfold updateV
  rw [mapKV_eq ht]
  simp only [hg, Option.bind_some]
  rw [if_pos ⟨by simp, ho, hv⟩]
  cases hl : lookA l k with
  | none =>
    obtain ⟨h1, h2⟩ := findM_none (ev := ev) hk l k hl
    rw [h1, h2]
    simp [enP]
  | some w =>
    obtain ⟨i, h1, -, h3, -⟩ := findM_some (ev := ev) hk l k w hl
    rw [h1, h3]
    simp [List.map_set, enP]
theorem map_set_of {kt : TypeId} {ek : α → V} {ev : β → V} {id : Nat} {l : List (α × β)} (h : id < H.length) : MapOf (H.set id (.map kt (l.map (enP ek ev)))) id kt ek ev l := by
  unfold MapOf
  rw [List.getElem?_set_self h]
theorem MapOf.lt {kt : TypeId} {ek : α → V} {ev : β → V} {id : Nat} {l : List (α × β)} (h : MapOf H id kt ek ev l) : id < H.length := (List.getElem?_eq_some_iff.1 h).1
theorem MapOf.app {kt : TypeId} {ek : α → V} {ev : β → V} {id : Nat} {l : List (α × β)} (h : MapOf H id kt ek ev l) {L : Hp} : MapOf (H ++ L) id kt ek ev l := by
  unfold MapOf
  rw [List.getElem?_append_left h.lt]; exact h
theorem MapOf.frame {H' : Hp} {kt : TypeId} {ek : α → V} {ev : β → V} {id : Nat} {l : List (α × β)} (h : MapOf H id kt ek ev l) (hf : H'[id]? = H[id]?) : MapOf H' id kt ek ev l := by
  unfold MapOf
  rw [hf]; exact h
theorem map_new {kt : TypeId} {ek : α → V} {ev : β → V} : MapOf (H ++ [.map kt []]) H.length kt ek ev ([] : List (α × β)) := by
  unfold MapOf
  simp
theorem map_len {t kt et : TypeId} {ek : α → V} {ev : β → V} {id : Nat} {l : List (α × β)} (ht : mapKV P t = some (kt, et)) (hm : MapOf H id kt ek ev l) (hl : l.length ≤ 2 ^ 62) : lenV P t H (.map id) = some (.int .i64 l.length) := by
  have hg : getMap H id = some (kt, l.map (enP ek ev)) := by unfold getMap; rw [hm]
  unfold lenV
  rw [mapKV_eq ht]
  simp only [hg, Option.bind_some, List.length_map]
  rw [if_pos hl]
theorem lookA_put (l : List (α × β)) (k k' : α) (v : β) : lookA (putA l k v) k' = if k = k' then some v else lookA l k' := by
  induction l with
  | nil => simp [putA, lookA]
  | cons p l ih =>
    unfold putA
    split
    · rename_i h
      subst h
      by_cases h1 : p.1 = k' <;> simp [lookA, h1]
    · rename_i h
      simp only [lookA, ih]
      by_cases h1 : p.1 = k'
      · have : ¬ k = k' := fun e => h (by rw [h1, e])
        simp [h1, this]
      · simp [h1]
theorem putA_new {l : List (α × β)} {k : α} (h : lookA l k = none) (v : β) : putA l k v = l ++ [(k, v)] := by
  induction l with
  | nil => rfl
  | cons p l ih =>
    unfold lookA at h
    split at h
    · simp at h
    · rename_i hne
      simp [putA, hne, ih h]
theorem lookA_map {γ : Type} (f : γ → α) (g : γ → β) (l : List γ) (k : α) : (lookA (l.map fun x => (f x, g x)) k).isSome = l.any fun x => decide (f x = k) := by
  induction l with
  | nil => rfl
  | cons x l ih =>
    simp only [List.map_cons, lookA, List.any_cons]
    by_cases h : f x = k
    · simp [h]
    · simp [h, ih]
end
end Go.Am
/-
  Lists of conversations asked, by the program: walked. No statement of the seat stands here.
-/
namespace Go.Proofs.Ytdpdlobaabcjjaa
open Go Go.Am
set_option maxRecDepth 4000
set_option linter.unusedSimpArgs false
set_option linter.unusedVariables false

instance keyDec : DecidableEq Key := fun a b => decidable_of_iff (keyEq a b = true) (keyEq_iff a b)
def ekK (k : Key) : V := .agg (keyC k)
def evB (b : Bool) : V := .bool b
theorem mt127 : mapKV Try.prog 127 = some (88, 4) := by kernel_rfl
theorem keyEqK : KeyEq ekK := by
  intro a b
  cases a; cases b
  simp [ekK, V.cells, eqCells, eqCell, Bool.decide_and]
  rfl
theorem keyOkK (k : Key) : keyOk Try.prog 88 (ekK k) = true := keyOk_agg (ks := [.int .i64, .int .i64, .int .i64, .int .i64, .int .i64]) (by kernel_rfl) g88 z88 rfl
theorem ext_of {H H' : Hp} (hl : H.length ≤ H'.length) (hf : ∀ id, id < H.length → H'[id]? = H[id]?) : ∃ G, H' = H ++ G := by
  refine ⟨H'.drop H.length, ?_⟩
  have : H'.take H.length = H := by
    apply List.ext_getElem?
    intro i
    by_cases hi : i < H.length
    · rw [List.getElem?_take_of_lt hi, hf i hi]
    · rw [List.getElem?_eq_none (by rw [List.length_take]; omega), List.getElem?_eq_none (by omega)]
  conv => lhs; rw [← List.take_append_drop H.length H', this]
def okAt2 (l : List Sm) (i : Nat) : Bool := match l[i]? with
  | some s => isSumB s && !((l.take i).any fun x => decide (keyOf x = keyOf s))
  | none => true
def okTo (l : List Sm) (n : Nat) : Bool := (List.range n).all (okAt2 l)
def sumsE (ls : List (List Sm)) : Int := if (ls.any fun l => decide (200 < l.length)) = true then 3 else if (ls.all fun l => okTo l l.length) = true then 0 else 1
theorem okTo_next (l : List Sm) (i : Nat) : okTo l (i + 1) = (okTo l i && okAt2 l i) := by
  unfold okTo
  rw [List.range_succ, List.all_append]
  simp
theorem okTo_bad {l : List Sm} {i : Nat} (h : i < l.length) (hb : okAt2 l i = false) : okTo l l.length = false := by
  unfold okTo
  exact List.all_eq_false.2 ⟨i, by simpa using h, by simp [hb]⟩
def seenOf (l : List Sm) (i : Nat) : List (Key × Bool) := (l.take i).map fun s => (keyOf s, true)
theorem seen_next {l : List Sm} {i : Nat} {x : Sm} (h : l[i]? = some x) : seenOf l (i + 1) = seenOf l i ++ [(keyOf x, true)] := by
  unfold seenOf
  rw [take_snoc h, List.map_append]; rfl
theorem lookB {l : List (Key × Bool)} (h : ∀ p ∈ l, p.2 = true) (k : Key) : ((lookA l k).map evB).getD (.bool false) = .bool (lookA l k).isSome := by
  induction l with
  | nil => rfl
  | cons p l ih =>
    unfold lookA
    split
    · simp [evB, h p (by simp)]
    · exact ih fun q hq => h q (by simp [hq])
set_option maxHeartbeats 1000000 in
theorem fn38 (H : Hp) (s : V) (ls : List (V × List Sm)) (hs : Sl H s 1 (ls.map fun p => [p.1])) (hl : ∀ p ∈ ls, Sl H p.1 11 (p.2.map smC)) (hn : ls.length < 100) : callL Try.prog pr 38 [s] H = some (.int .i64 (sumsE (ls.map (·.2))), H) := by
  have hlen : (ls.map fun p => [p.1]).length = ls.length := List.length_map _
  have hlenS := fun H' => hs.len (P := Try.prog) (H' := H') s126
  rw [hlen] at hlenS
  refine flat_of (run38 (Nat.le_of_ble_eq_true rfl) ?_) rfl rfl
  simp (disch := omega) only [c38, r38_0, r38_1, ↓reduceIte, go_sem, Nat.reduceLT, Nat.reduceEqDiff, Nat.reduceAdd, Nat.reduceMul, Nat.reduceLeDiff, Int.reduceLT, Int.reduceLE, Int.reduceEq, Int.reduceNeg, Int.reduceToNat, hlenS]
  refine Wp_loop (fun m T D H' => ∃ i, m = ls.length - i ∧ i ≤ ls.length ∧ D = [] ∧ H' = H ∧ get T 0 = s ∧ get T 10 = s ∧ get T 11 = .int .i64 ls.length ∧ get T 12 = .int .i64 i ∧ ((ls.take i).all fun p => decide (p.2.length ≤ 200)) = true) ?_ ls.length _ _ _ ?_
  · rintro m T D H' ⟨i, rfl, hi, rfl, rfl, t0, t10, t11, t12, hp⟩
    by_cases hlt : i < ls.length
    · have hlt' : (i : Int) < ls.length := by omega
      obtain ⟨x, hx⟩ : ∃ x, ls[i]? = some x := ⟨_, List.getElem?_eq_getElem hlt⟩
      have hx' : (ls.map fun p => [p.1])[i]? = some [x.1] := by rw [List.getElem?_map, hx]; rfl
      have hi2 := fun k => hs.idx (P := Try.prog) (k := k) s126 (i := i) (by omega)
      have hc := hs.cell0 (P := Try.prog) g40 hx' (by omega)
      have hxs := hl x (List.mem_of_getElem? hx)
      have hlx : (x.2.map smC).length = x.2.length := List.length_map _
      have hlenX := fun H' => hxs.len (P := Try.prog) (H' := H') s40
      rw [hlx] at hlenX
      by_cases hb : 200 < x.2.length
      · have hb' : (200 : Int) < x.2.length := by omega
        simp (disch := omega) only [l38_7, r38_2, r38_3, r38_4, r38_5, rs38, ↓reduceIte, go_sem, Nat.reduceLT, Nat.reduceEqDiff, Nat.reduceAdd, Nat.reduceMul, Nat.reduceLeDiff, Int.reduceLT, Int.reduceLE, Int.reduceEq, Int.reduceNeg, Int.reduceToNat, t0, t10, t11, t12, hlt', hi2, hc, hlenX, hb', IntWalk.i64_in]
        refine ⟨?_, [], by simp⟩
        unfold sumsE
        rw [if_pos]
        simp only [List.any_map, List.any_eq_true]
        exact ⟨x, List.mem_of_getElem? hx, by simpa using hb⟩
      · have hb' : ¬ (200 : Int) < x.2.length := by omega
        simp (disch := omega) only [l38_7, r38_2, r38_3, r38_4, r38_6, rs38, ↓reduceIte, go_sem, Nat.reduceLT, Nat.reduceEqDiff, Nat.reduceAdd, Nat.reduceMul, Nat.reduceLeDiff, Int.reduceLT, Int.reduceLE, Int.reduceEq, Int.reduceNeg, Int.reduceToNat, t0, t10, t11, t12, hlt', hi2, hc, hlenX, hb', IntWalk.i64_in]
        refine ⟨_, by omega, i + 1, rfl, hlt, rfl, ?_⟩
        rw [take_snoc hx, List.all_append, hp]
        simp; omega
    · obtain rfl : i = ls.length := by omega
      rw [List.take_length] at hp
      simp (disch := omega) only [l38_7, r38_2, r38_8, ↓reduceIte, go_sem, Nat.reduceLT, Nat.reduceEqDiff, Nat.reduceAdd, Nat.reduceMul, Nat.reduceLeDiff, Int.reduceLT, Int.reduceLE, Int.reduceEq, Int.reduceNeg, Int.reduceToNat, t0, t10, t11, t12, hlenS, Int.lt_irrefl]
      have h200 : ∀ p ∈ ls, p.2.length ≤ 200 := by simpa using hp
      have hno : ¬ ((ls.map (·.2)).any fun l => decide (200 < l.length)) = true := by
        simp only [List.any_map, List.any_eq_true, Function.comp, decide_eq_true_eq, not_exists, not_and]
        intro p hp1
        have := h200 p hp1
        omega
      have hE : sumsE (ls.map (·.2)) = if ((ls.map (·.2)).all fun l => okTo l l.length) = true then 0 else 1 := by
        unfold sumsE
        rw [if_neg hno]
      rw [hE]
      refine Wp_loop (fun m T D H1 => ∃ j, m = ls.length - j ∧ j ≤ ls.length ∧ D = [] ∧ H'.length ≤ H1.length ∧ (∀ id, id < H'.length → H1[id]? = H'[id]?) ∧ get T 20 = s ∧ get T 21 = .int .i64 ls.length ∧ get T 22 = .int .i64 j ∧ ((ls.take j).all fun p => okTo p.2 p.2.length) = true) ?_ ls.length _ _ _ ?_
      · rintro m T D H1 ⟨j, rfl, hj, rfl, hle, hfr, t20, t21, t22, hq⟩
        by_cases hlj : j < ls.length
        · have hlj' : (j : Int) < ls.length := by omega
          obtain ⟨x, hx⟩ : ∃ x, ls[j]? = some x := ⟨_, List.getElem?_eq_getElem hlj⟩
          have hx' : (ls.map fun p => [p.1])[j]? = some [x.1] := by rw [List.getElem?_map, hx]; rfl
          have hs1 : Sl H1 s 1 (ls.map fun p => [p.1]) := hs.move fun id h => hfr id (hs.at_lt h)
          have hi2 := fun k => hs1.idx (P := Try.prog) (k := k) s126 (i := j) (by omega)
          have hc := hs1.cell0 (P := Try.prog) g40 hx' (by omega)
          have hxs := hl x (List.mem_of_getElem? hx)
          have hlx : (x.2.map smC).length = x.2.length := List.length_map _
          have hlenX := fun H' => hxs.len (P := Try.prog) (H' := H') s40
          rw [hlx] at hlenX
          have h2 := h200 x (List.mem_of_getElem? hx)
          simp (disch := omega) only [l38_21, r38_9, r38_10, r38_11, r38_12, rs38, ↓reduceIte, go_sem, Nat.reduceLT, Nat.reduceEqDiff, Nat.reduceAdd, Nat.reduceMul, Nat.reduceLeDiff, Int.reduceLT, Int.reduceLE, Int.reduceEq, Int.reduceNeg, Int.reduceToNat, mt127, t20, t21, t22, hlj', hi2, hc, hlenX, IntWalk.i64_in]
          refine Wp_loop (fun m T D H2 => ∃ i, m = x.2.length - i ∧ i ≤ x.2.length ∧ D = [] ∧ H'.length ≤ H2.length ∧ (∀ id, id < H'.length → H2[id]? = H'[id]?) ∧ get T 20 = s ∧ get T 21 = .int .i64 ls.length ∧ get T 22 = .int .i64 j ∧ get T 27 = x.1 ∧ get T 28 = .int .i64 x.2.length ∧ get T 29 = .int .i64 i ∧ get T 7 = .map H1.length ∧ MapOf H2 H1.length 88 ekK evB (seenOf x.2 i) ∧ okTo x.2 i = true) ?_ x.2.length _ _ _ ?_
          · rintro m T D H2 ⟨i, rfl, hi, rfl, hle2, hfr2, t20, t21, t22, t27, t28, t29, t7, hmap, hr⟩
            by_cases hli : i < x.2.length
            · have hli' : (i : Int) < x.2.length := by omega
              obtain ⟨y, hy⟩ : ∃ y, x.2[i]? = some y := ⟨_, List.getElem?_eq_getElem hli⟩
              have hy' : (x.2.map smC)[i]? = some (smC y) := by rw [List.getElem?_map, hy]; rfl
              have hx1 : Sl H2 x.1 11 (x.2.map smC) := hxs.move fun id h => hfr2 id (hxs.at_lt h)
              have hi3 := fun k => hx1.idx (P := Try.prog) (k := k) s40 (i := i) (by omega)
              have hag := hx1.agg (P := Try.prog) g50 z50 hy'
              have hbad : okAt2 x.2 i = false → ((ls.map (·.2)).all fun l => okTo l l.length) = false := fun h => by
                rw [List.all_eq_false]
                exact ⟨x.2, List.mem_map.2 ⟨x, List.mem_of_getElem? hx, rfl⟩, by simp [okTo_bad hli h]⟩
              have hext : ∀ b, ∃ G, H2 ++ [b] = H' ++ G := fun b => ext_of (by simp; omega) fun id hid => by
                rw [List.getElem?_append_left (by omega)]; exact hfr2 id hid
              by_cases hsum : isSumB y = true
              · have hlook := map_look (P := Try.prog) (ok := false) keyEqK mt127 (hmap.app (L := [.row 0 (smC y) true])) (keyOkK (keyOf y)) (z := .bool false) o4
                rw [lookB (by
                  intro p hp
                  obtain ⟨q, _, rfl⟩ := List.mem_map.1 hp
                  rfl)] at hlook
                have hsm : (lookA (seenOf x.2 i) (keyOf y)).isSome = (x.2.take i).any fun z => decide (keyOf z = keyOf y) := lookA_map ..
                rw [hsm] at hlook
                simp only [ekK, if_false, Bool.false_eq_true] at hlook
                by_cases hdup : ((x.2.take i).any fun z => decide (keyOf z = keyOf y)) = true
                · rw [hdup] at hlook
                  simp (disch := first | exact lt_new _ | exact len_snoc _ _ _ | omega | (simp only [List.length_append, List.length_singleton, List.length_set]; done) | (simp only [List.length_append, List.length_singleton, List.length_set]; omega)) only [l38_19, r38_13, r38_14, r38_15, r38_16, rs38, ↓reduceIte, go_sem, Nat.reduceLT, Nat.reduceEqDiff, Nat.reduceAdd, Nat.reduceMul, Nat.reduceLeDiff, Int.reduceLT, Int.reduceLE, Int.reduceEq, Int.reduceNeg, Int.reduceToNat, t20, t21, t22, t27, t28, t29, t7, hli', hi3, hag, fn44, fn42, hsum, hlook, IntWalk.i64_in]
                  refine ⟨?_, hext _⟩
                  rw [hbad (by simp [okAt2, hy, hdup])]; rfl
                · rw [Bool.not_eq_true] at hdup
                  rw [hdup] at hlook
                  have hput := map_put (P := Try.prog) (v := true) keyEqK mt127 (hmap.app (L := [.row 0 (smC y) true])) (keyOkK (keyOf y)) rfl
                  rw [putA_new (by rw [← Option.not_isSome_iff_eq_none, hsm, hdup]; simp), ← seen_next hy] at hput
                  simp only [ekK, evB] at hput
                  simp (disch := first | exact lt_new _ | exact len_snoc _ _ _ | omega | (simp only [List.length_append, List.length_singleton, List.length_set]; done) | (simp only [List.length_append, List.length_singleton, List.length_set]; omega)) only [l38_19, r38_13, r38_14, r38_15, r38_17, r38_18, rs38, ↓reduceIte, go_sem, Nat.reduceLT, Nat.reduceEqDiff, Nat.reduceAdd, Nat.reduceMul, Nat.reduceLeDiff, Int.reduceLT, Int.reduceLE, Int.reduceEq, Int.reduceNeg, Int.reduceToNat, t20, t21, t22, t27, t28, t29, t7, hli', hi3, hag, fn44, fn42, hsum, hlook, hput, IntWalk.i64_in]
                  refine ⟨_, by omega, i + 1, rfl, hli, by simp; omega, fun id hid => ?_, rfl, map_set_of (by simp; have := hmap.lt; omega), ?_⟩
                  · rw [List.getElem?_set_ne (by omega), List.getElem?_append_left (by omega)]; exact hfr2 id hid
                  · rw [okTo_next, hr]; simp [okAt2, hy, hsum, hdup]
              · rw [Bool.not_eq_true] at hsum
                simp (disch := first | exact lt_new _ | exact len_snoc _ _ _ | omega | (simp only [List.length_append, List.length_singleton, List.length_set]; done) | (simp only [List.length_append, List.length_singleton, List.length_set]; omega)) only [l38_19, r38_13, r38_14, r38_15, r38_16, rs38, ↓reduceIte, go_sem, Nat.reduceLT, Nat.reduceEqDiff, Nat.reduceAdd, Nat.reduceMul, Nat.reduceLeDiff, Int.reduceLT, Int.reduceLE, Int.reduceEq, Int.reduceNeg, Int.reduceToNat, t20, t21, t22, t27, t28, t29, t7, hli', hi3, hag, fn44, hsum, IntWalk.i64_in]
                refine ⟨?_, hext _⟩
                rw [hbad (by simp [okAt2, hy, hsum])]; rfl
            · obtain rfl : i = x.2.length := by omega
              simp (disch := omega) only [l38_19, r38_13, r38_20, ↓reduceIte, go_sem, Nat.reduceLT, Nat.reduceEqDiff, Nat.reduceAdd, Nat.reduceMul, Nat.reduceLeDiff, Int.reduceLT, Int.reduceLE, Int.reduceEq, Int.reduceNeg, Int.reduceToNat, t20, t21, t22, t27, t28, t29, Int.lt_irrefl, IntWalk.i64_in]
              refine ⟨_, by omega, j + 1, rfl, hlj, hle2, hfr2, rfl, ?_⟩
              rw [take_snoc hx, List.all_append, hq]
              simp [hr]
          · refine ⟨0, rfl, by omega, rfl, by simp; omega, fun id hid => ?_, ?_⟩
            · rw [List.getElem?_append_left (by omega)]; exact hfr id hid
            · simp only [↓reduceIte, go_sem, Nat.reduceLT, Nat.reduceEqDiff, Nat.reduceAdd, Nat.reduceMul, Nat.reduceLeDiff, Int.reduceLT, Int.reduceLE, Int.reduceEq, Int.reduceNeg, Int.reduceToNat, t20, t21, t22]
              exact ⟨map_new, rfl⟩
        · obtain rfl : j = ls.length := by omega
          rw [List.take_length] at hq
          simp (disch := omega) only [l38_21, r38_9, r38_22, rs38, ↓reduceIte, go_sem, Nat.reduceLT, Nat.reduceEqDiff, Nat.reduceAdd, Nat.reduceMul, Nat.reduceLeDiff, Int.reduceLT, Int.reduceLE, Int.reduceEq, Int.reduceNeg, Int.reduceToNat, t20, t21, t22, Int.lt_irrefl]
          refine ⟨?_, ext_of hle hfr⟩
          have : ((ls.map (·.2)).all fun l => okTo l l.length) = true := by rw [List.all_map]; exact hq
          rw [this]; rfl
      · exact ⟨0, by simp [go_sem]⟩
  · exact ⟨0, by simp [go_sem]⟩
end Go.Proofs.Ytdpdlobaabcjjaa
