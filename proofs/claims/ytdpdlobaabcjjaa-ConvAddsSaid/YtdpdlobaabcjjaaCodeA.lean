/-
  What this seat's program gives to the abstract machine: its types, its functions' code in short form (printed by a tool). No statement of the seat stands here.
-/
import Derived.Test.YtdpdlobaabcjjaaKnown
import Derived.Test.YtdpdlobaabcjjaaAmZG
namespace Go.Proofs.Ytdpdlobaabcjjaa
open Go Go.Am

@[go_sem] theorem u3 : Try.prog.underlying 3 = some (.int .i64) := by kernel_rfl
@[go_sem] theorem z3 : szOf Try.prog 3 = some 1 := by kernel_rfl
@[go_sem] theorem y3 : bytesOf' Try.prog 3 = some 8 := by kernel_rfl
@[go_sem] theorem g3 : aggT Try.prog 3 = some false := by kernel_rfl
@[go_sem] theorem o3 : zeroV Try.prog 3 = some (.int .i64 0) := by kernel_rfl
@[go_sem] theorem u4 : Try.prog.underlying 4 = some (.bool) := by kernel_rfl
@[go_sem] theorem z4 : szOf Try.prog 4 = some 1 := by kernel_rfl
@[go_sem] theorem y4 : bytesOf' Try.prog 4 = some 1 := by kernel_rfl
@[go_sem] theorem g4 : aggT Try.prog 4 = some false := by kernel_rfl
@[go_sem] theorem o4 : zeroV Try.prog 4 = some (.bool false) := by kernel_rfl
@[go_sem] theorem u22 : Try.prog.underlying 22 = some (.slice 3) := by kernel_rfl
@[go_sem] theorem z22 : szOf Try.prog 22 = some 1 := by kernel_rfl
@[go_sem] theorem y22 : bytesOf' Try.prog 22 = some 24 := by kernel_rfl
@[go_sem] theorem g22 : aggT Try.prog 22 = some false := by kernel_rfl
@[go_sem] theorem o22 : zeroV Try.prog 22 = some .nilslice := by kernel_rfl
theorem s22 : sliceT Try.prog 22 1 = true := by kernel_rfl
@[go_sem] theorem i22 {id g off n : Nat} {cp : Cap} {k : IntKind} {j : Int} (hj : 0 ≤ j ∧ j < n) : indexAddrV Try.prog 22 (.slice id g off n 1 cp) (.int k j) = some (.ptr id g (off + j.toNat * 1)) := ia_slice (by kernel_rfl) hj
@[go_sem] theorem n22 {H : Hp} (id g off n : Nat) (cp : Cap) : lenV Try.prog 22 H (.slice id g off n 1 cp) = some (.int .i64 n) := len_slice (sz := 1) (by kernel_rfl) id g off n 1 cp
@[go_sem] theorem m22 {H : Hp} : lenV Try.prog 22 H .nilslice = some (.int .i64 0) := len_nilslice (sz := 1) (by kernel_rfl)
@[go_sem] theorem u29 : Try.prog.underlying 29 = some (.int .i64) := by kernel_rfl
@[go_sem] theorem z29 : szOf Try.prog 29 = some 1 := by kernel_rfl
@[go_sem] theorem y29 : bytesOf' Try.prog 29 = some 8 := by kernel_rfl
@[go_sem] theorem g29 : aggT Try.prog 29 = some false := by kernel_rfl
@[go_sem] theorem o29 : zeroV Try.prog 29 = some (.int .i64 0) := by kernel_rfl
@[go_sem] theorem u34 : Try.prog.underlying 34 = some (.slice 58) := by kernel_rfl
@[go_sem] theorem z34 : szOf Try.prog 34 = some 1 := by kernel_rfl
@[go_sem] theorem y34 : bytesOf' Try.prog 34 = some 24 := by kernel_rfl
@[go_sem] theorem g34 : aggT Try.prog 34 = some false := by kernel_rfl
@[go_sem] theorem o34 : zeroV Try.prog 34 = some .nilslice := by kernel_rfl
theorem s34 : sliceT Try.prog 34 7 = true := by kernel_rfl
@[go_sem] theorem i34 {id g off n : Nat} {cp : Cap} {k : IntKind} {j : Int} (hj : 0 ≤ j ∧ j < n) : indexAddrV Try.prog 34 (.slice id g off n 7 cp) (.int k j) = some (.ptr id g (off + j.toNat * 7)) := ia_slice (by kernel_rfl) hj
@[go_sem] theorem n34 {H : Hp} (id g off n : Nat) (cp : Cap) : lenV Try.prog 34 H (.slice id g off n 7 cp) = some (.int .i64 n) := len_slice (sz := 7) (by kernel_rfl) id g off n 7 cp
@[go_sem] theorem m34 {H : Hp} : lenV Try.prog 34 H .nilslice = some (.int .i64 0) := len_nilslice (sz := 7) (by kernel_rfl)
@[go_sem] theorem u35 : Try.prog.underlying 35 = some (.array 3 3) := by kernel_rfl
@[go_sem] theorem z35 : szOf Try.prog 35 = some 3 := by kernel_rfl
@[go_sem] theorem y35 : bytesOf' Try.prog 35 = some 24 := by kernel_rfl
@[go_sem] theorem g35 : aggT Try.prog 35 = some true := by kernel_rfl
@[go_sem] theorem o35 : zeroV Try.prog 35 = some (.agg [.int .i64 0, .int .i64 0, .int .i64 0]) := by kernel_rfl
@[go_sem] theorem i35 {id g off : Nat} {k : IntKind} {j : Int} (hj : 0 ≤ j ∧ j < (3 : Nat)) : indexAddrV Try.prog 35 (.ptr id g off) (.int k j) = some (.ptr id g (off + j.toNat * 1)) := ia_arr (by kernel_rfl) hj
@[go_sem] theorem u37 : Try.prog.underlying 37 = some (.slice 80) := by kernel_rfl
@[go_sem] theorem z37 : szOf Try.prog 37 = some 1 := by kernel_rfl
@[go_sem] theorem y37 : bytesOf' Try.prog 37 = some 24 := by kernel_rfl
@[go_sem] theorem g37 : aggT Try.prog 37 = some false := by kernel_rfl
@[go_sem] theorem o37 : zeroV Try.prog 37 = some .nilslice := by kernel_rfl
theorem s37 : sliceT Try.prog 37 11 = true := by kernel_rfl
@[go_sem] theorem i37 {id g off n : Nat} {cp : Cap} {k : IntKind} {j : Int} (hj : 0 ≤ j ∧ j < n) : indexAddrV Try.prog 37 (.slice id g off n 11 cp) (.int k j) = some (.ptr id g (off + j.toNat * 11)) := ia_slice (by kernel_rfl) hj
@[go_sem] theorem n37 {H : Hp} (id g off n : Nat) (cp : Cap) : lenV Try.prog 37 H (.slice id g off n 11 cp) = some (.int .i64 n) := len_slice (sz := 11) (by kernel_rfl) id g off n 11 cp
@[go_sem] theorem m37 {H : Hp} : lenV Try.prog 37 H .nilslice = some (.int .i64 0) := len_nilslice (sz := 11) (by kernel_rfl)
@[go_sem] theorem u40 : Try.prog.underlying 40 = some (.slice 50) := by kernel_rfl
@[go_sem] theorem z40 : szOf Try.prog 40 = some 1 := by kernel_rfl
@[go_sem] theorem y40 : bytesOf' Try.prog 40 = some 24 := by kernel_rfl
@[go_sem] theorem g40 : aggT Try.prog 40 = some false := by kernel_rfl
@[go_sem] theorem o40 : zeroV Try.prog 40 = some .nilslice := by kernel_rfl
theorem s40 : sliceT Try.prog 40 11 = true := by kernel_rfl
@[go_sem] theorem i40 {id g off n : Nat} {cp : Cap} {k : IntKind} {j : Int} (hj : 0 ≤ j ∧ j < n) : indexAddrV Try.prog 40 (.slice id g off n 11 cp) (.int k j) = some (.ptr id g (off + j.toNat * 11)) := ia_slice (by kernel_rfl) hj
@[go_sem] theorem n40 {H : Hp} (id g off n : Nat) (cp : Cap) : lenV Try.prog 40 H (.slice id g off n 11 cp) = some (.int .i64 n) := len_slice (sz := 11) (by kernel_rfl) id g off n 11 cp
@[go_sem] theorem m40 {H : Hp} : lenV Try.prog 40 H .nilslice = some (.int .i64 0) := len_nilslice (sz := 11) (by kernel_rfl)
@[go_sem] theorem z50 : szOf Try.prog 50 = some 11 := by kernel_rfl
@[go_sem] theorem y50 : bytesOf' Try.prog 50 = some 88 := by kernel_rfl
@[go_sem] theorem g50 : aggT Try.prog 50 = some true := by kernel_rfl
@[go_sem] theorem o50 : zeroV Try.prog 50 = some (.agg [.int .i64 0, .int .i64 0, .int .i64 0, .int .i64 0, .int .i64 0, .int .i64 0, .int .i64 0, .int .i64 0, .int .i64 0, .int .i64 0, .int .i64 0]) := by kernel_rfl
@[go_sem] theorem a50 (id g off i : Nat) : fieldAddrV Try.prog 50 (.ptr id g off) i = fieldAt [0, 1, 2, 3, 4, 5, 6, 7, 8, 9, 10] id g off i := fieldAt_eq (by kernel_rfl) id g off i
@[go_sem] theorem p50 (cs : List V) (i : Nat) : fieldV Try.prog 50 (.agg cs) i = fieldOf Try.prog [(3, 0), (3, 1), (3, 2), (3, 3), (3, 4), (3, 5), (3, 6), (3, 7), (3, 8), (3, 9), (3, 10)] cs i := fieldOf_eq (by kernel_rfl) cs i
@[go_sem] theorem h50 (ps : List (Nat × V)) : buildV Try.prog 50 ps = buildOf [.int .i64 0, .int .i64 0, .int .i64 0, .int .i64 0, .int .i64 0, .int .i64 0, .int .i64 0, .int .i64 0, .int .i64 0, .int .i64 0, .int .i64 0] [(0, 1), (1, 1), (2, 1), (3, 1), (4, 1), (5, 1), (6, 1), (7, 1), (8, 1), (9, 1), (10, 1)] ps := buildOf_eq (by kernel_rfl) (by kernel_rfl) ps
@[go_sem] theorem z58 : szOf Try.prog 58 = some 7 := by kernel_rfl
@[go_sem] theorem y58 : bytesOf' Try.prog 58 = some 56 := by kernel_rfl
@[go_sem] theorem g58 : aggT Try.prog 58 = some true := by kernel_rfl
@[go_sem] theorem o58 : zeroV Try.prog 58 = some (.agg [.int .i64 0, .int .i64 0, .int .i64 0, .int .i64 0, .int .i64 0, .int .i64 0, .int .i64 0]) := by kernel_rfl
@[go_sem] theorem a58 (id g off i : Nat) : fieldAddrV Try.prog 58 (.ptr id g off) i = fieldAt [0, 1, 2, 3, 4, 5, 6] id g off i := fieldAt_eq (by kernel_rfl) id g off i
@[go_sem] theorem p58 (cs : List V) (i : Nat) : fieldV Try.prog 58 (.agg cs) i = fieldOf Try.prog [(3, 0), (3, 1), (3, 2), (3, 3), (3, 4), (3, 5), (3, 6)] cs i := fieldOf_eq (by kernel_rfl) cs i
@[go_sem] theorem h58 (ps : List (Nat × V)) : buildV Try.prog 58 ps = buildOf [.int .i64 0, .int .i64 0, .int .i64 0, .int .i64 0, .int .i64 0, .int .i64 0, .int .i64 0] [(0, 1), (1, 1), (2, 1), (3, 1), (4, 1), (5, 1), (6, 1)] ps := buildOf_eq (by kernel_rfl) (by kernel_rfl) ps
@[go_sem] theorem z80 : szOf Try.prog 80 = some 11 := by kernel_rfl
@[go_sem] theorem y80 : bytesOf' Try.prog 80 = some 88 := by kernel_rfl
@[go_sem] theorem g80 : aggT Try.prog 80 = some true := by kernel_rfl
@[go_sem] theorem o80 : zeroV Try.prog 80 = some (.agg [.int .i64 0, .int .i64 0, .int .i64 0, .int .i64 0, .int .i64 0, .int .i64 0, .int .i64 0, .int .i64 0, .int .i64 0, .int .i64 0, .int .i64 0]) := by kernel_rfl
@[go_sem] theorem a80 (id g off i : Nat) : fieldAddrV Try.prog 80 (.ptr id g off) i = fieldAt [0, 1, 2, 3, 4, 5, 6, 7, 8, 9, 10] id g off i := fieldAt_eq (by kernel_rfl) id g off i
@[go_sem] theorem p80 (cs : List V) (i : Nat) : fieldV Try.prog 80 (.agg cs) i = fieldOf Try.prog [(3, 0), (3, 1), (3, 2), (3, 3), (3, 4), (3, 5), (3, 6), (3, 7), (3, 8), (3, 9), (3, 10)] cs i := fieldOf_eq (by kernel_rfl) cs i
@[go_sem] theorem h80 (ps : List (Nat × V)) : buildV Try.prog 80 ps = buildOf [.int .i64 0, .int .i64 0, .int .i64 0, .int .i64 0, .int .i64 0, .int .i64 0, .int .i64 0, .int .i64 0, .int .i64 0, .int .i64 0, .int .i64 0] [(0, 1), (1, 1), (2, 1), (3, 1), (4, 1), (5, 1), (6, 1), (7, 1), (8, 1), (9, 1), (10, 1)] ps := buildOf_eq (by kernel_rfl) (by kernel_rfl) ps
@[go_sem] theorem u81 : Try.prog.underlying 81 = some (.array 5 3) := by kernel_rfl
@[go_sem] theorem z81 : szOf Try.prog 81 = some 5 := by kernel_rfl
@[go_sem] theorem y81 : bytesOf' Try.prog 81 = some 40 := by kernel_rfl
@[go_sem] theorem g81 : aggT Try.prog 81 = some true := by kernel_rfl
@[go_sem] theorem o81 : zeroV Try.prog 81 = some (.agg [.int .i64 0, .int .i64 0, .int .i64 0, .int .i64 0, .int .i64 0]) := by kernel_rfl
@[go_sem] theorem i81 {id g off : Nat} {k : IntKind} {j : Int} (hj : 0 ≤ j ∧ j < (5 : Nat)) : indexAddrV Try.prog 81 (.ptr id g off) (.int k j) = some (.ptr id g (off + j.toNat * 1)) := ia_arr (by kernel_rfl) hj
@[go_sem] theorem u88 : Try.prog.underlying 88 = some (.array 5 3) := by kernel_rfl
@[go_sem] theorem z88 : szOf Try.prog 88 = some 5 := by kernel_rfl
@[go_sem] theorem y88 : bytesOf' Try.prog 88 = some 40 := by kernel_rfl
@[go_sem] theorem g88 : aggT Try.prog 88 = some true := by kernel_rfl
@[go_sem] theorem o88 : zeroV Try.prog 88 = some (.agg [.int .i64 0, .int .i64 0, .int .i64 0, .int .i64 0, .int .i64 0]) := by kernel_rfl
@[go_sem] theorem i88 {id g off : Nat} {k : IntKind} {j : Int} (hj : 0 ≤ j ∧ j < (5 : Nat)) : indexAddrV Try.prog 88 (.ptr id g off) (.int k j) = some (.ptr id g (off + j.toNat * 1)) := ia_arr (by kernel_rfl) hj
@[go_sem] theorem z90 : szOf Try.prog 90 = some 1 := by kernel_rfl
@[go_sem] theorem y90 : bytesOf' Try.prog 90 = some 8 := by kernel_rfl
@[go_sem] theorem g90 : aggT Try.prog 90 = some false := by kernel_rfl
@[go_sem] theorem o90 : zeroV Try.prog 90 = some .nilfn := by kernel_rfl
@[go_sem] theorem u126 : Try.prog.underlying 126 = some (.slice 40) := by kernel_rfl
@[go_sem] theorem z126 : szOf Try.prog 126 = some 1 := by kernel_rfl
@[go_sem] theorem y126 : bytesOf' Try.prog 126 = some 24 := by kernel_rfl
@[go_sem] theorem g126 : aggT Try.prog 126 = some false := by kernel_rfl
@[go_sem] theorem o126 : zeroV Try.prog 126 = some .nilslice := by kernel_rfl
theorem s126 : sliceT Try.prog 126 1 = true := by kernel_rfl
@[go_sem] theorem i126 {id g off n : Nat} {cp : Cap} {k : IntKind} {j : Int} (hj : 0 ≤ j ∧ j < n) : indexAddrV Try.prog 126 (.slice id g off n 1 cp) (.int k j) = some (.ptr id g (off + j.toNat * 1)) := ia_slice (by kernel_rfl) hj
@[go_sem] theorem n126 {H : Hp} (id g off n : Nat) (cp : Cap) : lenV Try.prog 126 H (.slice id g off n 1 cp) = some (.int .i64 n) := len_slice (sz := 1) (by kernel_rfl) id g off n 1 cp
@[go_sem] theorem m126 {H : Hp} : lenV Try.prog 126 H .nilslice = some (.int .i64 0) := len_nilslice (sz := 1) (by kernel_rfl)
@[go_sem] theorem u127 : Try.prog.underlying 127 = some (.map 88 4) := by kernel_rfl
@[go_sem] theorem z127 : szOf Try.prog 127 = some 1 := by kernel_rfl
@[go_sem] theorem y127 : bytesOf' Try.prog 127 = some 8 := by kernel_rfl
@[go_sem] theorem g127 : aggT Try.prog 127 = some false := by kernel_rfl
@[go_sem] theorem o127 : zeroV Try.prog 127 = some .nilmap := by kernel_rfl
@[go_sem] theorem z129 : szOf Try.prog 129 = some 1 := by kernel_rfl
@[go_sem] theorem y129 : bytesOf' Try.prog 129 = some 8 := by kernel_rfl
@[go_sem] theorem g129 : aggT Try.prog 129 = some false := by kernel_rfl
@[go_sem] theorem o129 : zeroV Try.prog 129 = some .nilfn := by kernel_rfl
@[go_sem] theorem e80 (xs ys : List V) : binV Try.prog .eql 80 (.agg xs) (.agg ys) = if ckOks [.int .i64, .int .i64, .int .i64, .int .i64, .int .i64, .int .i64, .int .i64, .int .i64, .int .i64, .int .i64, .int .i64] xs = true ∧ ckOks [.int .i64, .int .i64, .int .i64, .int .i64, .int .i64, .int .i64, .int .i64, .int .i64, .int .i64, .int .i64, .int .i64] ys = true then some (.bool (eqCells xs ys)) else none := agg_eq (ks := [.int .i64, .int .i64, .int .i64, .int .i64, .int .i64, .int .i64, .int .i64, .int .i64, .int .i64, .int .i64, .int .i64]) (by kernel_rfl) g80 z80 xs ys
@[go_sem] theorem ne80 (xs ys : List V) : binV Try.prog .neq 80 (.agg xs) (.agg ys) = if ckOks [.int .i64, .int .i64, .int .i64, .int .i64, .int .i64, .int .i64, .int .i64, .int .i64, .int .i64, .int .i64, .int .i64] xs = true ∧ ckOks [.int .i64, .int .i64, .int .i64, .int .i64, .int .i64, .int .i64, .int .i64, .int .i64, .int .i64, .int .i64, .int .i64] ys = true then some (.bool (!eqCells xs ys)) else none := agg_ne (ks := [.int .i64, .int .i64, .int .i64, .int .i64, .int .i64, .int .i64, .int .i64, .int .i64, .int .i64, .int .i64, .int .i64]) (by kernel_rfl) g80 z80 xs ys
@[go_sem] theorem e81 (xs ys : List V) : binV Try.prog .eql 81 (.agg xs) (.agg ys) = if ckOks [.int .i64, .int .i64, .int .i64, .int .i64, .int .i64] xs = true ∧ ckOks [.int .i64, .int .i64, .int .i64, .int .i64, .int .i64] ys = true then some (.bool (eqCells xs ys)) else none := agg_eq (ks := [.int .i64, .int .i64, .int .i64, .int .i64, .int .i64]) (by kernel_rfl) g81 z81 xs ys
@[go_sem] theorem ne81 (xs ys : List V) : binV Try.prog .neq 81 (.agg xs) (.agg ys) = if ckOks [.int .i64, .int .i64, .int .i64, .int .i64, .int .i64] xs = true ∧ ckOks [.int .i64, .int .i64, .int .i64, .int .i64, .int .i64] ys = true then some (.bool (!eqCells xs ys)) else none := agg_ne (ks := [.int .i64, .int .i64, .int .i64, .int .i64, .int .i64]) (by kernel_rfl) g81 z81 xs ys
@[go_sem] theorem v40a (a b c d e : Nat) (cp : Cap) : binV Try.prog .eql 40 (.slice a b c d e cp) .nilslice = some (.bool false) := (sl_nil (by kernel_rfl) a b c d e cp).1
@[go_sem] theorem v40b (a b c d e : Nat) (cp : Cap) : binV Try.prog .neq 40 (.slice a b c d e cp) .nilslice = some (.bool true) := (sl_nil (by kernel_rfl) a b c d e cp).2.1
@[go_sem] theorem v40c : binV Try.prog .eql 40 .nilslice .nilslice = some (.bool true) := (sl_nil (by kernel_rfl) 0 0 0 0 0 .full).2.2.1
@[go_sem] theorem v40d : binV Try.prog .neq 40 .nilslice .nilslice = some (.bool false) := (sl_nil (by kernel_rfl) 0 0 0 0 0 .full).2.2.2
@[go_sem] theorem e88 (xs ys : List V) : binV Try.prog .eql 88 (.agg xs) (.agg ys) = if ckOks [.int .i64, .int .i64, .int .i64, .int .i64, .int .i64] xs = true ∧ ckOks [.int .i64, .int .i64, .int .i64, .int .i64, .int .i64] ys = true then some (.bool (eqCells xs ys)) else none := agg_eq (ks := [.int .i64, .int .i64, .int .i64, .int .i64, .int .i64]) (by kernel_rfl) g88 z88 xs ys
@[go_sem] theorem ne88 (xs ys : List V) : binV Try.prog .neq 88 (.agg xs) (.agg ys) = if ckOks [.int .i64, .int .i64, .int .i64, .int .i64, .int .i64] xs = true ∧ ckOks [.int .i64, .int .i64, .int .i64, .int .i64, .int .i64] ys = true then some (.bool (!eqCells xs ys)) else none := agg_ne (ks := [.int .i64, .int .i64, .int .i64, .int .i64, .int .i64]) (by kernel_rfl) g88 z88 xs ys
@[go_sem] theorem w37_37 {H : Hp} (s x : V) : builtinV Try.prog .append #[37, 37] [s, x] H = appOf 11 88 H s x := app_eq (by kernel_rfl) s x
@[go_sem] theorem w40_40 {H : Hp} (s x : V) : builtinV Try.prog .append #[40, 40] [s, x] H = appOf 11 88 H s x := app_eq (by kernel_rfl) s x
@[go_sem] theorem bb4e (x y : Bool) : binV Try.prog .eql 4 (.bool x) (.bool y) = some (.bool (x == y)) := b_beql 4 x y u4
@[go_sem] theorem bb4n (x y : Bool) : binV Try.prog .neq 4 (.bool x) (.bool y) = some (.bool (!(x == y))) := b_bneq 4 x y u4
@[go_sem] theorem h35 (ps : List (Nat × V)) : buildV Try.prog 35 ps = (fillV (fun i => some (i * 1, 1)) [.int .i64 0, .int .i64 0, .int .i64 0] ps).map V.agg := buildArr_eq u35 z3 o35 ps
@[go_sem] theorem q37 {H : Hp} (v : V) : buildSliceV Try.prog 37 1 [(0, v)] H = if v.cells.all V.isCell = true ∧ v.cells.length = 11 then some (.slice H.length 0 0 1 11 .full, H ++ [.row 0 v.cells true]) else none := bs_if u37 z80 o80 rfl (by decide) (by decide) v
@[go_sem] theorem q40 {H : Hp} (v : V) : buildSliceV Try.prog 40 1 [(0, v)] H = if v.cells.all V.isCell = true ∧ v.cells.length = 11 then some (.slice H.length 0 0 1 11 .full, H ++ [.row 0 v.cells true]) else none := bs_if u40 z50 o50 rfl (by decide) (by decide) v
@[go_sem] theorem h81 (ps : List (Nat × V)) : buildV Try.prog 81 ps = (fillV (fun i => some (i * 1, 1)) [.int .i64 0, .int .i64 0, .int .i64 0, .int .i64 0, .int .i64 0] ps).map V.agg := buildArr_eq u81 z3 o81 ps
@[go_sem] theorem h88 (ps : List (Nat × V)) : buildV Try.prog 88 ps = (fillV (fun i => some (i * 1, 1)) [.int .i64 0, .int .i64 0, .int .i64 0, .int .i64 0, .int .i64 0] ps).map V.agg := buildArr_eq u88 z3 o88 ps
@[go_sem] theorem qz40 {H : Hp} : buildSliceV Try.prog 40 0 [] H = some (.slice H.length 0 0 0 11 .full, H ++ [.row 0 [] true]) := bs_zero u40 z50 o50 rfl (by decide)
@[go_sem] theorem qm126_2 {H : Hp} (ps : List (Nat × V)) : buildSliceV Try.prog 126 2 ps H = (fillV (fun i => some (i * 1, 1)) (repeatV (V.cells .nilslice) 2) ps).bind fun cs => if cs.all V.isCell = true then some (.slice H.length 0 0 2 1 .full, H ++ [.row 0 cs true]) else none := bs_gen u126 z40 o40 rfl (by decide) (by decide) ps
@[go_sem] theorem qm22_11 {H : Hp} (ps : List (Nat × V)) : buildSliceV Try.prog 22 11 ps H = (fillV (fun i => some (i * 1, 1)) (repeatV (V.cells (.int .i64 0)) 11) ps).bind fun cs => if cs.all V.isCell = true then some (.slice H.length 0 0 11 1 .full, H ++ [.row 0 cs true]) else none := bs_gen u22 z3 o3 rfl (by decide) (by decide) ps
@[go_sem] theorem qm22_2 {H : Hp} (ps : List (Nat × V)) : buildSliceV Try.prog 22 2 ps H = (fillV (fun i => some (i * 1, 1)) (repeatV (V.cells (.int .i64 0)) 2) ps).bind fun cs => if cs.all V.isCell = true then some (.slice H.length 0 0 2 1 .full, H ++ [.row 0 cs true]) else none := bs_gen u22 z3 o3 rfl (by decide) (by decide) ps
def r4_0 : List Co := [
  ⟨some 5, .box 35 (.tmp 2), none, false, false, []⟩,
  ⟨some 6, .assign (.const (.bool false)), none, false, false, []⟩]
def r4_1 : List Co := [
  ⟨some 17, .move (.tmp 0), none, false, false, []⟩,
  ⟨some 18, .call ⟨.builtin .len, #[(.tmp 17)], #[34]⟩, none, false, false, []⟩,
  ⟨some 19, .binOp .gtr 3 (.tmp 18) (.const (.int .i64 800)) 3, none, false, false, []⟩,
  ⟨some 20, .move (.tmp 19), none, false, false, []⟩,
  ⟨some 21, .move (.tmp 1), some (20, false), false, false, []⟩,
  ⟨some 22, .call ⟨.builtin .len, #[(.tmp 21)], #[34]⟩, some (20, false), false, false, []⟩,
  ⟨some 23, .binOp .gtr 3 (.tmp 22) (.const (.int .i64 800)) 3, some (20, false), false, false, []⟩,
  ⟨some 24, .pick (.tmp 20) (.const (.bool true)) (.tmp 23), none, false, false, []⟩,
  ⟨some 25, .move (.tmp 24), none, false, false, []⟩,
  ⟨some 26, .move (.tmp 0), some (25, false), false, false, []⟩,
  ⟨some 27, .call ⟨.value (.func 13), #[(.tmp 26)], #[34]⟩, some (25, false), false, false, []⟩,
  ⟨some 28, .binOp .neq 29 (.tmp 27) (.const (.int .i64 0)) 29, some (25, false), false, false, []⟩,
  ⟨some 29, .pick (.tmp 25) (.const (.bool true)) (.tmp 28), none, false, false, []⟩,
  ⟨some 30, .move (.tmp 29), none, false, false, []⟩,
  ⟨some 31, .move (.tmp 1), some (30, false), false, false, []⟩,
  ⟨some 32, .call ⟨.value (.func 13), #[(.tmp 31)], #[34]⟩, some (30, false), false, false, []⟩,
  ⟨some 33, .binOp .neq 29 (.tmp 32) (.const (.int .i64 0)) 29, some (30, false), false, false, []⟩,
  ⟨some 34, .pick (.tmp 30) (.const (.bool true)) (.tmp 33), none, false, false, []⟩]
def r4_2 : List Co := [
  ⟨some 35, .call ⟨.value (.func 10), #[], #[]⟩, none, false, false, []⟩,
  ⟨some 6, .assign (.tmp 35), none, false, false, []⟩]
def r4_3 : List Co := [
  ⟨some 36, .move (.tmp 0), none, false, false, []⟩,
  ⟨some 37, .call ⟨.value (.func 15), #[(.tmp 36)], #[34]⟩, none, true, false, []⟩,
  ⟨some 38, .load 35 (.tmp 5), none, true, true, []⟩,
  ⟨some 39, .call ⟨.value (.func 14), #[(.tmp 37), (.tmp 38)], #[37, 35]⟩, none, false, false, []⟩,
  ⟨some 40, .move (.tmp 1), none, false, false, []⟩,
  ⟨some 41, .call ⟨.value (.func 15), #[(.tmp 40)], #[34]⟩, none, false, false, []⟩,
  ⟨some 7, .assign (.tmp 39), none, false, false, []⟩,
  ⟨some 8, .assign (.tmp 41), none, false, false, []⟩]
def r4_4 : List Co := [
  ⟨some 43, .move (.tmp 7), none, false, false, []⟩,
  ⟨some 44, .call ⟨.value (.func 17), #[(.tmp 43)], #[37]⟩, none, false, false, []⟩,
  ⟨some 45, .move (.tmp 8), none, false, false, []⟩,
  ⟨some 46, .call ⟨.value (.func 17), #[(.tmp 45)], #[37]⟩, none, false, false, []⟩,
  ⟨some 47, .call ⟨.value (.func 16), #[(.tmp 44), (.tmp 46)], #[40, 40]⟩, none, false, false, []⟩,
  ⟨some 42, .move (.tmp 47), none, false, false, []⟩,
  ⟨some 48, .extract (.tmp 42) 0, none, false, false, []⟩,
  ⟨some 49, .extract (.tmp 42) 1, none, false, false, []⟩,
  ⟨some 9, .assign (.tmp 48), none, false, false, []⟩,
  ⟨some 10, .assign (.tmp 49), none, false, false, []⟩]
def r4_5 : List Co := [
  ⟨some 51, .move (.tmp 7), none, false, false, []⟩,
  ⟨some 52, .move (.tmp 8), none, false, false, []⟩,
  ⟨some 53, .call ⟨.value (.func 18), #[(.tmp 51), (.tmp 52)], #[37, 37]⟩, none, false, false, []⟩,
  ⟨some 50, .move (.tmp 53), none, false, false, []⟩,
  ⟨some 54, .extract (.tmp 50) 0, none, false, false, []⟩,
  ⟨some 55, .extract (.tmp 50) 1, none, false, false, []⟩,
  ⟨some 11, .assign (.tmp 54), none, false, false, []⟩,
  ⟨some 12, .assign (.tmp 55), none, false, false, []⟩]
def r4_6 : List Co := [
  ⟨some 57, .move (.tmp 8), none, false, false, []⟩,
  ⟨some 58, .call ⟨.value (.func 17), #[(.tmp 57)], #[37]⟩, none, false, false, []⟩,
  ⟨some 59, .move (.tmp 7), none, false, false, []⟩,
  ⟨some 60, .call ⟨.value (.func 17), #[(.tmp 59)], #[37]⟩, none, false, false, []⟩,
  ⟨some 61, .call ⟨.value (.func 16), #[(.tmp 58), (.tmp 60)], #[40, 40]⟩, none, false, false, []⟩,
  ⟨some 56, .move (.tmp 61), none, false, false, []⟩,
  ⟨some 62, .extract (.tmp 56) 0, none, false, false, []⟩,
  ⟨some 63, .extract (.tmp 56) 1, none, false, false, []⟩,
  ⟨some 13, .assign (.tmp 62), none, false, false, []⟩,
  ⟨some 14, .assign (.tmp 63), none, false, false, []⟩]
def r4_7 : List Co := [
  ⟨some 65, .move (.tmp 8), none, false, false, []⟩,
  ⟨some 66, .move (.tmp 7), none, false, false, []⟩,
  ⟨some 67, .call ⟨.value (.func 18), #[(.tmp 65), (.tmp 66)], #[37, 37]⟩, none, false, false, []⟩,
  ⟨some 64, .move (.tmp 67), none, false, false, []⟩,
  ⟨some 68, .extract (.tmp 64) 0, none, false, false, []⟩,
  ⟨some 69, .extract (.tmp 64) 1, none, false, false, []⟩,
  ⟨some 15, .assign (.tmp 68), none, false, false, []⟩,
  ⟨some 16, .assign (.tmp 69), none, false, false, []⟩]
def r4_8 : List Co := [
  ⟨some 70, .move (.tmp 9), none, false, false, []⟩,
  ⟨some 71, .move (.tmp 11), none, false, false, []⟩,
  ⟨some 72, .call ⟨.value (.func 19), #[(.tmp 70), (.tmp 71)], #[40, 37]⟩, none, false, false, []⟩,
  ⟨some 73, .move (.tmp 72), none, false, false, []⟩,
  ⟨some 74, .move (.tmp 10), some (73, true), false, false, []⟩,
  ⟨some 75, .move (.tmp 12), some (73, true), false, false, []⟩,
  ⟨some 76, .binOp .eql 29 (.tmp 74) (.tmp 75) 29, some (73, true), false, false, []⟩,
  ⟨some 77, .pick (.tmp 73) (.tmp 76) (.const (.bool false)), none, false, false, []⟩,
  ⟨some 78, .move (.tmp 77), none, false, false, []⟩,
  ⟨some 79, .move (.tmp 13), some (78, true), false, false, []⟩,
  ⟨some 80, .move (.tmp 15), some (78, true), false, false, []⟩,
  ⟨some 81, .call ⟨.value (.func 19), #[(.tmp 79), (.tmp 80)], #[40, 37]⟩, some (78, true), false, false, []⟩,
  ⟨some 82, .pick (.tmp 78) (.tmp 81) (.const (.bool false)), none, false, false, []⟩,
  ⟨some 83, .move (.tmp 82), none, false, false, []⟩,
  ⟨some 84, .move (.tmp 14), some (83, true), false, false, []⟩,
  ⟨some 85, .move (.tmp 16), some (83, true), false, false, []⟩,
  ⟨some 86, .binOp .eql 29 (.tmp 84) (.tmp 85) 29, some (83, true), false, false, []⟩,
  ⟨some 87, .pick (.tmp 83) (.tmp 86) (.const (.bool false)), none, false, false, []⟩,
  ⟨some 88, .move (.tmp 87), none, false, false, []⟩,
  ⟨some 89, .call ⟨.value (.func 10), #[], #[]⟩, some (88, true), false, false, []⟩,
  ⟨some 90, .pick (.tmp 88) (.tmp 89) (.const (.bool false)), none, false, false, []⟩,
  ⟨some 6, .assign (.tmp 90), none, false, false, []⟩]
/-- wireglass/wireglasslaw20.ConvAdds -/
def c4 : Cc := (.seq (.reg r4_0) (.seq (.seq (.reg r4_1) (.cond (.tmp 34) (.seq (.reg r4_2) .ret) .skip)) (.seq (.reg r4_3) (.seq (.reg r4_4) (.seq (.reg r4_5) (.seq (.reg r4_6) (.seq (.reg r4_7) (.seq (.reg r4_8) .ret))))))))
def r13_0 : List Co := [
  ⟨some 2, .assign (.const (.int .i64 0)), none, false, false, []⟩]
def r13_1 : List Co := [
  ⟨some 4, .move (.tmp 0), none, false, false, []⟩,
  ⟨some 5, .call ⟨.builtin .len, #[(.tmp 4)], #[34]⟩, none, false, false, []⟩,
  ⟨some 6, .binOp .gtr 3 (.tmp 5) (.const (.int .i64 200)) 3, none, false, false, []⟩]
def r13_2 : List Co := [
  ⟨some 2, .assign (.const (.int .i64 3)), none, false, false, []⟩]
def r13_3 : List Co := [
  ⟨some 3, .assign (.const (.int .i64 0)), none, false, false, []⟩]
def r13_4 : List Co := [
  ⟨some 7, .move (.tmp 3), none, false, false, []⟩,
  ⟨some 8, .move (.tmp 0), none, false, false, []⟩,
  ⟨some 9, .call ⟨.builtin .len, #[(.tmp 8)], #[34]⟩, none, false, false, []⟩,
  ⟨some 10, .binOp .lss 3 (.tmp 7) (.tmp 9) 3, none, false, false, []⟩]
def r13_5 : List Co := [
  ⟨some 13, .move (.tmp 0), none, false, false, []⟩,
  ⟨some 14, .move (.tmp 3), none, false, false, []⟩,
  ⟨some 15, .indexAddr 34 (.tmp 13) (.tmp 14), none, false, false, []⟩,
  ⟨some 16, .load 58 (.tmp 15), none, false, false, []⟩,
  ⟨some 17, .call ⟨.value (.func 35), #[(.tmp 16)], #[58]⟩, none, false, false, []⟩,
  ⟨some 18, .unOp .not 4 (.tmp 17), none, false, false, []⟩]
def r13_6 : List Co := [
  ⟨some 2, .assign (.const (.int .i64 1)), none, false, false, []⟩]
def r13_7 : List Co := [
  ⟨some 11, .move (.tmp 3), none, false, false, []⟩,
  ⟨some 12, .binOp .add 3 (.tmp 11) (.const (.int .i64 1)) 3, none, false, false, []⟩,
  ⟨some 3, .assign (.tmp 12), none, false, false, []⟩]
def l13_8 : Cc := (.seq (.seq (.reg r13_4) (.cond (.tmp 10) .skip (.exit 0))) (.seq (.block 1 (.seq (.reg r13_5) (.cond (.tmp 18) (.seq (.reg r13_6) .ret) .skip))) (.reg r13_7)))
def r13_9 : List Co := [
  ⟨some 2, .assign (.const (.int .i64 0)), none, false, false, []⟩]
/-- wireglass/wireglassref20.Validate -/
def c13 : Cc := (.seq (.reg r13_0) (.seq (.seq (.reg r13_1) (.cond (.tmp 6) (.seq (.reg r13_2) .ret) .skip)) (.seq (.seq (.reg r13_3) (.block 0 (.loop l13_8))) (.seq (.reg r13_9) .ret))))
def r14_0 : List Co := [
  ⟨some 3, .box 35 (.tmp 1), none, false, false, []⟩,
  ⟨some 4, .assign (.const (.slice none 0 0)), none, false, false, []⟩]
def r14_1 : List Co := [
  ⟨some 6, .move (.tmp 0), none, false, false, []⟩,
  ⟨some 7, .call ⟨.builtin .append, #[(.const (.slice none 0 0)), (.tmp 6)], #[37, 37]⟩, none, false, false, []⟩,
  ⟨some 0, .assign (.tmp 7), none, false, false, []⟩]
def r14_2 : List Co := [
  ⟨some 8, .indexAddr 35 (.tmp 3) (.const (.int .i64 0)), none, false, false, []⟩,
  ⟨some 9, .load 3 (.tmp 8), none, false, false, []⟩,
  ⟨some 10, .binOp .lss 3 (.tmp 9) (.const (.int .i64 0)) 3, none, false, false, []⟩,
  ⟨some 11, .move (.tmp 10), none, false, false, []⟩,
  ⟨some 12, .indexAddr 35 (.tmp 3) (.const (.int .i64 0)), some (11, false), false, false, []⟩,
  ⟨some 13, .load 3 (.tmp 12), some (11, false), false, false, []⟩,
  ⟨some 14, .move (.tmp 0), some (11, false), false, false, []⟩,
  ⟨some 15, .call ⟨.builtin .len, #[(.tmp 14)], #[37]⟩, some (11, false), false, false, []⟩,
  ⟨some 16, .binOp .geq 3 (.tmp 13) (.tmp 15) 3, some (11, false), false, false, []⟩,
  ⟨some 17, .pick (.tmp 11) (.const (.bool true)) (.tmp 16), none, false, false, []⟩]
def r14_3 : List Co := [
  ⟨some 18, .move (.tmp 0), none, false, false, []⟩,
  ⟨some 4, .assign (.tmp 18), none, false, false, []⟩]
def r14_4 : List Co := [
  ⟨some 19, .move (.tmp 0), none, false, false, []⟩,
  ⟨some 20, .indexAddr 35 (.tmp 3) (.const (.int .i64 0)), none, false, false, []⟩,
  ⟨some 21, .load 3 (.tmp 20), none, false, false, []⟩,
  ⟨some 22, .indexAddr 37 (.tmp 19) (.tmp 21), none, false, false, []⟩,
  ⟨some 5, .assign (.tmp 22), none, false, false, []⟩]
def r14_5 : List Co := [
  ⟨some 23, .indexAddr 35 (.tmp 3) (.const (.int .i64 1)), none, false, false, []⟩,
  ⟨some 24, .load 3 (.tmp 23), none, false, false, []⟩]
def r14_6 : List Co := [
  ⟨some 26, .binOp .eql 3 (.tmp 24) (.const (.int .i64 0)) 3, none, false, false, []⟩,
  ⟨some 25, .assign (.tmp 26), none, false, false, []⟩]
def r14_7 : List Co := [
  ⟨some 27, .move (.tmp 5), none, false, false, []⟩,
  ⟨some 28, .indexAddr 35 (.tmp 3) (.const (.int .i64 2)), none, false, false, []⟩,
  ⟨some 29, .load 3 (.tmp 28), none, false, false, []⟩,
  ⟨some 30, .nilCheck (.tmp 27), none, false, false, []⟩,
  ⟨some 31, .fieldAddr 80 (.tmp 30) 0, none, false, false, []⟩,
  ⟨none, .store 3 (.tmp 31) (.tmp 29), none, false, false, []⟩]
def r14_8 : List Co := [
  ⟨some 33, .binOp .eql 3 (.tmp 24) (.const (.int .i64 1)) 3, none, false, false, []⟩,
  ⟨some 32, .assign (.tmp 33), none, false, false, []⟩]
def r14_9 : List Co := [
  ⟨some 34, .move (.tmp 5), none, false, false, []⟩,
  ⟨some 35, .indexAddr 35 (.tmp 3) (.const (.int .i64 2)), none, false, false, []⟩,
  ⟨some 36, .load 3 (.tmp 35), none, false, false, []⟩,
  ⟨some 37, .nilCheck (.tmp 34), none, false, false, []⟩,
  ⟨some 38, .fieldAddr 80 (.tmp 37) 1, none, false, false, []⟩,
  ⟨none, .store 3 (.tmp 38) (.tmp 36), none, false, false, []⟩]
def r14_10 : List Co := [
  ⟨some 40, .binOp .eql 3 (.tmp 24) (.const (.int .i64 2)) 3, none, false, false, []⟩,
  ⟨some 39, .assign (.tmp 40), none, false, false, []⟩]
def r14_11 : List Co := [
  ⟨some 41, .move (.tmp 5), none, false, false, []⟩,
  ⟨some 42, .indexAddr 35 (.tmp 3) (.const (.int .i64 2)), none, false, false, []⟩,
  ⟨some 43, .load 3 (.tmp 42), none, false, false, []⟩,
  ⟨some 44, .nilCheck (.tmp 41), none, false, false, []⟩,
  ⟨some 45, .fieldAddr 80 (.tmp 44) 2, none, false, false, []⟩,
  ⟨none, .store 3 (.tmp 45) (.tmp 43), none, false, false, []⟩]
def r14_12 : List Co := [
  ⟨some 47, .binOp .eql 3 (.tmp 24) (.const (.int .i64 3)) 3, none, false, false, []⟩,
  ⟨some 46, .assign (.tmp 47), none, false, false, []⟩]
def r14_13 : List Co := [
  ⟨some 48, .move (.tmp 5), none, false, false, []⟩,
  ⟨some 49, .indexAddr 35 (.tmp 3) (.const (.int .i64 2)), none, false, false, []⟩,
  ⟨some 50, .load 3 (.tmp 49), none, false, false, []⟩,
  ⟨some 51, .nilCheck (.tmp 48), none, false, false, []⟩,
  ⟨some 52, .fieldAddr 80 (.tmp 51) 3, none, false, false, []⟩,
  ⟨none, .store 3 (.tmp 52) (.tmp 50), none, false, false, []⟩]
def r14_14 : List Co := [
  ⟨some 54, .binOp .eql 3 (.tmp 24) (.const (.int .i64 4)) 3, none, false, false, []⟩,
  ⟨some 53, .assign (.tmp 54), none, false, false, []⟩]
def r14_15 : List Co := [
  ⟨some 55, .move (.tmp 5), none, false, false, []⟩,
  ⟨some 56, .indexAddr 35 (.tmp 3) (.const (.int .i64 2)), none, false, false, []⟩,
  ⟨some 57, .load 3 (.tmp 56), none, false, false, []⟩,
  ⟨some 58, .nilCheck (.tmp 55), none, false, false, []⟩,
  ⟨some 59, .fieldAddr 80 (.tmp 58) 4, none, false, false, []⟩,
  ⟨none, .store 3 (.tmp 59) (.tmp 57), none, false, false, []⟩]
def r14_16 : List Co := [
  ⟨some 61, .binOp .eql 3 (.tmp 24) (.const (.int .i64 5)) 3, none, false, false, []⟩,
  ⟨some 60, .assign (.tmp 61), none, false, false, []⟩]
def r14_17 : List Co := [
  ⟨some 62, .move (.tmp 5), none, false, false, []⟩,
  ⟨some 63, .indexAddr 35 (.tmp 3) (.const (.int .i64 2)), none, false, false, []⟩,
  ⟨some 64, .load 3 (.tmp 63), none, false, false, []⟩,
  ⟨some 65, .nilCheck (.tmp 62), none, false, false, []⟩,
  ⟨some 66, .fieldAddr 80 (.tmp 65) 5, none, false, false, []⟩,
  ⟨none, .store 3 (.tmp 66) (.tmp 64), none, false, false, []⟩]
def r14_18 : List Co := [
  ⟨some 68, .binOp .eql 3 (.tmp 24) (.const (.int .i64 6)) 3, none, false, false, []⟩,
  ⟨some 67, .assign (.tmp 68), none, false, false, []⟩]
def r14_19 : List Co := [
  ⟨some 69, .move (.tmp 5), none, false, false, []⟩,
  ⟨some 70, .indexAddr 35 (.tmp 3) (.const (.int .i64 2)), none, false, false, []⟩,
  ⟨some 71, .load 3 (.tmp 70), none, false, false, []⟩,
  ⟨some 72, .nilCheck (.tmp 69), none, false, false, []⟩,
  ⟨some 73, .fieldAddr 80 (.tmp 72) 6, none, false, false, []⟩,
  ⟨none, .store 3 (.tmp 73) (.tmp 71), none, false, false, []⟩]
def r14_20 : List Co := [
  ⟨some 75, .binOp .eql 3 (.tmp 24) (.const (.int .i64 7)) 3, none, false, false, []⟩,
  ⟨some 74, .assign (.tmp 75), none, false, false, []⟩]
def r14_21 : List Co := [
  ⟨some 76, .move (.tmp 5), none, false, false, []⟩,
  ⟨some 77, .indexAddr 35 (.tmp 3) (.const (.int .i64 2)), none, false, false, []⟩,
  ⟨some 78, .load 3 (.tmp 77), none, false, false, []⟩,
  ⟨some 79, .nilCheck (.tmp 76), none, false, false, []⟩,
  ⟨some 80, .fieldAddr 80 (.tmp 79) 7, none, false, false, []⟩,
  ⟨none, .store 3 (.tmp 80) (.tmp 78), none, false, false, []⟩]
def r14_22 : List Co := [
  ⟨some 82, .binOp .eql 3 (.tmp 24) (.const (.int .i64 8)) 3, none, false, false, []⟩,
  ⟨some 81, .assign (.tmp 82), none, false, false, []⟩]
def r14_23 : List Co := [
  ⟨some 83, .move (.tmp 5), none, false, false, []⟩,
  ⟨some 84, .indexAddr 35 (.tmp 3) (.const (.int .i64 2)), none, false, false, []⟩,
  ⟨some 85, .load 3 (.tmp 84), none, false, false, []⟩,
  ⟨some 86, .nilCheck (.tmp 83), none, false, false, []⟩,
  ⟨some 87, .fieldAddr 80 (.tmp 86) 8, none, false, false, []⟩,
  ⟨none, .store 3 (.tmp 87) (.tmp 85), none, false, false, []⟩]
def r14_24 : List Co := [
  ⟨some 89, .binOp .eql 3 (.tmp 24) (.const (.int .i64 9)) 3, none, false, false, []⟩,
  ⟨some 88, .assign (.tmp 89), none, false, false, []⟩]
def r14_25 : List Co := [
  ⟨some 90, .move (.tmp 5), none, false, false, []⟩,
  ⟨some 91, .indexAddr 35 (.tmp 3) (.const (.int .i64 2)), none, false, false, []⟩,
  ⟨some 92, .load 3 (.tmp 91), none, false, false, []⟩,
  ⟨some 93, .nilCheck (.tmp 90), none, false, false, []⟩,
  ⟨some 94, .fieldAddr 80 (.tmp 93) 9, none, false, false, []⟩,
  ⟨none, .store 3 (.tmp 94) (.tmp 92), none, false, false, []⟩]
def r14_26 : List Co := [
  ⟨some 96, .binOp .eql 3 (.tmp 24) (.const (.int .i64 10)) 3, none, false, false, []⟩,
  ⟨some 95, .assign (.tmp 96), none, false, false, []⟩]
def r14_27 : List Co := [
  ⟨some 97, .move (.tmp 5), none, false, false, []⟩,
  ⟨some 98, .indexAddr 35 (.tmp 3) (.const (.int .i64 2)), none, false, false, []⟩,
  ⟨some 99, .load 3 (.tmp 98), none, false, false, []⟩,
  ⟨some 100, .nilCheck (.tmp 97), none, false, false, []⟩,
  ⟨some 101, .fieldAddr 80 (.tmp 100) 10, none, false, false, []⟩,
  ⟨none, .store 3 (.tmp 101) (.tmp 99), none, false, false, []⟩]
def r14_28 : List Co := [
  ⟨some 103, .binOp .eql 3 (.tmp 24) (.const (.int .i64 11)) 3, none, false, false, []⟩,
  ⟨some 102, .assign (.tmp 103), none, false, false, []⟩]
def r14_29 : List Co := [
  ⟨some 104, .move (.tmp 0), none, false, false, []⟩,
  ⟨some 105, .call ⟨.builtin .len, #[(.tmp 104)], #[37]⟩, none, false, false, []⟩,
  ⟨some 106, .binOp .gtr 3 (.tmp 105) (.const (.int .i64 1)) 3, none, false, false, []⟩]
def r14_30 : List Co := [
  ⟨some 107, .move (.tmp 5), none, false, false, []⟩,
  ⟨some 108, .move (.tmp 0), none, false, false, []⟩,
  ⟨some 109, .indexAddr 35 (.tmp 3) (.const (.int .i64 0)), none, false, false, []⟩,
  ⟨some 110, .load 3 (.tmp 109), none, false, false, []⟩,
  ⟨some 111, .binOp .add 3 (.tmp 110) (.const (.int .i64 1)) 3, none, false, false, []⟩,
  ⟨some 112, .move (.tmp 0), none, false, false, []⟩,
  ⟨some 113, .call ⟨.builtin .len, #[(.tmp 112)], #[37]⟩, none, false, false, []⟩,
  ⟨some 114, .binOp .rem 3 (.tmp 111) (.tmp 113) 3, none, false, false, []⟩,
  ⟨some 115, .indexAddr 37 (.tmp 108) (.tmp 114), none, false, false, []⟩,
  ⟨some 116, .load 80 (.tmp 115), none, false, false, []⟩,
  ⟨some 117, .nilCheck (.tmp 107), none, false, false, []⟩,
  ⟨none, .store 80 (.tmp 117) (.tmp 116), none, false, false, []⟩]
def r14_31 : List Co := [
  ⟨some 118, .move (.tmp 0), none, false, false, []⟩,
  ⟨some 4, .assign (.tmp 118), none, false, false, []⟩]
/-- wireglass/wireglasslaw20.spoilt -/
def c14 : Cc := (.seq (.reg r14_0) (.seq (.reg r14_1) (.seq (.seq (.reg r14_2) (.cond (.tmp 17) (.seq (.reg r14_3) .ret) .skip)) (.seq (.reg r14_4) (.seq (.seq (.reg r14_5) (.block 0 (.seq (.reg r14_6) (.cond (.tmp 25) (.reg r14_7) (.seq (.reg r14_8) (.cond (.tmp 32) (.reg r14_9) (.seq (.reg r14_10) (.cond (.tmp 39) (.reg r14_11) (.seq (.reg r14_12) (.cond (.tmp 46) (.reg r14_13) (.seq (.reg r14_14) (.cond (.tmp 53) (.reg r14_15) (.seq (.reg r14_16) (.cond (.tmp 60) (.reg r14_17) (.seq (.reg r14_18) (.cond (.tmp 67) (.reg r14_19) (.seq (.reg r14_20) (.cond (.tmp 74) (.reg r14_21) (.seq (.reg r14_22) (.cond (.tmp 81) (.reg r14_23) (.seq (.reg r14_24) (.cond (.tmp 88) (.reg r14_25) (.seq (.reg r14_26) (.cond (.tmp 95) (.reg r14_27) (.seq (.reg r14_28) (.cond (.tmp 102) (.seq (.reg r14_29) (.cond (.tmp 106) (.reg r14_30) .skip)) .skip)))))))))))))))))))))))))) (.seq (.reg r14_31) .ret))))))
def r15_0 : List Co := [
  ⟨some 2, .assign (.const (.slice none 0 0)), none, false, false, []⟩]
def r15_1 : List Co := [
  ⟨some 3, .assign (.const (.slice none 0 0)), none, false, false, []⟩]
def r15_2 : List Co := [
  ⟨some 4, .assign (.const (.int .i64 0)), none, false, false, []⟩]
def r15_3 : List Co := [
  ⟨some 10, .move (.tmp 4), none, false, false, []⟩,
  ⟨some 11, .move (.tmp 0), none, false, false, []⟩,
  ⟨some 12, .call ⟨.builtin .len, #[(.tmp 11)], #[34]⟩, none, false, false, []⟩,
  ⟨some 13, .binOp .lss 3 (.tmp 10) (.tmp 12) 3, none, false, false, []⟩]
def r15_4 : List Co := [
  ⟨some 16, .move (.tmp 0), none, false, false, []⟩,
  ⟨some 17, .move (.tmp 4), none, false, false, []⟩,
  ⟨some 18, .indexAddr 34 (.tmp 16) (.tmp 17), none, false, false, []⟩,
  ⟨some 19, .load 58 (.tmp 18), none, false, false, []⟩,
  ⟨some 5, .alloc 58, none, false, false, []⟩,
  ⟨none, .store 58 (.tmp 5) (.tmp 19), none, false, false, []⟩]
def r15_5 : List Co := [
  ⟨some 21, .load 58 (.tmp 5), none, false, false, []⟩,
  ⟨some 22, .call ⟨.value (.func 36), #[(.tmp 21)], #[58]⟩, none, false, false, []⟩,
  ⟨some 20, .move (.tmp 22), none, false, false, []⟩,
  ⟨some 23, .extract (.tmp 20) 0, none, false, false, []⟩,
  ⟨some 24, .extract (.tmp 20) 1, none, false, false, []⟩,
  ⟨some 6, .alloc 81, none, false, false, []⟩,
  ⟨none, .store 81 (.tmp 6) (.tmp 23), none, false, false, []⟩,
  ⟨some 7, .assign (.tmp 24), none, false, false, []⟩]
def r15_6 : List Co := [
  ⟨some 25, .move (.tmp 3), none, false, false, []⟩,
  ⟨some 26, .load 81 (.tmp 6), none, false, false, []⟩,
  ⟨some 27, .call ⟨.value (.func 37), #[(.tmp 25), (.tmp 26)], #[37, 81]⟩, none, false, false, []⟩,
  ⟨some 8, .assign (.tmp 27), none, false, false, []⟩]
def r15_7 : List Co := [
  ⟨some 28, .move (.tmp 8), none, false, false, []⟩,
  ⟨some 29, .binOp .lss 3 (.tmp 28) (.const (.int .i64 0)) 3, none, false, false, []⟩]
def r15_8 : List Co := [
  ⟨some 30, .move (.tmp 3), none, false, false, []⟩,
  ⟨some 31, .call ⟨.builtin .len, #[(.tmp 30)], #[37]⟩, none, false, false, []⟩,
  ⟨some 8, .assign (.tmp 31), none, false, false, []⟩]
def r15_9 : List Co := [
  ⟨some 32, .move (.tmp 3), none, false, false, []⟩,
  ⟨some 33, .indexAddr 81 (.tmp 6) (.const (.int .i64 0)), none, false, false, []⟩,
  ⟨some 34, .load 3 (.tmp 33), none, false, false, []⟩,
  ⟨some 35, .indexAddr 81 (.tmp 6) (.const (.int .i64 1)), none, false, false, []⟩,
  ⟨some 36, .load 3 (.tmp 35), none, false, false, []⟩,
  ⟨some 37, .indexAddr 81 (.tmp 6) (.const (.int .i64 2)), none, false, false, []⟩,
  ⟨some 38, .load 3 (.tmp 37), none, false, false, []⟩,
  ⟨some 39, .indexAddr 81 (.tmp 6) (.const (.int .i64 3)), none, false, false, []⟩,
  ⟨some 40, .load 3 (.tmp 39), none, false, false, []⟩,
  ⟨some 41, .indexAddr 81 (.tmp 6) (.const (.int .i64 4)), none, false, false, []⟩,
  ⟨some 42, .load 3 (.tmp 41), none, false, false, []⟩,
  ⟨some 43, .fieldAddr 58 (.tmp 5) 0, none, false, false, []⟩,
  ⟨some 44, .load 3 (.tmp 43), none, false, false, []⟩,
  ⟨some 45, .fieldAddr 58 (.tmp 5) 0, none, false, false, []⟩,
  ⟨some 46, .load 3 (.tmp 45), none, false, false, []⟩,
  ⟨some 47, .build 80 #[(0, (.tmp 34)), (1, (.tmp 36)), (2, (.tmp 38)), (3, (.tmp 40)), (4, (.tmp 42)), (9, (.tmp 44)), (10, (.tmp 46))], none, false, false, []⟩,
  ⟨some 48, .buildSlice 37 1 #[(0, (.tmp 47))], none, false, false, []⟩,
  ⟨some 49, .call ⟨.builtin .append, #[(.tmp 32), (.tmp 48)], #[37, 37]⟩, none, false, false, []⟩,
  ⟨some 3, .assign (.tmp 49), none, false, false, []⟩]
def r15_10 : List Co := [
  ⟨some 50, .move (.tmp 3), none, false, false, []⟩,
  ⟨some 51, .move (.tmp 8), none, false, false, []⟩,
  ⟨some 52, .indexAddr 37 (.tmp 50) (.tmp 51), none, false, false, []⟩,
  ⟨some 9, .assign (.tmp 52), none, false, false, []⟩]
def r15_11 : List Co := [
  ⟨some 53, .move (.tmp 7), none, false, false, []⟩]
def r15_12 : List Co := [
  ⟨some 54, .move (.tmp 9), none, false, false, []⟩,
  ⟨some 55, .nilCheck (.tmp 54), none, false, false, []⟩,
  ⟨some 56, .fieldAddr 80 (.tmp 55) 5, none, false, false, []⟩,
  ⟨some 57, .load 3 (.tmp 56), none, false, false, []⟩,
  ⟨some 58, .binOp .add 3 (.tmp 57) (.const (.int .i64 1)) 3, none, false, false, []⟩,
  ⟨some 59, .nilCheck (.tmp 54), none, false, false, []⟩,
  ⟨some 60, .fieldAddr 80 (.tmp 59) 5, none, false, false, []⟩,
  ⟨none, .store 3 (.tmp 60) (.tmp 58), none, false, false, []⟩]
def r15_13 : List Co := [
  ⟨some 61, .move (.tmp 9), none, false, false, []⟩,
  ⟨some 62, .nilCheck (.tmp 61), none, false, false, []⟩,
  ⟨some 63, .fieldAddr 80 (.tmp 62) 6, none, false, false, []⟩,
  ⟨some 64, .load 3 (.tmp 63), none, false, false, []⟩,
  ⟨some 65, .fieldAddr 58 (.tmp 5) 6, none, false, false, []⟩,
  ⟨some 66, .load 3 (.tmp 65), none, false, false, []⟩,
  ⟨some 67, .binOp .add 3 (.tmp 64) (.tmp 66) 3, none, false, false, []⟩,
  ⟨some 68, .nilCheck (.tmp 61), none, false, false, []⟩,
  ⟨some 69, .fieldAddr 80 (.tmp 68) 6, none, false, false, []⟩,
  ⟨none, .store 3 (.tmp 69) (.tmp 67), none, false, false, []⟩]
def r15_14 : List Co := [
  ⟨some 70, .move (.tmp 9), none, false, false, []⟩,
  ⟨some 71, .nilCheck (.tmp 70), none, false, false, []⟩,
  ⟨some 72, .fieldAddr 80 (.tmp 71) 7, none, false, false, []⟩,
  ⟨some 73, .load 3 (.tmp 72), none, false, false, []⟩,
  ⟨some 74, .binOp .add 3 (.tmp 73) (.const (.int .i64 1)) 3, none, false, false, []⟩,
  ⟨some 75, .nilCheck (.tmp 70), none, false, false, []⟩,
  ⟨some 76, .fieldAddr 80 (.tmp 75) 7, none, false, false, []⟩,
  ⟨none, .store 3 (.tmp 76) (.tmp 74), none, false, false, []⟩]
def r15_15 : List Co := [
  ⟨some 77, .move (.tmp 9), none, false, false, []⟩,
  ⟨some 78, .nilCheck (.tmp 77), none, false, false, []⟩,
  ⟨some 79, .fieldAddr 80 (.tmp 78) 8, none, false, false, []⟩,
  ⟨some 80, .load 3 (.tmp 79), none, false, false, []⟩,
  ⟨some 81, .fieldAddr 58 (.tmp 5) 6, none, false, false, []⟩,
  ⟨some 82, .load 3 (.tmp 81), none, false, false, []⟩,
  ⟨some 83, .binOp .add 3 (.tmp 80) (.tmp 82) 3, none, false, false, []⟩,
  ⟨some 84, .nilCheck (.tmp 77), none, false, false, []⟩,
  ⟨some 85, .fieldAddr 80 (.tmp 84) 8, none, false, false, []⟩,
  ⟨none, .store 3 (.tmp 85) (.tmp 83), none, false, false, []⟩]
def r15_16 : List Co := [
  ⟨some 86, .move (.tmp 9), none, false, false, []⟩,
  ⟨some 87, .move (.tmp 9), none, false, false, []⟩,
  ⟨some 88, .move (.tmp 9), none, false, false, []⟩,
  ⟨some 89, .nilCheck (.tmp 88), none, false, false, []⟩,
  ⟨some 90, .fieldAddr 80 (.tmp 89) 9, none, false, false, []⟩,
  ⟨some 91, .load 3 (.tmp 90), none, false, false, []⟩,
  ⟨some 92, .fieldAddr 58 (.tmp 5) 0, none, false, false, []⟩,
  ⟨some 93, .load 3 (.tmp 92), none, false, false, []⟩,
  ⟨some 94, .call ⟨.builtin .min, #[(.tmp 91), (.tmp 93)], #[3, 3]⟩, none, false, false, []⟩,
  ⟨some 95, .move (.tmp 9), none, false, false, []⟩,
  ⟨some 96, .nilCheck (.tmp 95), none, false, false, []⟩,
  ⟨some 97, .fieldAddr 80 (.tmp 96) 10, none, false, false, []⟩,
  ⟨some 98, .load 3 (.tmp 97), none, false, false, []⟩,
  ⟨some 99, .fieldAddr 58 (.tmp 5) 0, none, false, false, []⟩,
  ⟨some 100, .load 3 (.tmp 99), none, false, false, []⟩,
  ⟨some 101, .call ⟨.builtin .max, #[(.tmp 98), (.tmp 100)], #[3, 3]⟩, none, false, false, []⟩,
  ⟨some 102, .nilCheck (.tmp 86), none, false, false, []⟩,
  ⟨some 103, .fieldAddr 80 (.tmp 102) 9, none, false, false, []⟩,
  ⟨none, .store 3 (.tmp 103) (.tmp 94), none, false, false, [(none, .load 3 (.tmp 99))]⟩,
  ⟨some 104, .nilCheck (.tmp 87), none, false, false, []⟩,
  ⟨some 105, .fieldAddr 80 (.tmp 104) 10, none, false, false, []⟩,
  ⟨none, .store 3 (.tmp 105) (.tmp 101), none, false, false, []⟩]
def r15_17 : List Co := [
  ⟨some 14, .move (.tmp 4), none, false, false, []⟩,
  ⟨some 15, .binOp .add 3 (.tmp 14) (.const (.int .i64 1)) 3, none, false, false, []⟩,
  ⟨some 4, .assign (.tmp 15), none, false, false, []⟩]
def l15_18 : Cc := (.seq (.seq (.reg r15_3) (.cond (.tmp 13) .skip (.exit 0))) (.seq (.block 1 (.seq (.reg r15_4) (.seq (.reg r15_5) (.seq (.reg r15_6) (.seq (.seq (.reg r15_7) (.cond (.tmp 29) (.seq (.reg r15_8) (.reg r15_9)) .skip)) (.seq (.reg r15_10) (.seq (.seq (.reg r15_11) (.cond (.tmp 53) (.seq (.reg r15_12) (.reg r15_13)) (.seq (.reg r15_14) (.reg r15_15)))) (.reg r15_16)))))))) (.reg r15_17)))
def r15_19 : List Co := [
  ⟨some 106, .move (.tmp 3), none, false, false, []⟩,
  ⟨some 2, .assign (.tmp 106), none, false, false, []⟩]
/-- wireglass/wireglassref20.Conversations -/
def c15 : Cc := (.seq (.reg r15_0) (.seq (.reg r15_1) (.seq (.seq (.reg r15_2) (.block 0 (.loop l15_18))) (.seq (.reg r15_19) .ret))))
def r16_0 : List Co := [
  ⟨some 4, .assign (.const (.slice none 0 0)), none, false, false, []⟩,
  ⟨some 5, .assign (.const (.int .i64 0)), none, false, false, []⟩]
def r16_1 : List Co := [
  ⟨some 11, .move (.tmp 0), none, false, false, []⟩,
  ⟨some 12, .move (.tmp 1), none, false, false, []⟩,
  ⟨some 13, .buildSlice 126 2 #[(0, (.tmp 11)), (1, (.tmp 12))], none, false, false, []⟩,
  ⟨some 14, .call ⟨.value (.func 38), #[(.tmp 13)], #[126]⟩, none, false, false, []⟩,
  ⟨some 6, .assign (.tmp 14), none, false, false, []⟩]
def r16_2 : List Co := [
  ⟨some 15, .move (.tmp 6), none, false, false, []⟩,
  ⟨some 16, .binOp .neq 29 (.tmp 15) (.const (.int .i64 0)) 29, none, false, false, []⟩]
def r16_3 : List Co := [
  ⟨some 17, .move (.tmp 6), none, false, false, []⟩,
  ⟨some 4, .assign (.const (.slice none 0 0)), none, false, false, []⟩,
  ⟨some 5, .assign (.tmp 17), none, false, false, []⟩]
def r16_4 : List Co := [
  ⟨some 18, .move (.tmp 0), none, false, false, []⟩,
  ⟨some 19, .call ⟨.value (.func 39), #[(.tmp 18)], #[40]⟩, none, false, false, []⟩,
  ⟨some 7, .assign (.tmp 19), none, false, false, []⟩]
def r16_5 : List Co := [
  ⟨some 20, .move (.tmp 1), none, false, false, []⟩,
  ⟨some 21, .call ⟨.builtin .len, #[(.tmp 20)], #[40]⟩, none, false, false, []⟩,
  ⟨some 22, .move (.const (.int .i64 0)), none, false, false, []⟩]
def r16_6 : List Co := [
  ⟨some 23, .binOp .lss 3 (.tmp 22) (.tmp 21) 3, none, false, false, []⟩]
def r16_7 : List Co := [
  ⟨some 24, .indexAddr 40 (.tmp 20) (.tmp 22), none, false, false, []⟩,
  ⟨some 25, .load 50 (.tmp 24), none, false, false, []⟩,
  ⟨some 9, .alloc 50, none, false, false, []⟩,
  ⟨none, .store 50 (.tmp 9) (.tmp 25), none, false, false, []⟩]
def r16_8 : List Co := [
  ⟨some 26, .move (.tmp 0), none, false, false, []⟩,
  ⟨some 27, .makeFunc (.func 41) #[] #[(.tmp 9)], none, false, false, []⟩,
  ⟨some 28, .call ⟨.value (.func 40), #[(.tmp 26), (.tmp 27)], #[40, 90]⟩, none, false, false, []⟩,
  ⟨some 10, .assign (.tmp 28), none, false, false, []⟩]
def r16_9 : List Co := [
  ⟨some 29, .move (.tmp 10), none, false, false, []⟩,
  ⟨some 30, .binOp .lss 3 (.tmp 29) (.const (.int .i64 0)) 3, none, false, false, []⟩]
def r16_10 : List Co := [
  ⟨some 31, .move (.tmp 7), none, false, false, []⟩,
  ⟨some 32, .load 50 (.tmp 9), none, false, false, []⟩,
  ⟨some 33, .buildSlice 40 1 #[(0, (.tmp 32))], none, false, false, []⟩,
  ⟨some 34, .call ⟨.builtin .append, #[(.tmp 31), (.tmp 33)], #[40, 40]⟩, none, false, false, []⟩,
  ⟨some 7, .assign (.tmp 34), none, false, false, []⟩]
def r16_11 : List Co := [
  ⟨some 35, .move (.tmp 7), none, false, false, []⟩,
  ⟨some 36, .move (.tmp 10), none, false, false, []⟩,
  ⟨some 37, .move (.tmp 7), none, false, false, []⟩,
  ⟨some 38, .move (.tmp 10), none, false, false, []⟩,
  ⟨some 39, .indexAddr 40 (.tmp 37) (.tmp 38), none, false, false, []⟩,
  ⟨some 40, .load 50 (.tmp 39), none, false, false, []⟩,
  ⟨some 41, .load 50 (.tmp 9), none, false, false, []⟩,
  ⟨some 42, .call ⟨.value (.func 43), #[(.tmp 40), (.tmp 41)], #[50, 50]⟩, none, false, false, []⟩,
  ⟨some 43, .indexAddr 40 (.tmp 35) (.tmp 36), none, false, false, []⟩,
  ⟨none, .store 50 (.tmp 43) (.tmp 42), none, false, false, []⟩]
def r16_12 : List Co := [
  ⟨some 44, .move (.tmp 7), none, false, false, []⟩,
  ⟨some 45, .move (.tmp 10), none, false, false, []⟩,
  ⟨some 46, .indexAddr 40 (.tmp 44) (.tmp 45), none, false, false, []⟩,
  ⟨some 47, .load 50 (.tmp 46), none, false, false, []⟩,
  ⟨some 48, .call ⟨.value (.func 44), #[(.tmp 47)], #[50]⟩, none, false, false, []⟩,
  ⟨some 49, .unOp .not 4 (.tmp 48), none, false, false, []⟩]
def r16_13 : List Co := [
  ⟨some 4, .assign (.const (.slice none 0 0)), none, false, false, []⟩,
  ⟨some 5, .assign (.const (.int .i64 10)), none, false, false, []⟩]
def r16_14 : List Co := [
  ⟨some 50, .binOp .add 3 (.tmp 22) (.const (.int .i64 1)) 3, none, false, false, []⟩,
  ⟨some 22, .move (.tmp 50), none, false, false, []⟩]
def l16_15 : Cc := (.seq (.reg r16_6) (.seq (.cond (.tmp 23) .skip (.exit 0)) (.seq (.block 1 (.seq (.reg r16_7) (.seq (.reg r16_8) (.seq (.seq (.reg r16_9) (.cond (.tmp 30) (.seq (.reg r16_10) (.exit 1)) .skip)) (.seq (.reg r16_11) (.seq (.reg r16_12) (.cond (.tmp 49) (.seq (.reg r16_13) .ret) .skip))))))) (.reg r16_14))))
def r16_16 : List Co := [
  ⟨some 51, .move (.tmp 7), none, false, false, []⟩,
  ⟨some 4, .assign (.tmp 51), none, false, false, []⟩,
  ⟨some 5, .assign (.const (.int .i64 0)), none, false, false, []⟩]
/-- wireglass/conv.Add -/
def c16 : Cc := (.seq (.reg r16_0) (.seq (.seq (.reg r16_1) (.seq (.reg r16_2) (.cond (.tmp 16) (.seq (.reg r16_3) .ret) .skip))) (.seq (.reg r16_4) (.seq (.seq (.reg r16_5) (.block 0 (.loop l16_15))) (.seq (.reg r16_16) .ret)))))
def r17_0 : List Co := [
  ⟨some 2, .assign (.const (.slice none 0 0)), none, false, false, []⟩]
def r17_1 : List Co := [
  ⟨some 3, .assign (.const (.slice none 0 0)), none, false, false, []⟩]
def r17_2 : List Co := [
  ⟨some 4, .assign (.const (.int .i64 0)), none, false, false, []⟩]
def r17_3 : List Co := [
  ⟨some 5, .move (.tmp 4), none, false, false, []⟩,
  ⟨some 6, .move (.tmp 0), none, false, false, []⟩,
  ⟨some 7, .call ⟨.builtin .len, #[(.tmp 6)], #[37]⟩, none, false, false, []⟩,
  ⟨some 8, .binOp .lss 3 (.tmp 5) (.tmp 7) 3, none, false, false, []⟩]
def r17_4 : List Co := [
  ⟨some 11, .move (.tmp 3), none, false, false, []⟩,
  ⟨some 12, .move (.tmp 0), none, false, false, []⟩,
  ⟨some 13, .move (.tmp 4), none, false, false, []⟩,
  ⟨some 14, .indexAddr 37 (.tmp 12) (.tmp 13), none, false, false, []⟩,
  ⟨some 15, .load 80 (.tmp 14), none, false, false, []⟩,
  ⟨some 16, .buildSlice 40 1 #[(0, (.tmp 15))], none, false, false, []⟩,
  ⟨some 17, .call ⟨.builtin .append, #[(.tmp 11), (.tmp 16)], #[40, 40]⟩, none, false, false, []⟩,
  ⟨some 3, .assign (.tmp 17), none, false, false, []⟩]
def r17_5 : List Co := [
  ⟨some 9, .move (.tmp 4), none, false, false, []⟩,
  ⟨some 10, .binOp .add 3 (.tmp 9) (.const (.int .i64 1)) 3, none, false, false, []⟩,
  ⟨some 4, .assign (.tmp 10), none, false, false, []⟩]
def l17_6 : Cc := (.seq (.seq (.reg r17_3) (.cond (.tmp 8) .skip (.exit 0))) (.seq (.block 1 (.reg r17_4)) (.reg r17_5)))
def r17_7 : List Co := [
  ⟨some 18, .move (.tmp 3), none, false, false, []⟩,
  ⟨some 2, .assign (.tmp 18), none, false, false, []⟩]
/-- wireglass/wireglasslaw20.given -/
def c17 : Cc := (.seq (.reg r17_0) (.seq (.reg r17_1) (.seq (.seq (.reg r17_2) (.block 0 (.loop l17_6))) (.seq (.reg r17_7) .ret))))
def r18_0 : List Co := [
  ⟨some 4, .assign (.const (.slice none 0 0)), none, false, false, []⟩,
  ⟨some 5, .assign (.const (.int .i64 0)), none, false, false, []⟩]
def r18_1 : List Co := [
  ⟨some 13, .move (.tmp 0), none, false, false, []⟩,
  ⟨some 14, .call ⟨.builtin .len, #[(.tmp 13)], #[37]⟩, none, false, false, []⟩,
  ⟨some 15, .binOp .gtr 3 (.tmp 14) (.const (.int .i64 200)) 3, none, false, false, []⟩,
  ⟨some 16, .move (.tmp 15), none, false, false, []⟩,
  ⟨some 17, .move (.tmp 1), some (16, false), false, false, []⟩,
  ⟨some 18, .call ⟨.builtin .len, #[(.tmp 17)], #[37]⟩, some (16, false), false, false, []⟩,
  ⟨some 19, .binOp .gtr 3 (.tmp 18) (.const (.int .i64 200)) 3, some (16, false), false, false, []⟩,
  ⟨some 20, .pick (.tmp 16) (.const (.bool true)) (.tmp 19), none, false, false, []⟩]
def r18_2 : List Co := [
  ⟨some 4, .assign (.const (.slice none 0 0)), none, false, false, []⟩,
  ⟨some 5, .assign (.const (.int .i64 3)), none, false, false, []⟩]
def r18_3 : List Co := [
  ⟨some 21, .move (.tmp 0), none, false, false, []⟩,
  ⟨some 22, .call ⟨.value (.func 45), #[(.tmp 21)], #[37]⟩, none, false, false, []⟩,
  ⟨some 23, .binOp .neq 29 (.tmp 22) (.const (.int .i64 0)) 29, none, false, false, []⟩,
  ⟨some 24, .move (.tmp 23), none, false, false, []⟩,
  ⟨some 25, .move (.tmp 1), some (24, false), false, false, []⟩,
  ⟨some 26, .call ⟨.value (.func 45), #[(.tmp 25)], #[37]⟩, some (24, false), false, false, []⟩,
  ⟨some 27, .binOp .neq 29 (.tmp 26) (.const (.int .i64 0)) 29, some (24, false), false, false, []⟩,
  ⟨some 28, .pick (.tmp 24) (.const (.bool true)) (.tmp 27), none, false, false, []⟩]
def r18_4 : List Co := [
  ⟨some 4, .assign (.const (.slice none 0 0)), none, false, false, []⟩,
  ⟨some 5, .assign (.const (.int .i64 1)), none, false, false, []⟩]
def r18_5 : List Co := [
  ⟨some 29, .move (.tmp 0), none, false, false, []⟩,
  ⟨some 30, .call ⟨.builtin .append, #[(.const (.slice none 0 0)), (.tmp 29)], #[37, 37]⟩, none, false, false, []⟩,
  ⟨some 6, .assign (.tmp 30), none, false, false, []⟩]
def r18_6 : List Co := [
  ⟨some 7, .assign (.const (.int .i64 0)), none, false, false, []⟩]
def r18_7 : List Co := [
  ⟨some 31, .move (.tmp 7), none, false, false, []⟩,
  ⟨some 32, .move (.tmp 1), none, false, false, []⟩,
  ⟨some 33, .call ⟨.builtin .len, #[(.tmp 32)], #[37]⟩, none, false, false, []⟩,
  ⟨some 34, .binOp .lss 3 (.tmp 31) (.tmp 33) 3, none, false, false, []⟩]
def r18_8 : List Co := [
  ⟨some 37, .move (.tmp 0), none, false, false, []⟩,
  ⟨some 38, .move (.tmp 1), none, false, false, []⟩,
  ⟨some 39, .move (.tmp 7), none, false, false, []⟩,
  ⟨some 40, .indexAddr 37 (.tmp 38) (.tmp 39), none, false, false, []⟩,
  ⟨some 41, .load 80 (.tmp 40), none, false, false, []⟩,
  ⟨some 42, .call ⟨.value (.func 46), #[(.tmp 41)], #[80]⟩, none, false, false, []⟩,
  ⟨some 43, .call ⟨.value (.func 37), #[(.tmp 37), (.tmp 42)], #[37, 81]⟩, none, false, false, []⟩,
  ⟨some 8, .assign (.tmp 43), none, false, false, []⟩]
def r18_9 : List Co := [
  ⟨some 44, .move (.tmp 8), none, false, false, []⟩,
  ⟨some 45, .binOp .lss 3 (.tmp 44) (.const (.int .i64 0)) 3, none, false, false, []⟩]
def r18_10 : List Co := [
  ⟨some 46, .move (.tmp 6), none, false, false, []⟩,
  ⟨some 47, .move (.tmp 1), none, false, false, []⟩,
  ⟨some 48, .move (.tmp 7), none, false, false, []⟩,
  ⟨some 49, .indexAddr 37 (.tmp 47) (.tmp 48), none, false, false, []⟩,
  ⟨some 50, .load 80 (.tmp 49), none, false, false, []⟩,
  ⟨some 51, .buildSlice 37 1 #[(0, (.tmp 50))], none, false, false, []⟩,
  ⟨some 52, .call ⟨.builtin .append, #[(.tmp 46), (.tmp 51)], #[37, 37]⟩, none, false, false, []⟩,
  ⟨some 6, .assign (.tmp 52), none, false, false, []⟩]
def r18_11 : List Co := [
  ⟨some 53, .move (.tmp 6), none, false, false, []⟩,
  ⟨some 54, .move (.tmp 8), none, false, false, []⟩,
  ⟨some 55, .indexAddr 37 (.tmp 53) (.tmp 54), none, false, false, []⟩,
  ⟨some 56, .move (.tmp 1), none, false, false, []⟩,
  ⟨some 57, .move (.tmp 7), none, false, false, []⟩,
  ⟨some 58, .indexAddr 37 (.tmp 56) (.tmp 57), none, false, false, []⟩,
  ⟨some 59, .load 80 (.tmp 58), none, false, false, []⟩,
  ⟨some 10, .alloc 80, none, false, false, []⟩,
  ⟨some 9, .assign (.tmp 55), none, false, false, []⟩,
  ⟨none, .store 80 (.tmp 10) (.tmp 59), none, false, false, []⟩]
def r18_12 : List Co := [
  ⟨some 60, .move (.tmp 9), none, false, false, []⟩,
  ⟨some 61, .nilCheck (.tmp 60), none, false, false, []⟩,
  ⟨some 62, .fieldAddr 80 (.tmp 61) 5, none, false, false, []⟩,
  ⟨some 63, .load 3 (.tmp 62), none, false, false, []⟩,
  ⟨some 64, .fieldAddr 80 (.tmp 10) 5, none, false, false, []⟩,
  ⟨some 65, .load 3 (.tmp 64), none, false, false, []⟩,
  ⟨some 66, .binOp .add 3 (.tmp 63) (.tmp 65) 3, none, false, false, []⟩,
  ⟨some 67, .nilCheck (.tmp 60), none, false, false, []⟩,
  ⟨some 68, .fieldAddr 80 (.tmp 67) 5, none, false, false, []⟩,
  ⟨none, .store 3 (.tmp 68) (.tmp 66), none, false, false, []⟩]
def r18_13 : List Co := [
  ⟨some 69, .move (.tmp 9), none, false, false, []⟩,
  ⟨some 70, .nilCheck (.tmp 69), none, false, false, []⟩,
  ⟨some 71, .fieldAddr 80 (.tmp 70) 6, none, false, false, []⟩,
  ⟨some 72, .load 3 (.tmp 71), none, false, false, []⟩,
  ⟨some 73, .fieldAddr 80 (.tmp 10) 6, none, false, false, []⟩,
  ⟨some 74, .load 3 (.tmp 73), none, false, false, []⟩,
  ⟨some 75, .binOp .add 3 (.tmp 72) (.tmp 74) 3, none, false, false, []⟩,
  ⟨some 76, .nilCheck (.tmp 69), none, false, false, []⟩,
  ⟨some 77, .fieldAddr 80 (.tmp 76) 6, none, false, false, []⟩,
  ⟨none, .store 3 (.tmp 77) (.tmp 75), none, false, false, []⟩]
def r18_14 : List Co := [
  ⟨some 78, .move (.tmp 9), none, false, false, []⟩,
  ⟨some 79, .nilCheck (.tmp 78), none, false, false, []⟩,
  ⟨some 80, .fieldAddr 80 (.tmp 79) 7, none, false, false, []⟩,
  ⟨some 81, .load 3 (.tmp 80), none, false, false, []⟩,
  ⟨some 82, .fieldAddr 80 (.tmp 10) 7, none, false, false, []⟩,
  ⟨some 83, .load 3 (.tmp 82), none, false, false, []⟩,
  ⟨some 84, .binOp .add 3 (.tmp 81) (.tmp 83) 3, none, false, false, []⟩,
  ⟨some 85, .nilCheck (.tmp 78), none, false, false, []⟩,
  ⟨some 86, .fieldAddr 80 (.tmp 85) 7, none, false, false, []⟩,
  ⟨none, .store 3 (.tmp 86) (.tmp 84), none, false, false, []⟩]
def r18_15 : List Co := [
  ⟨some 87, .move (.tmp 9), none, false, false, []⟩,
  ⟨some 88, .nilCheck (.tmp 87), none, false, false, []⟩,
  ⟨some 89, .fieldAddr 80 (.tmp 88) 8, none, false, false, []⟩,
  ⟨some 90, .load 3 (.tmp 89), none, false, false, []⟩,
  ⟨some 91, .fieldAddr 80 (.tmp 10) 8, none, false, false, []⟩,
  ⟨some 92, .load 3 (.tmp 91), none, false, false, []⟩,
  ⟨some 93, .binOp .add 3 (.tmp 90) (.tmp 92) 3, none, false, false, []⟩,
  ⟨some 94, .nilCheck (.tmp 87), none, false, false, []⟩,
  ⟨some 95, .fieldAddr 80 (.tmp 94) 8, none, false, false, []⟩,
  ⟨none, .store 3 (.tmp 95) (.tmp 93), none, false, false, []⟩]
def r18_16 : List Co := [
  ⟨some 96, .move (.tmp 9), none, false, false, []⟩,
  ⟨some 97, .move (.tmp 9), none, false, false, []⟩,
  ⟨some 98, .move (.tmp 9), none, false, false, []⟩,
  ⟨some 99, .nilCheck (.tmp 98), none, false, false, []⟩,
  ⟨some 100, .fieldAddr 80 (.tmp 99) 9, none, false, false, []⟩,
  ⟨some 101, .load 3 (.tmp 100), none, false, false, []⟩,
  ⟨some 102, .fieldAddr 80 (.tmp 10) 9, none, false, false, []⟩,
  ⟨some 103, .load 3 (.tmp 102), none, false, false, []⟩,
  ⟨some 104, .call ⟨.builtin .min, #[(.tmp 101), (.tmp 103)], #[3, 3]⟩, none, false, false, []⟩,
  ⟨some 105, .move (.tmp 9), none, false, false, []⟩,
  ⟨some 106, .nilCheck (.tmp 105), none, false, false, []⟩,
  ⟨some 107, .fieldAddr 80 (.tmp 106) 10, none, false, false, []⟩,
  ⟨some 108, .load 3 (.tmp 107), none, false, false, []⟩,
  ⟨some 109, .fieldAddr 80 (.tmp 10) 10, none, false, false, []⟩,
  ⟨some 110, .load 3 (.tmp 109), none, false, false, []⟩,
  ⟨some 111, .call ⟨.builtin .max, #[(.tmp 108), (.tmp 110)], #[3, 3]⟩, none, false, false, []⟩,
  ⟨some 112, .nilCheck (.tmp 96), none, false, false, []⟩,
  ⟨some 113, .fieldAddr 80 (.tmp 112) 9, none, false, false, []⟩,
  ⟨none, .store 3 (.tmp 113) (.tmp 104), none, false, false, [(none, .load 3 (.tmp 109))]⟩,
  ⟨some 114, .nilCheck (.tmp 97), none, false, false, []⟩,
  ⟨some 115, .fieldAddr 80 (.tmp 114) 10, none, false, false, []⟩,
  ⟨none, .store 3 (.tmp 115) (.tmp 111), none, false, false, []⟩]
def r18_17 : List Co := [
  ⟨some 35, .move (.tmp 7), none, false, false, []⟩,
  ⟨some 36, .binOp .add 3 (.tmp 35) (.const (.int .i64 1)) 3, none, false, false, []⟩,
  ⟨some 7, .assign (.tmp 36), none, false, false, []⟩]
def l18_18 : Cc := (.seq (.seq (.reg r18_7) (.cond (.tmp 34) .skip (.exit 0))) (.seq (.block 1 (.seq (.reg r18_8) (.seq (.seq (.reg r18_9) (.cond (.tmp 45) (.seq (.reg r18_10) (.exit 1)) .skip)) (.seq (.reg r18_11) (.seq (.reg r18_12) (.seq (.reg r18_13) (.seq (.reg r18_14) (.seq (.reg r18_15) (.reg r18_16))))))))) (.reg r18_17)))
def r18_19 : List Co := [
  ⟨some 11, .assign (.const (.int .i64 0)), none, false, false, []⟩]
def r18_20 : List Co := [
  ⟨some 116, .move (.tmp 11), none, false, false, []⟩,
  ⟨some 117, .move (.tmp 6), none, false, false, []⟩,
  ⟨some 118, .call ⟨.builtin .len, #[(.tmp 117)], #[37]⟩, none, false, false, []⟩,
  ⟨some 119, .binOp .lss 3 (.tmp 116) (.tmp 118) 3, none, false, false, []⟩]
def r18_21 : List Co := [
  ⟨some 122, .move (.tmp 6), none, false, false, []⟩,
  ⟨some 123, .move (.tmp 11), none, false, false, []⟩,
  ⟨some 124, .indexAddr 37 (.tmp 122) (.tmp 123), none, false, false, []⟩,
  ⟨some 125, .load 80 (.tmp 124), none, false, false, []⟩,
  ⟨some 12, .alloc 80, none, false, false, []⟩,
  ⟨none, .store 80 (.tmp 12) (.tmp 125), none, false, false, []⟩]
def r18_22 : List Co := [
  ⟨some 126, .fieldAddr 80 (.tmp 12) 5, none, false, false, []⟩,
  ⟨some 127, .load 3 (.tmp 126), none, false, false, []⟩,
  ⟨some 128, .call ⟨.value (.func 34), #[(.tmp 127), (.const (.int .i64 4503599627370496))], #[3, 3]⟩, none, false, false, []⟩,
  ⟨some 129, .unOp .not 4 (.tmp 128), none, false, false, []⟩,
  ⟨some 130, .move (.tmp 129), none, false, false, []⟩,
  ⟨some 131, .fieldAddr 80 (.tmp 12) 6, some (130, false), false, false, []⟩,
  ⟨some 132, .load 3 (.tmp 131), some (130, false), false, false, []⟩,
  ⟨some 133, .call ⟨.value (.func 34), #[(.tmp 132), (.const (.int .i64 4503599627370496))], #[3, 3]⟩, some (130, false), false, false, []⟩,
  ⟨some 134, .unOp .not 4 (.tmp 133), some (130, false), false, false, []⟩,
  ⟨some 135, .pick (.tmp 130) (.const (.bool true)) (.tmp 134), none, false, false, []⟩,
  ⟨some 136, .move (.tmp 135), none, false, false, []⟩,
  ⟨some 137, .fieldAddr 80 (.tmp 12) 7, some (136, false), false, false, []⟩,
  ⟨some 138, .load 3 (.tmp 137), some (136, false), false, false, []⟩,
  ⟨some 139, .call ⟨.value (.func 34), #[(.tmp 138), (.const (.int .i64 4503599627370496))], #[3, 3]⟩, some (136, false), false, false, []⟩,
  ⟨some 140, .unOp .not 4 (.tmp 139), some (136, false), false, false, []⟩,
  ⟨some 141, .pick (.tmp 136) (.const (.bool true)) (.tmp 140), none, false, false, []⟩,
  ⟨some 142, .move (.tmp 141), none, false, false, []⟩,
  ⟨some 143, .fieldAddr 80 (.tmp 12) 8, some (142, false), false, false, []⟩,
  ⟨some 144, .load 3 (.tmp 143), some (142, false), false, false, []⟩,
  ⟨some 145, .call ⟨.value (.func 34), #[(.tmp 144), (.const (.int .i64 4503599627370496))], #[3, 3]⟩, some (142, false), false, false, []⟩,
  ⟨some 146, .unOp .not 4 (.tmp 145), some (142, false), false, false, []⟩,
  ⟨some 147, .pick (.tmp 142) (.const (.bool true)) (.tmp 146), none, false, false, []⟩]
def r18_23 : List Co := [
  ⟨some 4, .assign (.const (.slice none 0 0)), none, false, false, []⟩,
  ⟨some 5, .assign (.const (.int .i64 10)), none, false, false, []⟩]
def r18_24 : List Co := [
  ⟨some 120, .move (.tmp 11), none, false, false, []⟩,
  ⟨some 121, .binOp .add 3 (.tmp 120) (.const (.int .i64 1)) 3, none, false, false, []⟩,
  ⟨some 11, .assign (.tmp 121), none, false, false, []⟩]
def l18_25 : Cc := (.seq (.seq (.reg r18_20) (.cond (.tmp 119) .skip (.exit 2))) (.seq (.block 3 (.seq (.reg r18_21) (.seq (.reg r18_22) (.cond (.tmp 147) (.seq (.reg r18_23) .ret) .skip)))) (.reg r18_24)))
def r18_26 : List Co := [
  ⟨some 148, .move (.tmp 6), none, false, false, []⟩,
  ⟨some 4, .assign (.tmp 148), none, false, false, []⟩,
  ⟨some 5, .assign (.const (.int .i64 0)), none, false, false, []⟩]
/-- wireglass/wireglassref20.Add -/
def c18 : Cc := (.seq (.reg r18_0) (.seq (.seq (.reg r18_1) (.cond (.tmp 20) (.seq (.reg r18_2) .ret) .skip)) (.seq (.seq (.reg r18_3) (.cond (.tmp 28) (.seq (.reg r18_4) .ret) .skip)) (.seq (.reg r18_5) (.seq (.seq (.reg r18_6) (.block 0 (.loop l18_18))) (.seq (.seq (.reg r18_19) (.block 2 (.loop l18_25))) (.seq (.reg r18_26) .ret)))))))
def r19_0 : List Co := [
  ⟨some 4, .assign (.const (.bool false)), none, false, false, []⟩]
def r19_1 : List Co := [
  ⟨some 6, .move (.tmp 0), none, false, false, []⟩,
  ⟨some 7, .call ⟨.builtin .len, #[(.tmp 6)], #[40]⟩, none, false, false, []⟩,
  ⟨some 8, .move (.tmp 1), none, false, false, []⟩,
  ⟨some 9, .call ⟨.builtin .len, #[(.tmp 8)], #[37]⟩, none, false, false, []⟩,
  ⟨some 10, .binOp .neq 3 (.tmp 7) (.tmp 9) 3, none, false, false, []⟩]
def r19_2 : List Co := [
  ⟨some 4, .assign (.const (.bool false)), none, false, false, []⟩]
def r19_3 : List Co := [
  ⟨some 5, .assign (.const (.int .i64 0)), none, false, false, []⟩]
def r19_4 : List Co := [
  ⟨some 11, .move (.tmp 5), none, false, false, []⟩,
  ⟨some 12, .move (.tmp 0), none, false, false, []⟩,
  ⟨some 13, .call ⟨.builtin .len, #[(.tmp 12)], #[40]⟩, none, false, false, []⟩,
  ⟨some 14, .binOp .lss 3 (.tmp 11) (.tmp 13) 3, none, false, false, []⟩]
def r19_5 : List Co := [
  ⟨some 17, .move (.tmp 0), none, false, false, []⟩,
  ⟨some 18, .move (.tmp 5), none, false, false, []⟩,
  ⟨some 19, .indexAddr 40 (.tmp 17) (.tmp 18), none, false, false, []⟩,
  ⟨some 20, .load 50 (.tmp 19), none, false, false, []⟩,
  ⟨some 21, .move (.tmp 1), none, false, false, []⟩,
  ⟨some 22, .move (.tmp 5), none, false, false, []⟩,
  ⟨some 23, .indexAddr 37 (.tmp 21) (.tmp 22), none, false, false, []⟩,
  ⟨some 24, .load 80 (.tmp 23), none, false, false, []⟩,
  ⟨some 25, .binOp .neq 80 (.tmp 20) (.tmp 24) 80, none, false, false, []⟩]
def r19_6 : List Co := [
  ⟨some 4, .assign (.const (.bool false)), none, false, false, []⟩]
def r19_7 : List Co := [
  ⟨some 15, .move (.tmp 5), none, false, false, []⟩,
  ⟨some 16, .binOp .add 3 (.tmp 15) (.const (.int .i64 1)) 3, none, false, false, []⟩,
  ⟨some 5, .assign (.tmp 16), none, false, false, []⟩]
def l19_8 : Cc := (.seq (.seq (.reg r19_4) (.cond (.tmp 14) .skip (.exit 0))) (.seq (.block 1 (.seq (.reg r19_5) (.cond (.tmp 25) (.seq (.reg r19_6) .ret) .skip))) (.reg r19_7)))
def r19_9 : List Co := [
  ⟨some 4, .assign (.const (.bool true)), none, false, false, []⟩]
/-- wireglass/wireglasslaw20.sums -/
def c19 : Cc := (.seq (.reg r19_0) (.seq (.seq (.reg r19_1) (.cond (.tmp 10) (.seq (.reg r19_2) .ret) .skip)) (.seq (.seq (.reg r19_3) (.block 0 (.loop l19_8))) (.seq (.reg r19_9) .ret))))
def r33_0 : List Co := [
  ⟨some 4, .assign (.const (.bool false)), none, false, false, []⟩]
def r33_1 : List Co := [
  ⟨some 5, .move (.tmp 0), none, false, false, []⟩,
  ⟨some 6, .binOp .geq 3 (.tmp 5) (.const (.int .i64 0)) 3, none, false, false, []⟩,
  ⟨some 7, .move (.tmp 6), none, false, false, []⟩,
  ⟨some 8, .move (.tmp 0), some (7, true), false, false, []⟩,
  ⟨some 9, .move (.tmp 1), some (7, true), false, false, []⟩,
  ⟨some 10, .binOp .leq 3 (.tmp 8) (.tmp 9) 3, some (7, true), false, false, []⟩,
  ⟨some 11, .pick (.tmp 7) (.tmp 10) (.const (.bool false)), none, false, false, []⟩,
  ⟨some 4, .assign (.tmp 11), none, false, false, []⟩]
/-- wireglass/conv.within -/
def c33 : Cc := (.seq (.reg r33_0) (.seq (.reg r33_1) .ret))
def r34_0 : List Co := [
  ⟨some 4, .assign (.const (.bool false)), none, false, false, []⟩]
def r34_1 : List Co := [
  ⟨some 5, .move (.tmp 0), none, false, false, []⟩,
  ⟨some 6, .binOp .geq 3 (.tmp 5) (.const (.int .i64 0)) 3, none, false, false, []⟩,
  ⟨some 7, .move (.tmp 6), none, false, false, []⟩,
  ⟨some 8, .move (.tmp 0), some (7, true), false, false, []⟩,
  ⟨some 9, .move (.tmp 1), some (7, true), false, false, []⟩,
  ⟨some 10, .binOp .leq 3 (.tmp 8) (.tmp 9) 3, some (7, true), false, false, []⟩,
  ⟨some 11, .pick (.tmp 7) (.tmp 10) (.const (.bool false)), none, false, false, []⟩,
  ⟨some 4, .assign (.tmp 11), none, false, false, []⟩]
/-- wireglass/wireglassref20.within -/
def c34 : Cc := (.seq (.reg r34_0) (.seq (.reg r34_1) .ret))
def r35_0 : List Co := [
  ⟨some 1, .box 58 (.tmp 0), none, false, false, []⟩,
  ⟨some 2, .assign (.const (.bool false)), none, false, false, []⟩]
def r35_1 : List Co := [
  ⟨some 3, .fieldAddr 58 (.tmp 1) 0, none, false, false, []⟩,
  ⟨some 4, .load 3 (.tmp 3), none, false, false, []⟩,
  ⟨some 5, .call ⟨.value (.func 34), #[(.tmp 4), (.const (.int .i64 1000000000000000))], #[3, 3]⟩, none, false, false, []⟩,
  ⟨some 6, .move (.tmp 5), none, false, false, []⟩,
  ⟨some 7, .fieldAddr 58 (.tmp 1) 1, some (6, true), false, false, []⟩,
  ⟨some 8, .load 3 (.tmp 7), some (6, true), false, false, []⟩,
  ⟨some 9, .call ⟨.value (.func 34), #[(.tmp 8), (.const (.int .i64 4294967295))], #[3, 3]⟩, some (6, true), false, false, []⟩,
  ⟨some 10, .pick (.tmp 6) (.tmp 9) (.const (.bool false)), none, false, false, []⟩,
  ⟨some 11, .move (.tmp 10), none, false, false, []⟩,
  ⟨some 12, .fieldAddr 58 (.tmp 1) 2, some (11, true), false, false, []⟩,
  ⟨some 13, .load 3 (.tmp 12), some (11, true), false, false, []⟩,
  ⟨some 14, .call ⟨.value (.func 34), #[(.tmp 13), (.const (.int .i64 4294967295))], #[3, 3]⟩, some (11, true), false, false, []⟩,
  ⟨some 15, .pick (.tmp 11) (.tmp 14) (.const (.bool false)), none, false, false, []⟩,
  ⟨some 16, .move (.tmp 15), none, false, false, []⟩,
  ⟨some 17, .fieldAddr 58 (.tmp 1) 3, some (16, true), false, false, []⟩,
  ⟨some 18, .load 3 (.tmp 17), some (16, true), false, false, []⟩,
  ⟨some 19, .call ⟨.value (.func 34), #[(.tmp 18), (.const (.int .i64 65535))], #[3, 3]⟩, some (16, true), false, false, []⟩,
  ⟨some 20, .pick (.tmp 16) (.tmp 19) (.const (.bool false)), none, false, false, []⟩,
  ⟨some 21, .move (.tmp 20), none, false, false, []⟩,
  ⟨some 22, .fieldAddr 58 (.tmp 1) 4, some (21, true), false, false, []⟩,
  ⟨some 23, .load 3 (.tmp 22), some (21, true), false, false, []⟩,
  ⟨some 24, .call ⟨.value (.func 34), #[(.tmp 23), (.const (.int .i64 65535))], #[3, 3]⟩, some (21, true), false, false, []⟩,
  ⟨some 25, .pick (.tmp 21) (.tmp 24) (.const (.bool false)), none, false, false, []⟩,
  ⟨some 26, .move (.tmp 25), none, false, false, []⟩,
  ⟨some 27, .fieldAddr 58 (.tmp 1) 5, some (26, true), false, false, []⟩,
  ⟨some 28, .load 3 (.tmp 27), some (26, true), false, false, []⟩,
  ⟨some 29, .call ⟨.value (.func 34), #[(.tmp 28), (.const (.int .i64 255))], #[3, 3]⟩, some (26, true), false, false, []⟩,
  ⟨some 30, .pick (.tmp 26) (.tmp 29) (.const (.bool false)), none, false, false, []⟩,
  ⟨some 31, .move (.tmp 30), none, false, false, []⟩,
  ⟨some 32, .fieldAddr 58 (.tmp 1) 6, some (31, true), false, false, []⟩,
  ⟨some 33, .load 3 (.tmp 32), some (31, true), false, false, []⟩,
  ⟨some 34, .call ⟨.value (.func 34), #[(.tmp 33), (.const (.int .i64 1000000))], #[3, 3]⟩, some (31, true), false, false, []⟩,
  ⟨some 35, .pick (.tmp 31) (.tmp 34) (.const (.bool false)), none, false, false, []⟩,
  ⟨some 2, .assign (.tmp 35), none, false, false, []⟩]
/-- wireglass/wireglassref20.isTalk -/
def c35 : Cc := (.seq (.reg r35_0) (.seq (.reg r35_1) .ret))
def r36_0 : List Co := [
  ⟨some 1, .box 58 (.tmp 0), none, false, false, []⟩,
  ⟨some 2, .alloc 81, none, false, false, []⟩,
  ⟨some 3, .assign (.const (.bool false)), none, false, false, []⟩]
def r36_1 : List Co := [
  ⟨some 4, .fieldAddr 58 (.tmp 1) 1, none, false, false, []⟩,
  ⟨some 5, .load 3 (.tmp 4), none, false, false, []⟩,
  ⟨some 6, .fieldAddr 58 (.tmp 1) 2, none, false, false, []⟩,
  ⟨some 7, .load 3 (.tmp 6), none, false, false, []⟩,
  ⟨some 8, .binOp .lss 3 (.tmp 5) (.tmp 7) 3, none, false, false, []⟩,
  ⟨some 9, .move (.tmp 8), none, false, false, []⟩,
  ⟨some 10, .fieldAddr 58 (.tmp 1) 1, some (9, false), false, false, []⟩,
  ⟨some 11, .load 3 (.tmp 10), some (9, false), false, false, []⟩,
  ⟨some 12, .fieldAddr 58 (.tmp 1) 2, some (9, false), false, false, []⟩,
  ⟨some 13, .load 3 (.tmp 12), some (9, false), false, false, []⟩,
  ⟨some 14, .binOp .eql 3 (.tmp 11) (.tmp 13) 3, some (9, false), false, false, []⟩,
  ⟨some 15, .move (.tmp 14), some (9, false), false, false, []⟩,
  ⟨some 16, .fieldAddr 58 (.tmp 1) 3, some (15, true), false, false, []⟩,
  ⟨some 17, .load 3 (.tmp 16), some (15, true), false, false, []⟩,
  ⟨some 18, .fieldAddr 58 (.tmp 1) 4, some (15, true), false, false, []⟩,
  ⟨some 19, .load 3 (.tmp 18), some (15, true), false, false, []⟩,
  ⟨some 20, .binOp .leq 3 (.tmp 17) (.tmp 19) 3, some (15, true), false, false, []⟩,
  ⟨some 21, .pick (.tmp 15) (.tmp 20) (.const (.bool false)), some (9, false), false, false, []⟩,
  ⟨some 22, .pick (.tmp 9) (.const (.bool true)) (.tmp 21), none, false, false, []⟩]
def r36_2 : List Co := [
  ⟨some 23, .fieldAddr 58 (.tmp 1) 1, none, false, false, []⟩,
  ⟨some 24, .load 3 (.tmp 23), none, false, false, []⟩,
  ⟨some 25, .fieldAddr 58 (.tmp 1) 3, none, false, false, []⟩,
  ⟨some 26, .load 3 (.tmp 25), none, false, false, []⟩,
  ⟨some 27, .fieldAddr 58 (.tmp 1) 2, none, false, false, []⟩,
  ⟨some 28, .load 3 (.tmp 27), none, false, false, []⟩,
  ⟨some 29, .fieldAddr 58 (.tmp 1) 4, none, false, false, []⟩,
  ⟨some 30, .load 3 (.tmp 29), none, false, false, []⟩,
  ⟨some 31, .fieldAddr 58 (.tmp 1) 5, none, false, false, []⟩,
  ⟨some 32, .load 3 (.tmp 31), none, false, false, []⟩,
  ⟨some 33, .build 81 #[(0, (.tmp 24)), (1, (.tmp 26)), (2, (.tmp 28)), (3, (.tmp 30)), (4, (.tmp 32))], none, false, false, []⟩,
  ⟨none, .store 81 (.tmp 2) (.tmp 33), none, false, false, []⟩,
  ⟨some 3, .assign (.const (.bool true)), none, false, false, []⟩]
def r36_3 : List Co := [
  ⟨some 34, .fieldAddr 58 (.tmp 1) 2, none, false, false, []⟩,
  ⟨some 35, .load 3 (.tmp 34), none, false, false, []⟩,
  ⟨some 36, .fieldAddr 58 (.tmp 1) 4, none, false, false, []⟩,
  ⟨some 37, .load 3 (.tmp 36), none, false, false, []⟩,
  ⟨some 38, .fieldAddr 58 (.tmp 1) 1, none, false, false, []⟩,
  ⟨some 39, .load 3 (.tmp 38), none, false, false, []⟩,
  ⟨some 40, .fieldAddr 58 (.tmp 1) 3, none, false, false, []⟩,
  ⟨some 41, .load 3 (.tmp 40), none, false, false, []⟩,
  ⟨some 42, .fieldAddr 58 (.tmp 1) 5, none, false, false, []⟩,
  ⟨some 43, .load 3 (.tmp 42), none, false, false, []⟩,
  ⟨some 44, .build 81 #[(0, (.tmp 35)), (1, (.tmp 37)), (2, (.tmp 39)), (3, (.tmp 41)), (4, (.tmp 43))], none, false, false, []⟩,
  ⟨none, .store 81 (.tmp 2) (.tmp 44), none, false, false, []⟩,
  ⟨some 3, .assign (.const (.bool false)), none, false, false, []⟩]
/-- wireglass/wireglassref20.KeyOf -/
def c36 : Cc := (.seq (.reg r36_0) (.seq (.seq (.reg r36_1) (.cond (.tmp 22) (.seq (.reg r36_2) .ret) .skip)) (.seq (.reg r36_3) .ret)))
def r37_0 : List Co := [
  ⟨some 3, .box 81 (.tmp 1), none, false, false, []⟩,
  ⟨some 4, .assign (.const (.int .i64 0)), none, false, false, []⟩]
def r37_1 : List Co := [
  ⟨some 5, .assign (.const (.int .i64 0)), none, false, false, []⟩]
def r37_2 : List Co := [
  ⟨some 6, .move (.tmp 5), none, false, false, []⟩,
  ⟨some 7, .move (.tmp 0), none, false, false, []⟩,
  ⟨some 8, .call ⟨.builtin .len, #[(.tmp 7)], #[37]⟩, none, false, false, []⟩,
  ⟨some 9, .binOp .lss 3 (.tmp 6) (.tmp 8) 3, none, false, false, []⟩]
def r37_3 : List Co := [
  ⟨some 12, .move (.tmp 0), none, false, false, []⟩,
  ⟨some 13, .move (.tmp 5), none, false, false, []⟩,
  ⟨some 14, .indexAddr 37 (.tmp 12) (.tmp 13), none, false, false, []⟩,
  ⟨some 15, .load 80 (.tmp 14), none, false, false, []⟩,
  ⟨some 16, .call ⟨.value (.func 46), #[(.tmp 15)], #[80]⟩, none, true, false, []⟩,
  ⟨some 17, .load 81 (.tmp 3), none, true, true, []⟩,
  ⟨some 18, .binOp .eql 81 (.tmp 16) (.tmp 17) 81, none, false, false, []⟩]
def r37_4 : List Co := [
  ⟨some 19, .move (.tmp 5), none, false, false, []⟩,
  ⟨some 4, .assign (.tmp 19), none, false, false, []⟩]
def r37_5 : List Co := [
  ⟨some 10, .move (.tmp 5), none, false, false, []⟩,
  ⟨some 11, .binOp .add 3 (.tmp 10) (.const (.int .i64 1)) 3, none, false, false, []⟩,
  ⟨some 5, .assign (.tmp 11), none, false, false, []⟩]
def l37_6 : Cc := (.seq (.seq (.reg r37_2) (.cond (.tmp 9) .skip (.exit 0))) (.seq (.block 1 (.seq (.reg r37_3) (.cond (.tmp 18) (.seq (.reg r37_4) .ret) .skip))) (.reg r37_5)))
def r37_7 : List Co := [
  ⟨some 4, .assign (.const (.int .i64 (-1))), none, false, false, []⟩]
/-- wireglass/wireglassref20.find -/
def c37 : Cc := (.seq (.reg r37_0) (.seq (.seq (.reg r37_1) (.block 0 (.loop l37_6))) (.seq (.reg r37_7) .ret)))
def r38_0 : List Co := [
  ⟨some 2, .assign (.const (.int .i64 0)), none, false, false, []⟩]
def r38_1 : List Co := [
  ⟨some 10, .move (.tmp 0), none, false, false, []⟩,
  ⟨some 11, .call ⟨.builtin .len, #[(.tmp 10)], #[126]⟩, none, false, false, []⟩,
  ⟨some 12, .move (.const (.int .i64 0)), none, false, false, []⟩]
def r38_2 : List Co := [
  ⟨some 13, .binOp .lss 3 (.tmp 12) (.tmp 11) 3, none, false, false, []⟩]
def r38_3 : List Co := [
  ⟨some 14, .indexAddr 126 (.tmp 10) (.tmp 12), none, false, false, []⟩,
  ⟨some 15, .load 40 (.tmp 14), none, false, false, []⟩,
  ⟨some 4, .assign (.tmp 15), none, false, false, []⟩]
def r38_4 : List Co := [
  ⟨some 16, .move (.tmp 4), none, false, false, []⟩,
  ⟨some 17, .call ⟨.builtin .len, #[(.tmp 16)], #[40]⟩, none, false, false, []⟩,
  ⟨some 18, .binOp .gtr 3 (.tmp 17) (.const (.int .i64 200)) 3, none, false, false, []⟩]
def r38_5 : List Co := [
  ⟨some 2, .assign (.const (.int .i64 3)), none, false, false, []⟩]
def r38_6 : List Co := [
  ⟨some 19, .binOp .add 3 (.tmp 12) (.const (.int .i64 1)) 3, none, false, false, []⟩,
  ⟨some 12, .move (.tmp 19), none, false, false, []⟩]
def l38_7 : Cc := (.seq (.reg r38_2) (.seq (.cond (.tmp 13) .skip (.exit 0)) (.seq (.block 1 (.seq (.reg r38_3) (.seq (.reg r38_4) (.cond (.tmp 18) (.seq (.reg r38_5) .ret) .skip)))) (.reg r38_6))))
def r38_8 : List Co := [
  ⟨some 20, .move (.tmp 0), none, false, false, []⟩,
  ⟨some 21, .call ⟨.builtin .len, #[(.tmp 20)], #[126]⟩, none, false, false, []⟩,
  ⟨some 22, .move (.const (.int .i64 0)), none, false, false, []⟩]
def r38_9 : List Co := [
  ⟨some 23, .binOp .lss 3 (.tmp 22) (.tmp 21) 3, none, false, false, []⟩]
def r38_10 : List Co := [
  ⟨some 24, .indexAddr 126 (.tmp 20) (.tmp 22), none, false, false, []⟩,
  ⟨some 25, .load 40 (.tmp 24), none, false, false, []⟩,
  ⟨some 6, .assign (.tmp 25), none, false, false, []⟩]
def r38_11 : List Co := [
  ⟨some 26, .makeMap 127 none, none, false, false, []⟩,
  ⟨some 7, .assign (.tmp 26), none, false, false, []⟩]
def r38_12 : List Co := [
  ⟨some 27, .move (.tmp 6), none, false, false, []⟩,
  ⟨some 28, .call ⟨.builtin .len, #[(.tmp 27)], #[40]⟩, none, false, false, []⟩,
  ⟨some 29, .move (.const (.int .i64 0)), none, false, false, []⟩]
def r38_13 : List Co := [
  ⟨some 30, .binOp .lss 3 (.tmp 29) (.tmp 28) 3, none, false, false, []⟩]
def r38_14 : List Co := [
  ⟨some 31, .indexAddr 40 (.tmp 27) (.tmp 29), none, false, false, []⟩,
  ⟨some 32, .load 50 (.tmp 31), none, false, false, []⟩,
  ⟨some 9, .alloc 50, none, false, false, []⟩,
  ⟨none, .store 50 (.tmp 9) (.tmp 32), none, false, false, []⟩]
def r38_15 : List Co := [
  ⟨some 33, .load 50 (.tmp 9), none, false, false, []⟩,
  ⟨some 34, .call ⟨.value (.func 44), #[(.tmp 33)], #[50]⟩, none, false, false, []⟩,
  ⟨some 35, .unOp .not 4 (.tmp 34), none, false, false, []⟩,
  ⟨some 36, .move (.tmp 35), none, false, false, []⟩,
  ⟨some 37, .move (.tmp 7), some (36, false), false, false, []⟩,
  ⟨some 38, .load 50 (.tmp 9), some (36, false), false, false, []⟩,
  ⟨some 39, .call ⟨.value (.func 42), #[(.tmp 38)], #[50]⟩, some (36, false), false, false, []⟩,
  ⟨some 40, .lookup 127 (.tmp 37) (.tmp 39) false, some (36, false), false, false, []⟩,
  ⟨some 41, .pick (.tmp 36) (.const (.bool true)) (.tmp 40), none, false, false, []⟩]
def r38_16 : List Co := [
  ⟨some 2, .assign (.const (.int .i64 1)), none, false, false, []⟩]
def r38_17 : List Co := [
  ⟨some 42, .move (.tmp 7), none, false, false, []⟩,
  ⟨some 43, .load 50 (.tmp 9), none, false, false, []⟩,
  ⟨some 44, .call ⟨.value (.func 42), #[(.tmp 43)], #[50]⟩, none, false, false, []⟩,
  ⟨none, .mapUpdate 127 (.tmp 42) (.tmp 44) (.const (.bool true)), none, false, false, []⟩]
def r38_18 : List Co := [
  ⟨some 45, .binOp .add 3 (.tmp 29) (.const (.int .i64 1)) 3, none, false, false, []⟩,
  ⟨some 29, .move (.tmp 45), none, false, false, []⟩]
def l38_19 : Cc := (.seq (.reg r38_13) (.seq (.cond (.tmp 30) .skip (.exit 4)) (.seq (.block 5 (.seq (.reg r38_14) (.seq (.seq (.reg r38_15) (.cond (.tmp 41) (.seq (.reg r38_16) .ret) .skip)) (.reg r38_17)))) (.reg r38_18))))
def r38_20 : List Co := [
  ⟨some 46, .binOp .add 3 (.tmp 22) (.const (.int .i64 1)) 3, none, false, false, []⟩,
  ⟨some 22, .move (.tmp 46), none, false, false, []⟩]
def l38_21 : Cc := (.seq (.reg r38_9) (.seq (.cond (.tmp 23) .skip (.exit 2)) (.seq (.block 3 (.seq (.reg r38_10) (.seq (.reg r38_11) (.seq (.reg r38_12) (.block 4 (.loop l38_19)))))) (.reg r38_20))))
def r38_22 : List Co := [
  ⟨some 2, .assign (.const (.int .i64 0)), none, false, false, []⟩]
/-- wireglass/conv.sums -/
def c38 : Cc := (.seq (.reg r38_0) (.seq (.seq (.reg r38_1) (.block 0 (.loop l38_7))) (.seq (.seq (.reg r38_8) (.block 2 (.loop l38_21))) (.seq (.reg r38_22) .ret))))
def r39_0 : List Co := [
  ⟨some 2, .assign (.const (.slice none 0 0)), none, false, false, []⟩]
def r39_1 : List Co := [
  ⟨some 3, .move (.tmp 0), none, false, false, []⟩,
  ⟨some 4, .binOp .eql 40 (.tmp 3) (.const (.slice none 0 0)) 40, none, false, false, []⟩]
def r39_2 : List Co := [
  ⟨some 2, .assign (.const (.slice none 0 0)), none, false, false, []⟩]
def r39_3 : List Co := [
  ⟨some 5, .buildSlice 40 0 #[], none, false, false, []⟩,
  ⟨some 6, .move (.tmp 0), none, false, false, []⟩,
  ⟨some 7, .call ⟨.builtin .append, #[(.tmp 5), (.tmp 6)], #[40, 40]⟩, none, false, false, []⟩,
  ⟨some 2, .assign (.tmp 7), none, false, false, []⟩]
/-- slices.Clone[[]wireglass/conv.Sum,wireglass/conv.Sum] -/
def c39 : Cc := (.seq (.reg r39_0) (.seq (.seq (.reg r39_1) (.cond (.tmp 4) (.seq (.reg r39_2) .ret) .skip)) (.seq (.reg r39_3) .ret)))
def r40_0 : List Co := [
  ⟨some 4, .assign (.const (.int .i64 0)), none, false, false, []⟩]
def r40_1 : List Co := [
  ⟨some 6, .move (.tmp 0), none, false, false, []⟩,
  ⟨some 7, .call ⟨.builtin .len, #[(.tmp 6)], #[40]⟩, none, false, false, []⟩,
  ⟨some 8, .move (.const (.int .i64 0)), none, false, false, []⟩]
def r40_2 : List Co := [
  ⟨some 9, .binOp .lss 3 (.tmp 8) (.tmp 7) 3, none, false, false, []⟩]
def r40_3 : List Co := [
  ⟨some 10, .move (.tmp 8), none, false, false, []⟩,
  ⟨some 5, .assign (.tmp 10), none, false, false, []⟩]
def r40_4 : List Co := [
  ⟨some 11, .move (.tmp 1), none, false, false, []⟩,
  ⟨some 12, .move (.tmp 0), none, false, false, []⟩,
  ⟨some 13, .move (.tmp 5), none, false, false, []⟩,
  ⟨some 14, .indexAddr 40 (.tmp 12) (.tmp 13), none, false, false, []⟩,
  ⟨some 15, .load 50 (.tmp 14), none, false, false, []⟩,
  ⟨some 16, .call ⟨.value (.tmp 11), #[(.tmp 15)], #[50]⟩, none, false, false, []⟩]
def r40_5 : List Co := [
  ⟨some 17, .move (.tmp 5), none, false, false, []⟩,
  ⟨some 4, .assign (.tmp 17), none, false, false, []⟩]
def r40_6 : List Co := [
  ⟨some 18, .binOp .add 3 (.tmp 8) (.const (.int .i64 1)) 3, none, false, false, []⟩,
  ⟨some 8, .move (.tmp 18), none, false, false, []⟩]
def l40_7 : Cc := (.seq (.reg r40_2) (.seq (.cond (.tmp 9) .skip (.exit 0)) (.seq (.block 1 (.seq (.reg r40_3) (.seq (.reg r40_4) (.cond (.tmp 16) (.seq (.reg r40_5) .ret) .skip)))) (.reg r40_6))))
def r40_8 : List Co := [
  ⟨some 4, .assign (.const (.int .i64 (-1))), none, false, false, []⟩]
/-- slices.IndexFunc[[]wireglass/conv.Sum,wireglass/conv.Sum] -/
def c40 : Cc := (.seq (.reg r40_0) (.seq (.seq (.reg r40_1) (.block 0 (.loop l40_7))) (.seq (.reg r40_8) .ret)))
def r41_0 : List Co := [
  ⟨some 2, .box 50 (.tmp 0), none, false, false, []⟩,
  ⟨some 3, .assign (.const (.bool false)), none, false, false, []⟩]
def r41_1 : List Co := [
  ⟨some 4, .load 50 (.tmp 2), none, false, false, []⟩,
  ⟨some 5, .call ⟨.value (.func 42), #[(.tmp 4)], #[50]⟩, none, true, false, []⟩,
  ⟨some 6, .load 50 (.tmp 1), none, true, true, []⟩,
  ⟨some 7, .call ⟨.value (.func 42), #[(.tmp 6)], #[50]⟩, none, false, false, []⟩,
  ⟨some 8, .binOp .eql 88 (.tmp 5) (.tmp 7) 88, none, false, false, []⟩,
  ⟨some 3, .assign (.tmp 8), none, false, false, []⟩]
/-- wireglass/conv.Add$1 -/
def c41 : Cc := (.seq (.reg r41_0) (.seq (.reg r41_1) .ret))
def r42_0 : List Co := [
  ⟨some 1, .box 50 (.tmp 0), none, false, false, []⟩,
  ⟨some 2, .alloc 88, none, false, false, []⟩]
def r42_1 : List Co := [
  ⟨some 3, .fieldAddr 50 (.tmp 1) 0, none, false, false, []⟩,
  ⟨some 4, .load 3 (.tmp 3), none, false, false, []⟩,
  ⟨some 5, .fieldAddr 50 (.tmp 1) 1, none, false, false, []⟩,
  ⟨some 6, .load 3 (.tmp 5), none, false, false, []⟩,
  ⟨some 7, .fieldAddr 50 (.tmp 1) 2, none, false, false, []⟩,
  ⟨some 8, .load 3 (.tmp 7), none, false, false, []⟩,
  ⟨some 9, .fieldAddr 50 (.tmp 1) 3, none, false, false, []⟩,
  ⟨some 10, .load 3 (.tmp 9), none, false, false, []⟩,
  ⟨some 11, .fieldAddr 50 (.tmp 1) 4, none, false, false, []⟩,
  ⟨some 12, .load 3 (.tmp 11), none, false, false, []⟩,
  ⟨some 13, .build 88 #[(0, (.tmp 4)), (1, (.tmp 6)), (2, (.tmp 8)), (3, (.tmp 10)), (4, (.tmp 12))], none, false, false, []⟩,
  ⟨none, .store 88 (.tmp 2) (.tmp 13), none, false, false, []⟩]
/-- wireglass/conv.placeOfSum -/
def c42 : Cc := (.seq (.reg r42_0) (.seq (.reg r42_1) .ret))
def r43_0 : List Co := [
  ⟨some 2, .box 50 (.tmp 0), none, false, false, []⟩,
  ⟨some 3, .box 50 (.tmp 1), none, false, false, []⟩,
  ⟨some 4, .alloc 50, none, false, false, []⟩]
def r43_1 : List Co := [
  ⟨some 5, .fieldAddr 50 (.tmp 2) 5, none, false, false, []⟩,
  ⟨some 6, .load 3 (.tmp 5), none, false, false, []⟩,
  ⟨some 7, .fieldAddr 50 (.tmp 3) 5, none, false, false, []⟩,
  ⟨some 8, .load 3 (.tmp 7), none, false, false, []⟩,
  ⟨some 9, .binOp .add 3 (.tmp 6) (.tmp 8) 3, none, false, false, []⟩,
  ⟨some 10, .fieldAddr 50 (.tmp 2) 5, none, false, false, []⟩,
  ⟨none, .store 3 (.tmp 10) (.tmp 9), none, false, false, []⟩]
def r43_2 : List Co := [
  ⟨some 11, .fieldAddr 50 (.tmp 2) 6, none, false, false, []⟩,
  ⟨some 12, .load 3 (.tmp 11), none, false, false, []⟩,
  ⟨some 13, .fieldAddr 50 (.tmp 3) 6, none, false, false, []⟩,
  ⟨some 14, .load 3 (.tmp 13), none, false, false, []⟩,
  ⟨some 15, .binOp .add 3 (.tmp 12) (.tmp 14) 3, none, false, false, []⟩,
  ⟨some 16, .fieldAddr 50 (.tmp 2) 6, none, false, false, []⟩,
  ⟨none, .store 3 (.tmp 16) (.tmp 15), none, false, false, []⟩]
def r43_3 : List Co := [
  ⟨some 17, .fieldAddr 50 (.tmp 2) 7, none, false, false, []⟩,
  ⟨some 18, .load 3 (.tmp 17), none, false, false, []⟩,
  ⟨some 19, .fieldAddr 50 (.tmp 3) 7, none, false, false, []⟩,
  ⟨some 20, .load 3 (.tmp 19), none, false, false, []⟩,
  ⟨some 21, .binOp .add 3 (.tmp 18) (.tmp 20) 3, none, false, false, []⟩,
  ⟨some 22, .fieldAddr 50 (.tmp 2) 7, none, false, false, []⟩,
  ⟨none, .store 3 (.tmp 22) (.tmp 21), none, false, false, []⟩]
def r43_4 : List Co := [
  ⟨some 23, .fieldAddr 50 (.tmp 2) 8, none, false, false, []⟩,
  ⟨some 24, .load 3 (.tmp 23), none, false, false, []⟩,
  ⟨some 25, .fieldAddr 50 (.tmp 3) 8, none, false, false, []⟩,
  ⟨some 26, .load 3 (.tmp 25), none, false, false, []⟩,
  ⟨some 27, .binOp .add 3 (.tmp 24) (.tmp 26) 3, none, false, false, []⟩,
  ⟨some 28, .fieldAddr 50 (.tmp 2) 8, none, false, false, []⟩,
  ⟨none, .store 3 (.tmp 28) (.tmp 27), none, false, false, []⟩]
def r43_5 : List Co := [
  ⟨some 29, .fieldAddr 50 (.tmp 2) 9, none, false, false, []⟩,
  ⟨some 30, .load 3 (.tmp 29), none, false, false, []⟩,
  ⟨some 31, .fieldAddr 50 (.tmp 3) 9, none, false, false, []⟩,
  ⟨some 32, .load 3 (.tmp 31), none, false, false, []⟩,
  ⟨some 33, .call ⟨.builtin .min, #[(.tmp 30), (.tmp 32)], #[3, 3]⟩, none, false, false, []⟩,
  ⟨some 34, .fieldAddr 50 (.tmp 2) 10, none, false, false, []⟩,
  ⟨some 35, .load 3 (.tmp 34), none, false, false, []⟩,
  ⟨some 36, .fieldAddr 50 (.tmp 3) 10, none, false, false, []⟩,
  ⟨some 37, .load 3 (.tmp 36), none, false, false, []⟩,
  ⟨some 38, .call ⟨.builtin .max, #[(.tmp 35), (.tmp 37)], #[3, 3]⟩, none, false, false, []⟩,
  ⟨some 39, .fieldAddr 50 (.tmp 2) 9, none, false, false, []⟩,
  ⟨none, .store 3 (.tmp 39) (.tmp 33), none, false, false, [(none, .load 3 (.tmp 36))]⟩,
  ⟨some 40, .fieldAddr 50 (.tmp 2) 10, none, false, false, []⟩,
  ⟨none, .store 3 (.tmp 40) (.tmp 38), none, false, false, []⟩]
def r43_6 : List Co := [
  ⟨some 41, .load 50 (.tmp 2), none, false, false, []⟩,
  ⟨none, .store 50 (.tmp 4) (.tmp 41), none, false, false, []⟩]
/-- wireglass/conv.added -/
def c43 : Cc := (.seq (.reg r43_0) (.seq (.reg r43_1) (.seq (.reg r43_2) (.seq (.reg r43_3) (.seq (.reg r43_4) (.seq (.reg r43_5) (.seq (.reg r43_6) .ret)))))))
def r44_0 : List Co := [
  ⟨some 1, .box 50 (.tmp 0), none, false, false, []⟩,
  ⟨some 2, .assign (.const (.bool false)), none, false, false, []⟩]
def r44_1 : List Co := [
  ⟨some 4, .fieldAddr 50 (.tmp 1) 0, none, false, false, []⟩,
  ⟨some 5, .load 3 (.tmp 4), none, false, false, []⟩,
  ⟨some 6, .fieldAddr 50 (.tmp 1) 1, none, false, false, []⟩,
  ⟨some 7, .load 3 (.tmp 6), none, false, false, []⟩,
  ⟨some 8, .fieldAddr 50 (.tmp 1) 2, none, false, false, []⟩,
  ⟨some 9, .load 3 (.tmp 8), none, false, false, []⟩,
  ⟨some 10, .fieldAddr 50 (.tmp 1) 3, none, false, false, []⟩,
  ⟨some 11, .load 3 (.tmp 10), none, false, false, []⟩,
  ⟨some 12, .fieldAddr 50 (.tmp 1) 4, none, false, false, []⟩,
  ⟨some 13, .load 3 (.tmp 12), none, false, false, []⟩,
  ⟨some 14, .fieldAddr 50 (.tmp 1) 5, none, false, false, []⟩,
  ⟨some 15, .load 3 (.tmp 14), none, false, false, []⟩,
  ⟨some 16, .fieldAddr 50 (.tmp 1) 6, none, false, false, []⟩,
  ⟨some 17, .load 3 (.tmp 16), none, false, false, []⟩,
  ⟨some 18, .fieldAddr 50 (.tmp 1) 7, none, false, false, []⟩,
  ⟨some 19, .load 3 (.tmp 18), none, false, false, []⟩,
  ⟨some 20, .fieldAddr 50 (.tmp 1) 8, none, false, false, []⟩,
  ⟨some 21, .load 3 (.tmp 20), none, false, false, []⟩,
  ⟨some 22, .fieldAddr 50 (.tmp 1) 9, none, false, false, []⟩,
  ⟨some 23, .load 3 (.tmp 22), none, false, false, []⟩,
  ⟨some 24, .fieldAddr 50 (.tmp 1) 10, none, false, false, []⟩,
  ⟨some 25, .load 3 (.tmp 24), none, false, false, []⟩,
  ⟨some 26, .buildSlice 22 11 #[(0, (.tmp 5)), (1, (.tmp 7)), (2, (.tmp 9)), (3, (.tmp 11)), (4, (.tmp 13)), (5, (.tmp 15)), (6, (.tmp 17)), (7, (.tmp 19)), (8, (.tmp 21)), (9, (.tmp 23)), (10, (.tmp 25))], none, false, false, []⟩,
  ⟨some 3, .assign (.tmp 26), none, false, false, []⟩]
def r44_2 : List Co := [
  ⟨some 27, .move (.tmp 3), none, false, false, []⟩,
  ⟨some 28, .call ⟨.value (.func 70), #[(.tmp 27), (.func 71)], #[22, 129]⟩, none, false, false, []⟩,
  ⟨some 29, .unOp .not 4 (.tmp 28), none, false, false, []⟩,
  ⟨some 30, .move (.tmp 29), none, false, false, []⟩,
  ⟨some 31, .fieldAddr 50 (.tmp 1) 0, some (30, true), false, false, []⟩,
  ⟨some 32, .load 3 (.tmp 31), some (30, true), false, false, []⟩,
  ⟨some 33, .fieldAddr 50 (.tmp 1) 2, some (30, true), false, false, []⟩,
  ⟨some 34, .load 3 (.tmp 33), some (30, true), false, false, []⟩,
  ⟨some 35, .call ⟨.value (.func 51), #[(.tmp 32), (.tmp 34)], #[3, 3]⟩, some (30, true), true, false, []⟩,
  ⟨some 36, .fieldAddr 50 (.tmp 1) 1, some (30, true), true, false, []⟩,
  ⟨some 37, .load 3 (.tmp 36), some (30, true), true, true, []⟩,
  ⟨some 38, .fieldAddr 50 (.tmp 1) 3, some (30, true), true, false, []⟩,
  ⟨some 39, .load 3 (.tmp 38), some (30, true), true, true, []⟩,
  ⟨some 40, .call ⟨.value (.func 51), #[(.tmp 37), (.tmp 39)], #[3, 3]⟩, some (30, true), false, false, []⟩,
  ⟨some 41, .buildSlice 22 2 #[(0, (.tmp 35)), (1, (.tmp 40))], some (30, true), false, false, []⟩,
  ⟨some 42, .call ⟨.value (.func 58), #[(.tmp 41)], #[22]⟩, some (30, true), false, false, []⟩,
  ⟨some 43, .binOp .leq 3 (.tmp 42) (.const (.int .i64 0)) 3, some (30, true), false, false, []⟩,
  ⟨some 44, .pick (.tmp 30) (.tmp 43) (.const (.bool false)), none, false, false, []⟩,
  ⟨some 2, .assign (.tmp 44), none, false, false, []⟩]
/-- wireglass/conv.isSum -/
def c44 : Cc := (.seq (.reg r44_0) (.seq (.reg r44_1) (.seq (.reg r44_2) .ret)))
def r45_0 : List Co := [
  ⟨some 2, .assign (.const (.int .i64 0)), none, false, false, []⟩]
def r45_1 : List Co := [
  ⟨some 7, .move (.tmp 0), none, false, false, []⟩,
  ⟨some 8, .call ⟨.builtin .len, #[(.tmp 7)], #[37]⟩, none, false, false, []⟩,
  ⟨some 9, .binOp .gtr 3 (.tmp 8) (.const (.int .i64 200)) 3, none, false, false, []⟩]
def r45_2 : List Co := [
  ⟨some 2, .assign (.const (.int .i64 3)), none, false, false, []⟩]
def r45_3 : List Co := [
  ⟨some 3, .assign (.const (.int .i64 0)), none, false, false, []⟩]
def r45_4 : List Co := [
  ⟨some 10, .move (.tmp 3), none, false, false, []⟩,
  ⟨some 11, .move (.tmp 0), none, false, false, []⟩,
  ⟨some 12, .call ⟨.builtin .len, #[(.tmp 11)], #[37]⟩, none, false, false, []⟩,
  ⟨some 13, .binOp .lss 3 (.tmp 10) (.tmp 12) 3, none, false, false, []⟩]
def r45_5 : List Co := [
  ⟨some 16, .move (.tmp 0), none, false, false, []⟩,
  ⟨some 17, .move (.tmp 3), none, false, false, []⟩,
  ⟨some 18, .indexAddr 37 (.tmp 16) (.tmp 17), none, false, false, []⟩,
  ⟨some 19, .load 80 (.tmp 18), none, false, false, []⟩,
  ⟨some 20, .call ⟨.value (.func 72), #[(.tmp 19)], #[80]⟩, none, false, false, []⟩,
  ⟨some 4, .assign (.tmp 20), none, false, false, []⟩]
def r45_6 : List Co := [
  ⟨some 5, .assign (.const (.int .i64 0)), none, false, false, []⟩]
def r45_7 : List Co := [
  ⟨some 21, .move (.tmp 5), none, false, false, []⟩,
  ⟨some 22, .move (.tmp 4), none, false, false, []⟩,
  ⟨some 23, .call ⟨.builtin .len, #[(.tmp 22)], #[22]⟩, none, false, false, []⟩,
  ⟨some 24, .binOp .lss 3 (.tmp 21) (.tmp 23) 3, none, false, false, []⟩]
def r45_8 : List Co := [
  ⟨some 27, .move (.tmp 4), none, false, false, []⟩,
  ⟨some 28, .move (.tmp 5), none, false, false, []⟩,
  ⟨some 29, .indexAddr 22 (.tmp 27) (.tmp 28), none, false, false, []⟩,
  ⟨some 30, .load 3 (.tmp 29), none, false, false, []⟩,
  ⟨some 31, .call ⟨.value (.func 34), #[(.tmp 30), (.const (.int .i64 4503599627370496))], #[3, 3]⟩, none, false, false, []⟩,
  ⟨some 32, .unOp .not 4 (.tmp 31), none, false, false, []⟩]
def r45_9 : List Co := [
  ⟨some 2, .assign (.const (.int .i64 1)), none, false, false, []⟩]
def r45_10 : List Co := [
  ⟨some 25, .move (.tmp 5), none, false, false, []⟩,
  ⟨some 26, .binOp .add 3 (.tmp 25) (.const (.int .i64 1)) 3, none, false, false, []⟩,
  ⟨some 5, .assign (.tmp 26), none, false, false, []⟩]
def l45_11 : Cc := (.seq (.seq (.reg r45_7) (.cond (.tmp 24) .skip (.exit 2))) (.seq (.block 3 (.seq (.reg r45_8) (.cond (.tmp 32) (.seq (.reg r45_9) .ret) .skip))) (.reg r45_10)))
def r45_12 : List Co := [
  ⟨some 33, .move (.tmp 0), none, false, false, []⟩,
  ⟨some 34, .move (.tmp 3), none, false, false, []⟩,
  ⟨some 35, .indexAddr 37 (.tmp 33) (.tmp 34), none, false, false, []⟩,
  ⟨some 36, .load 80 (.tmp 35), none, false, false, []⟩,
  ⟨some 6, .alloc 80, none, false, false, []⟩,
  ⟨none, .store 80 (.tmp 6) (.tmp 36), none, false, false, []⟩]
def r45_13 : List Co := [
  ⟨some 37, .fieldAddr 80 (.tmp 6) 0, none, false, false, []⟩,
  ⟨some 38, .load 3 (.tmp 37), none, false, false, []⟩,
  ⟨some 39, .fieldAddr 80 (.tmp 6) 2, none, false, false, []⟩,
  ⟨some 40, .load 3 (.tmp 39), none, false, false, []⟩,
  ⟨some 41, .binOp .gtr 3 (.tmp 38) (.tmp 40) 3, none, false, false, []⟩,
  ⟨some 42, .move (.tmp 41), none, false, false, []⟩,
  ⟨some 43, .fieldAddr 80 (.tmp 6) 0, some (42, false), false, false, []⟩,
  ⟨some 44, .load 3 (.tmp 43), some (42, false), false, false, []⟩,
  ⟨some 45, .fieldAddr 80 (.tmp 6) 2, some (42, false), false, false, []⟩,
  ⟨some 46, .load 3 (.tmp 45), some (42, false), false, false, []⟩,
  ⟨some 47, .binOp .eql 3 (.tmp 44) (.tmp 46) 3, some (42, false), false, false, []⟩,
  ⟨some 48, .move (.tmp 47), some (42, false), false, false, []⟩,
  ⟨some 49, .fieldAddr 80 (.tmp 6) 1, some (48, true), false, false, []⟩,
  ⟨some 50, .load 3 (.tmp 49), some (48, true), false, false, []⟩,
  ⟨some 51, .fieldAddr 80 (.tmp 6) 3, some (48, true), false, false, []⟩,
  ⟨some 52, .load 3 (.tmp 51), some (48, true), false, false, []⟩,
  ⟨some 53, .binOp .gtr 3 (.tmp 50) (.tmp 52) 3, some (48, true), false, false, []⟩,
  ⟨some 54, .pick (.tmp 48) (.tmp 53) (.const (.bool false)), some (42, false), false, false, []⟩,
  ⟨some 55, .pick (.tmp 42) (.const (.bool true)) (.tmp 54), none, false, false, []⟩,
  ⟨some 56, .move (.tmp 55), none, false, false, []⟩,
  ⟨some 57, .move (.tmp 0), some (56, false), false, false, []⟩,
  ⟨some 58, .load 80 (.tmp 6), some (56, false), false, false, []⟩,
  ⟨some 59, .call ⟨.value (.func 46), #[(.tmp 58)], #[80]⟩, some (56, false), false, false, []⟩,
  ⟨some 60, .call ⟨.value (.func 37), #[(.tmp 57), (.tmp 59)], #[37, 81]⟩, some (56, false), false, false, []⟩,
  ⟨some 61, .move (.tmp 3), some (56, false), false, false, []⟩,
  ⟨some 62, .binOp .neq 3 (.tmp 60) (.tmp 61) 3, some (56, false), false, false, []⟩,
  ⟨some 63, .pick (.tmp 56) (.const (.bool true)) (.tmp 62), none, false, false, []⟩]
def r45_14 : List Co := [
  ⟨some 2, .assign (.const (.int .i64 1)), none, false, false, []⟩]
def r45_15 : List Co := [
  ⟨some 14, .move (.tmp 3), none, false, false, []⟩,
  ⟨some 15, .binOp .add 3 (.tmp 14) (.const (.int .i64 1)) 3, none, false, false, []⟩,
  ⟨some 3, .assign (.tmp 15), none, false, false, []⟩]
def l45_16 : Cc := (.seq (.seq (.reg r45_4) (.cond (.tmp 13) .skip (.exit 0))) (.seq (.block 1 (.seq (.reg r45_5) (.seq (.seq (.reg r45_6) (.block 2 (.loop l45_11))) (.seq (.reg r45_12) (.seq (.reg r45_13) (.cond (.tmp 63) (.seq (.reg r45_14) .ret) .skip)))))) (.reg r45_15)))
def r45_17 : List Co := [
  ⟨some 2, .assign (.const (.int .i64 0)), none, false, false, []⟩]
/-- wireglass/wireglassref20.asked -/
def c45 : Cc := (.seq (.reg r45_0) (.seq (.seq (.reg r45_1) (.cond (.tmp 9) (.seq (.reg r45_2) .ret) .skip)) (.seq (.seq (.reg r45_3) (.block 0 (.loop l45_16))) (.seq (.reg r45_17) .ret))))
def r46_0 : List Co := [
  ⟨some 1, .box 80 (.tmp 0), none, false, false, []⟩,
  ⟨some 2, .alloc 81, none, false, false, []⟩]
def r46_1 : List Co := [
  ⟨some 3, .fieldAddr 80 (.tmp 1) 0, none, false, false, []⟩,
  ⟨some 4, .load 3 (.tmp 3), none, false, false, []⟩,
  ⟨some 5, .fieldAddr 80 (.tmp 1) 1, none, false, false, []⟩,
  ⟨some 6, .load 3 (.tmp 5), none, false, false, []⟩,
  ⟨some 7, .fieldAddr 80 (.tmp 1) 2, none, false, false, []⟩,
  ⟨some 8, .load 3 (.tmp 7), none, false, false, []⟩,
  ⟨some 9, .fieldAddr 80 (.tmp 1) 3, none, false, false, []⟩,
  ⟨some 10, .load 3 (.tmp 9), none, false, false, []⟩,
  ⟨some 11, .fieldAddr 80 (.tmp 1) 4, none, false, false, []⟩,
  ⟨some 12, .load 3 (.tmp 11), none, false, false, []⟩,
  ⟨some 13, .build 81 #[(0, (.tmp 4)), (1, (.tmp 6)), (2, (.tmp 8)), (3, (.tmp 10)), (4, (.tmp 12))], none, false, false, []⟩,
  ⟨none, .store 81 (.tmp 2) (.tmp 13), none, false, false, []⟩]
/-- wireglass/wireglassref20.key -/
def c46 : Cc := (.seq (.reg r46_0) (.seq (.reg r46_1) .ret))
def r51_0 : List Co := [
  ⟨some 4, .assign (.const (.int .i64 0)), none, false, false, []⟩]
def r51_1 : List Co := [
  ⟨some 7, .move (.tmp 0), none, false, false, []⟩,
  ⟨some 8, .call ⟨.value (.func 74), #[(.tmp 7)], #[3]⟩, none, false, false, []⟩,
  ⟨some 5, .assign (.tmp 8), none, false, false, []⟩]
def r51_2 : List Co := [
  ⟨some 9, .move (.tmp 1), none, false, false, []⟩,
  ⟨some 10, .call ⟨.value (.func 74), #[(.tmp 9)], #[3]⟩, none, false, false, []⟩,
  ⟨some 6, .assign (.tmp 10), none, false, false, []⟩]
def r51_3 : List Co := [
  ⟨some 11, .move (.tmp 5), none, false, false, []⟩]
def r51_4 : List Co := [
  ⟨some 12, .move (.tmp 6), none, false, false, []⟩]
def r51_5 : List Co := [
  ⟨some 4, .assign (.const (.int .i64 0)), none, false, false, []⟩]
def r51_6 : List Co := [
  ⟨some 4, .assign (.const (.int .i64 (-1))), none, false, false, []⟩]
def r51_7 : List Co := [
  ⟨some 13, .move (.tmp 6), none, false, false, []⟩]
def r51_8 : List Co := [
  ⟨some 4, .assign (.const (.int .i64 1)), none, false, false, []⟩]
def r51_9 : List Co := [
  ⟨some 14, .move (.tmp 0), none, false, false, []⟩,
  ⟨some 15, .move (.tmp 1), none, false, false, []⟩,
  ⟨some 16, .binOp .lss 3 (.tmp 14) (.tmp 15) 3, none, false, false, []⟩]
def r51_10 : List Co := [
  ⟨some 4, .assign (.const (.int .i64 (-1))), none, false, false, []⟩]
def r51_11 : List Co := [
  ⟨some 17, .move (.tmp 0), none, false, false, []⟩,
  ⟨some 18, .move (.tmp 1), none, false, false, []⟩,
  ⟨some 19, .binOp .gtr 3 (.tmp 17) (.tmp 18) 3, none, false, false, []⟩]
def r51_12 : List Co := [
  ⟨some 4, .assign (.const (.int .i64 1)), none, false, false, []⟩]
def r51_13 : List Co := [
  ⟨some 4, .assign (.const (.int .i64 0)), none, false, false, []⟩]
/-- cmp.Compare[int] -/
def c51 : Cc := (.seq (.reg r51_0) (.seq (.reg r51_1) (.seq (.reg r51_2) (.seq (.seq (.reg r51_3) (.cond (.tmp 11) (.seq (.seq (.reg r51_4) (.cond (.tmp 12) (.seq (.reg r51_5) .ret) .skip)) (.seq (.reg r51_6) .ret)) .skip)) (.seq (.seq (.reg r51_7) (.cond (.tmp 13) (.seq (.reg r51_8) .ret) .skip)) (.seq (.seq (.reg r51_9) (.cond (.tmp 16) (.seq (.reg r51_10) .ret) .skip)) (.seq (.seq (.reg r51_11) (.cond (.tmp 19) (.seq (.reg r51_12) .ret) .skip)) (.seq (.reg r51_13) .ret))))))))
def r58_0 : List Co := [
  ⟨some 2, .assign (.const (.int .i64 0)), none, false, false, []⟩]
def r58_1 : List Co := [
  ⟨some 3, .assign (.const (.int .i64 0)), none, false, false, []⟩]
def r58_2 : List Co := [
  ⟨some 6, .move (.tmp 0), none, false, false, []⟩,
  ⟨some 7, .call ⟨.builtin .len, #[(.tmp 6)], #[22]⟩, none, false, false, []⟩,
  ⟨some 8, .move (.const (.int .i64 0)), none, false, false, []⟩]
def r58_3 : List Co := [
  ⟨some 9, .binOp .lss 3 (.tmp 8) (.tmp 7) 3, none, false, false, []⟩]
def r58_4 : List Co := [
  ⟨some 10, .indexAddr 22 (.tmp 6) (.tmp 8), none, false, false, []⟩,
  ⟨some 11, .load 3 (.tmp 10), none, false, false, []⟩,
  ⟨some 5, .assign (.tmp 11), none, false, false, []⟩]
def r58_5 : List Co := [
  ⟨some 12, .move (.tmp 5), none, false, false, []⟩,
  ⟨some 13, .move (.tmp 3), none, false, false, []⟩,
  ⟨some 14, .binOp .neq 3 (.tmp 12) (.tmp 13) 3, none, false, false, []⟩]
def r58_6 : List Co := [
  ⟨some 15, .move (.tmp 5), none, false, false, []⟩,
  ⟨some 2, .assign (.tmp 15), none, false, false, []⟩]
def r58_7 : List Co := [
  ⟨some 16, .binOp .add 3 (.tmp 8) (.const (.int .i64 1)) 3, none, false, false, []⟩,
  ⟨some 8, .move (.tmp 16), none, false, false, []⟩]
def l58_8 : Cc := (.seq (.reg r58_3) (.seq (.cond (.tmp 9) .skip (.exit 0)) (.seq (.block 1 (.seq (.reg r58_4) (.seq (.reg r58_5) (.cond (.tmp 14) (.seq (.reg r58_6) .ret) .skip)))) (.reg r58_7))))
def r58_9 : List Co := [
  ⟨some 17, .move (.tmp 3), none, false, false, []⟩,
  ⟨some 2, .assign (.tmp 17), none, false, false, []⟩]
/-- cmp.Or[int] -/
def c58 : Cc := (.seq (.reg r58_0) (.seq (.reg r58_1) (.seq (.seq (.reg r58_2) (.block 0 (.loop l58_8))) (.seq (.reg r58_9) .ret))))
def r70_0 : List Co := [
  ⟨some 3, .box 129 (.tmp 1), none, false, false, []⟩,
  ⟨some 4, .assign (.const (.bool false)), none, false, false, []⟩]
def r70_1 : List Co := [
  ⟨some 5, .move (.tmp 0), none, false, false, []⟩,
  ⟨some 6, .makeFunc (.func 88) #[] #[(.tmp 3)], none, false, false, []⟩,
  ⟨some 7, .call ⟨.value (.func 87), #[(.tmp 5), (.tmp 6)], #[22, 129]⟩, none, false, false, []⟩,
  ⟨some 4, .assign (.tmp 7), none, false, false, []⟩]
/-- wireglass/conv.wrong[int] -/
def c70 : Cc := (.seq (.reg r70_0) (.seq (.reg r70_1) .ret))
def r71_0 : List Co := [
  ⟨some 2, .assign (.const (.bool false)), none, false, false, []⟩]
def r71_1 : List Co := [
  ⟨some 3, .move (.tmp 0), none, false, false, []⟩,
  ⟨some 4, .call ⟨.value (.func 33), #[(.tmp 3), (.const (.int .i64 4503599627370496))], #[3, 3]⟩, none, false, false, []⟩,
  ⟨some 2, .assign (.tmp 4), none, false, false, []⟩]
/-- wireglass/conv.isSum$1 -/
def c71 : Cc := (.seq (.reg r71_0) (.seq (.reg r71_1) .ret))
def r72_0 : List Co := [
  ⟨some 1, .box 80 (.tmp 0), none, false, false, []⟩,
  ⟨some 2, .assign (.const (.slice none 0 0)), none, false, false, []⟩]
def r72_1 : List Co := [
  ⟨some 3, .fieldAddr 80 (.tmp 1) 0, none, false, false, []⟩,
  ⟨some 4, .load 3 (.tmp 3), none, false, false, []⟩,
  ⟨some 5, .fieldAddr 80 (.tmp 1) 1, none, false, false, []⟩,
  ⟨some 6, .load 3 (.tmp 5), none, false, false, []⟩,
  ⟨some 7, .fieldAddr 80 (.tmp 1) 2, none, false, false, []⟩,
  ⟨some 8, .load 3 (.tmp 7), none, false, false, []⟩,
  ⟨some 9, .fieldAddr 80 (.tmp 1) 3, none, false, false, []⟩,
  ⟨some 10, .load 3 (.tmp 9), none, false, false, []⟩,
  ⟨some 11, .fieldAddr 80 (.tmp 1) 4, none, false, false, []⟩,
  ⟨some 12, .load 3 (.tmp 11), none, false, false, []⟩,
  ⟨some 13, .fieldAddr 80 (.tmp 1) 5, none, false, false, []⟩,
  ⟨some 14, .load 3 (.tmp 13), none, false, false, []⟩,
  ⟨some 15, .fieldAddr 80 (.tmp 1) 6, none, false, false, []⟩,
  ⟨some 16, .load 3 (.tmp 15), none, false, false, []⟩,
  ⟨some 17, .fieldAddr 80 (.tmp 1) 7, none, false, false, []⟩,
  ⟨some 18, .load 3 (.tmp 17), none, false, false, []⟩,
  ⟨some 19, .fieldAddr 80 (.tmp 1) 8, none, false, false, []⟩,
  ⟨some 20, .load 3 (.tmp 19), none, false, false, []⟩,
  ⟨some 21, .fieldAddr 80 (.tmp 1) 9, none, false, false, []⟩,
  ⟨some 22, .load 3 (.tmp 21), none, false, false, []⟩,
  ⟨some 23, .fieldAddr 80 (.tmp 1) 10, none, false, false, []⟩,
  ⟨some 24, .load 3 (.tmp 23), none, false, false, []⟩,
  ⟨some 25, .buildSlice 22 11 #[(0, (.tmp 4)), (1, (.tmp 6)), (2, (.tmp 8)), (3, (.tmp 10)), (4, (.tmp 12)), (5, (.tmp 14)), (6, (.tmp 16)), (7, (.tmp 18)), (8, (.tmp 20)), (9, (.tmp 22)), (10, (.tmp 24))], none, false, false, []⟩,
  ⟨some 2, .assign (.tmp 25), none, false, false, []⟩]
/-- wireglass/wireglassref20.numbers -/
def c72 : Cc := (.seq (.reg r72_0) (.seq (.reg r72_1) .ret))
def r74_0 : List Co := [
  ⟨some 2, .assign (.const (.bool false)), none, false, false, []⟩]
def r74_1 : List Co := [
  ⟨some 3, .move (.tmp 0), none, false, false, []⟩,
  ⟨some 4, .move (.tmp 0), none, false, false, []⟩,
  ⟨some 5, .binOp .neq 3 (.tmp 3) (.tmp 4) 3, none, false, false, []⟩,
  ⟨some 2, .assign (.tmp 5), none, false, false, []⟩]
/-- cmp.isNaN[int] -/
def c74 : Cc := (.seq (.reg r74_0) (.seq (.reg r74_1) .ret))
def r87_0 : List Co := [
  ⟨some 4, .assign (.const (.bool false)), none, false, false, []⟩]
def r87_1 : List Co := [
  ⟨some 5, .move (.tmp 0), none, false, false, []⟩,
  ⟨some 6, .move (.tmp 1), none, false, false, []⟩,
  ⟨some 7, .call ⟨.value (.func 106), #[(.tmp 5), (.tmp 6)], #[22, 129]⟩, none, false, false, []⟩,
  ⟨some 8, .binOp .geq 3 (.tmp 7) (.const (.int .i64 0)) 3, none, false, false, []⟩,
  ⟨some 4, .assign (.tmp 8), none, false, false, []⟩]
/-- slices.ContainsFunc[[]int,int] -/
def c87 : Cc := (.seq (.reg r87_0) (.seq (.reg r87_1) .ret))
def r88_0 : List Co := [
  ⟨some 3, .assign (.const (.bool false)), none, false, false, []⟩]
def r88_1 : List Co := [
  ⟨some 4, .load 129 (.tmp 1), none, false, false, []⟩,
  ⟨some 5, .move (.tmp 0), none, false, false, []⟩,
  ⟨some 6, .call ⟨.value (.tmp 4), #[(.tmp 5)], #[3]⟩, none, false, false, []⟩,
  ⟨some 7, .unOp .not 4 (.tmp 6), none, false, false, []⟩,
  ⟨some 3, .assign (.tmp 7), none, false, false, []⟩]
/-- wireglass/conv.wrong[int]$1 -/
def c88 : Cc := (.seq (.reg r88_0) (.seq (.reg r88_1) .ret))
def r106_0 : List Co := [
  ⟨some 4, .assign (.const (.int .i64 0)), none, false, false, []⟩]
def r106_1 : List Co := [
  ⟨some 6, .move (.tmp 0), none, false, false, []⟩,
  ⟨some 7, .call ⟨.builtin .len, #[(.tmp 6)], #[22]⟩, none, false, false, []⟩,
  ⟨some 8, .move (.const (.int .i64 0)), none, false, false, []⟩]
def r106_2 : List Co := [
  ⟨some 9, .binOp .lss 3 (.tmp 8) (.tmp 7) 3, none, false, false, []⟩]
def r106_3 : List Co := [
  ⟨some 10, .move (.tmp 8), none, false, false, []⟩,
  ⟨some 5, .assign (.tmp 10), none, false, false, []⟩]
def r106_4 : List Co := [
  ⟨some 11, .move (.tmp 1), none, false, false, []⟩,
  ⟨some 12, .move (.tmp 0), none, false, false, []⟩,
  ⟨some 13, .move (.tmp 5), none, false, false, []⟩,
  ⟨some 14, .indexAddr 22 (.tmp 12) (.tmp 13), none, false, false, []⟩,
  ⟨some 15, .load 3 (.tmp 14), none, false, false, []⟩,
  ⟨some 16, .call ⟨.value (.tmp 11), #[(.tmp 15)], #[3]⟩, none, false, false, []⟩]
def r106_5 : List Co := [
  ⟨some 17, .move (.tmp 5), none, false, false, []⟩,
  ⟨some 4, .assign (.tmp 17), none, false, false, []⟩]
def r106_6 : List Co := [
  ⟨some 18, .binOp .add 3 (.tmp 8) (.const (.int .i64 1)) 3, none, false, false, []⟩,
  ⟨some 8, .move (.tmp 18), none, false, false, []⟩]
def l106_7 : Cc := (.seq (.reg r106_2) (.seq (.cond (.tmp 9) .skip (.exit 0)) (.seq (.block 1 (.seq (.reg r106_3) (.seq (.reg r106_4) (.cond (.tmp 16) (.seq (.reg r106_5) .ret) .skip)))) (.reg r106_6))))
def r106_8 : List Co := [
  ⟨some 4, .assign (.const (.int .i64 (-1))), none, false, false, []⟩]
/-- slices.IndexFunc[[]int,int] -/
def c106 : Cc := (.seq (.reg r106_0) (.seq (.seq (.reg r106_1) (.block 0 (.loop l106_7))) (.seq (.reg r106_8) .ret)))
def rs4 : List ResultVar := [.tmp 6]
set_option maxRecDepth 100000 in
theorem run4 {args : List V} {H : Hp} {R : V → Hp → Prop} (ha : args.length ≤ 91) (h : Wp Try.prog (callL Try.prog pr) 91 c4 args [] H (RetQ Try.prog rs4 R)) : ∃ v H', R v H' ∧ callL Try.prog pr 4 args H = some (gcC H (v, H')) :=
  call_of (fn := Try.f4) rfl Try.func4 rfl (by kernel_rfl) rfl (Nat.max_eq_right ha) h
def rs13 : List ResultVar := [.tmp 2]
set_option maxRecDepth 100000 in
theorem run13 {args : List V} {H : Hp} {R : V → Hp → Prop} (ha : args.length ≤ 19) (h : Wp Try.prog (callL Try.prog pr) 19 c13 args [] H (RetQ Try.prog rs13 R)) : ∃ v H', R v H' ∧ callL Try.prog pr 13 args H = some (gcC H (v, H')) :=
  call_of (fn := Try.f13) rfl Try.func13 rfl (by kernel_rfl) rfl (Nat.max_eq_right ha) h
def rs14 : List ResultVar := [.tmp 4]
set_option maxRecDepth 100000 in
theorem run14 {args : List V} {H : Hp} {R : V → Hp → Prop} (ha : args.length ≤ 119) (h : Wp Try.prog (callL Try.prog pr) 119 c14 args [] H (RetQ Try.prog rs14 R)) : ∃ v H', R v H' ∧ callL Try.prog pr 14 args H = some (gcC H (v, H')) :=
  call_of (fn := Try.f14) rfl Try.func14 rfl (by kernel_rfl) rfl (Nat.max_eq_right ha) h
def rs15 : List ResultVar := [.tmp 2]
set_option maxRecDepth 100000 in
theorem run15 {args : List V} {H : Hp} {R : V → Hp → Prop} (ha : args.length ≤ 107) (h : Wp Try.prog (callL Try.prog pr) 107 c15 args [] H (RetQ Try.prog rs15 R)) : ∃ v H', R v H' ∧ callL Try.prog pr 15 args H = some (gcC H (v, H')) :=
  call_of (fn := Try.f15) rfl Try.func15 rfl (by kernel_rfl) rfl (Nat.max_eq_right ha) h
def rs16 : List ResultVar := [.tmp 4, .tmp 5]
set_option maxRecDepth 100000 in
theorem run16 {args : List V} {H : Hp} {R : V → Hp → Prop} (ha : args.length ≤ 52) (h : Wp Try.prog (callL Try.prog pr) 52 c16 args [] H (RetQ Try.prog rs16 R)) : ∃ v H', R v H' ∧ callL Try.prog pr 16 args H = some (gcC H (v, H')) :=
  call_of (fn := Try.f16) rfl Try.func16 rfl (by kernel_rfl) rfl (Nat.max_eq_right ha) h
def rs17 : List ResultVar := [.tmp 2]
set_option maxRecDepth 100000 in
theorem run17 {args : List V} {H : Hp} {R : V → Hp → Prop} (ha : args.length ≤ 19) (h : Wp Try.prog (callL Try.prog pr) 19 c17 args [] H (RetQ Try.prog rs17 R)) : ∃ v H', R v H' ∧ callL Try.prog pr 17 args H = some (gcC H (v, H')) :=
  call_of (fn := Try.f17) rfl Try.func17 rfl (by kernel_rfl) rfl (Nat.max_eq_right ha) h
def rs18 : List ResultVar := [.tmp 4, .tmp 5]
set_option maxRecDepth 100000 in
theorem run18 {args : List V} {H : Hp} {R : V → Hp → Prop} (ha : args.length ≤ 149) (h : Wp Try.prog (callL Try.prog pr) 149 c18 args [] H (RetQ Try.prog rs18 R)) : ∃ v H', R v H' ∧ callL Try.prog pr 18 args H = some (gcC H (v, H')) :=
  call_of (fn := Try.f18) rfl Try.func18 rfl (by kernel_rfl) rfl (Nat.max_eq_right ha) h
def rs19 : List ResultVar := [.tmp 4]
set_option maxRecDepth 100000 in
theorem run19 {args : List V} {H : Hp} {R : V → Hp → Prop} (ha : args.length ≤ 26) (h : Wp Try.prog (callL Try.prog pr) 26 c19 args [] H (RetQ Try.prog rs19 R)) : ∃ v H', R v H' ∧ callL Try.prog pr 19 args H = some (gcC H (v, H')) :=
  call_of (fn := Try.f19) rfl Try.func19 rfl (by kernel_rfl) rfl (Nat.max_eq_right ha) h
def rs33 : List ResultVar := [.tmp 4]
set_option maxRecDepth 100000 in
theorem run33 {args : List V} {H : Hp} {R : V → Hp → Prop} (ha : args.length ≤ 12) (h : Wp Try.prog (callL Try.prog pr) 12 c33 args [] H (RetQ Try.prog rs33 R)) : ∃ v H', R v H' ∧ callL Try.prog pr 33 args H = some (gcC H (v, H')) :=
  call_of (fn := Try.f33) rfl Try.func33 rfl (by kernel_rfl) rfl (Nat.max_eq_right ha) h
def rs34 : List ResultVar := [.tmp 4]
set_option maxRecDepth 100000 in
theorem run34 {args : List V} {H : Hp} {R : V → Hp → Prop} (ha : args.length ≤ 12) (h : Wp Try.prog (callL Try.prog pr) 12 c34 args [] H (RetQ Try.prog rs34 R)) : ∃ v H', R v H' ∧ callL Try.prog pr 34 args H = some (gcC H (v, H')) :=
  call_of (fn := Try.f34) rfl Try.func34 rfl (by kernel_rfl) rfl (Nat.max_eq_right ha) h
def rs35 : List ResultVar := [.tmp 2]
set_option maxRecDepth 100000 in
theorem run35 {args : List V} {H : Hp} {R : V → Hp → Prop} (ha : args.length ≤ 36) (h : Wp Try.prog (callL Try.prog pr) 36 c35 args [] H (RetQ Try.prog rs35 R)) : ∃ v H', R v H' ∧ callL Try.prog pr 35 args H = some (gcC H (v, H')) :=
  call_of (fn := Try.f35) rfl Try.func35 rfl (by kernel_rfl) rfl (Nat.max_eq_right ha) h
def rs36 : List ResultVar := [.cell 2 81, .tmp 3]
set_option maxRecDepth 100000 in
theorem run36 {args : List V} {H : Hp} {R : V → Hp → Prop} (ha : args.length ≤ 45) (h : Wp Try.prog (callL Try.prog pr) 45 c36 args [] H (RetQ Try.prog rs36 R)) : ∃ v H', R v H' ∧ callL Try.prog pr 36 args H = some (gcC H (v, H')) :=
  call_of (fn := Try.f36) rfl Try.func36 rfl (by kernel_rfl) rfl (Nat.max_eq_right ha) h
def rs37 : List ResultVar := [.tmp 4]
set_option maxRecDepth 100000 in
theorem run37 {args : List V} {H : Hp} {R : V → Hp → Prop} (ha : args.length ≤ 20) (h : Wp Try.prog (callL Try.prog pr) 20 c37 args [] H (RetQ Try.prog rs37 R)) : ∃ v H', R v H' ∧ callL Try.prog pr 37 args H = some (gcC H (v, H')) :=
  call_of (fn := Try.f37) rfl Try.func37 rfl (by kernel_rfl) rfl (Nat.max_eq_right ha) h
def rs38 : List ResultVar := [.tmp 2]
set_option maxRecDepth 100000 in
theorem run38 {args : List V} {H : Hp} {R : V → Hp → Prop} (ha : args.length ≤ 47) (h : Wp Try.prog (callL Try.prog pr) 47 c38 args [] H (RetQ Try.prog rs38 R)) : ∃ v H', R v H' ∧ callL Try.prog pr 38 args H = some (gcC H (v, H')) :=
  call_of (fn := Try.f38) rfl Try.func38 rfl (by kernel_rfl) rfl (Nat.max_eq_right ha) h
def rs39 : List ResultVar := [.tmp 2]
set_option maxRecDepth 100000 in
theorem run39 {args : List V} {H : Hp} {R : V → Hp → Prop} (ha : args.length ≤ 8) (h : Wp Try.prog (callL Try.prog pr) 8 c39 args [] H (RetQ Try.prog rs39 R)) : ∃ v H', R v H' ∧ callL Try.prog pr 39 args H = some (gcC H (v, H')) :=
  call_of (fn := Try.f39) rfl Try.func39 rfl (by kernel_rfl) rfl (Nat.max_eq_right ha) h
def rs40 : List ResultVar := [.tmp 4]
set_option maxRecDepth 100000 in
theorem run40 {args : List V} {H : Hp} {R : V → Hp → Prop} (ha : args.length ≤ 19) (h : Wp Try.prog (callL Try.prog pr) 19 c40 args [] H (RetQ Try.prog rs40 R)) : ∃ v H', R v H' ∧ callL Try.prog pr 40 args H = some (gcC H (v, H')) :=
  call_of (fn := Try.f40) rfl Try.func40 rfl (by kernel_rfl) rfl (Nat.max_eq_right ha) h
def rs41 : List ResultVar := [.tmp 3]
set_option maxRecDepth 100000 in
theorem run41 {args : List V} {H : Hp} {R : V → Hp → Prop} (ha : args.length ≤ 9) (h : Wp Try.prog (callL Try.prog pr) 9 c41 args [] H (RetQ Try.prog rs41 R)) : ∃ v H', R v H' ∧ callL Try.prog pr 41 args H = some (gcC H (v, H')) :=
  call_of (fn := Try.f41) rfl Try.func41 rfl (by kernel_rfl) rfl (Nat.max_eq_right ha) h
def rs42 : List ResultVar := [.cell 2 88]
set_option maxRecDepth 100000 in
theorem run42 {args : List V} {H : Hp} {R : V → Hp → Prop} (ha : args.length ≤ 14) (h : Wp Try.prog (callL Try.prog pr) 14 c42 args [] H (RetQ Try.prog rs42 R)) : ∃ v H', R v H' ∧ callL Try.prog pr 42 args H = some (gcC H (v, H')) :=
  call_of (fn := Try.f42) rfl Try.func42 rfl (by kernel_rfl) rfl (Nat.max_eq_right ha) h
def rs43 : List ResultVar := [.cell 4 50]
set_option maxRecDepth 100000 in
theorem run43 {args : List V} {H : Hp} {R : V → Hp → Prop} (ha : args.length ≤ 42) (h : Wp Try.prog (callL Try.prog pr) 42 c43 args [] H (RetQ Try.prog rs43 R)) : ∃ v H', R v H' ∧ callL Try.prog pr 43 args H = some (gcC H (v, H')) :=
  call_of (fn := Try.f43) rfl Try.func43 rfl (by kernel_rfl) rfl (Nat.max_eq_right ha) h
def rs44 : List ResultVar := [.tmp 2]
set_option maxRecDepth 100000 in
theorem run44 {args : List V} {H : Hp} {R : V → Hp → Prop} (ha : args.length ≤ 45) (h : Wp Try.prog (callL Try.prog pr) 45 c44 args [] H (RetQ Try.prog rs44 R)) : ∃ v H', R v H' ∧ callL Try.prog pr 44 args H = some (gcC H (v, H')) :=
  call_of (fn := Try.f44) rfl Try.func44 rfl (by kernel_rfl) rfl (Nat.max_eq_right ha) h
def rs45 : List ResultVar := [.tmp 2]
set_option maxRecDepth 100000 in
theorem run45 {args : List V} {H : Hp} {R : V → Hp → Prop} (ha : args.length ≤ 64) (h : Wp Try.prog (callL Try.prog pr) 64 c45 args [] H (RetQ Try.prog rs45 R)) : ∃ v H', R v H' ∧ callL Try.prog pr 45 args H = some (gcC H (v, H')) :=
  call_of (fn := Try.f45) rfl Try.func45 rfl (by kernel_rfl) rfl (Nat.max_eq_right ha) h
def rs46 : List ResultVar := [.cell 2 81]
set_option maxRecDepth 100000 in
theorem run46 {args : List V} {H : Hp} {R : V → Hp → Prop} (ha : args.length ≤ 14) (h : Wp Try.prog (callL Try.prog pr) 14 c46 args [] H (RetQ Try.prog rs46 R)) : ∃ v H', R v H' ∧ callL Try.prog pr 46 args H = some (gcC H (v, H')) :=
  call_of (fn := Try.f46) rfl Try.func46 rfl (by kernel_rfl) rfl (Nat.max_eq_right ha) h
def rs51 : List ResultVar := [.tmp 4]
set_option maxRecDepth 100000 in
theorem run51 {args : List V} {H : Hp} {R : V → Hp → Prop} (ha : args.length ≤ 20) (h : Wp Try.prog (callL Try.prog pr) 20 c51 args [] H (RetQ Try.prog rs51 R)) : ∃ v H', R v H' ∧ callL Try.prog pr 51 args H = some (gcC H (v, H')) :=
  call_of (fn := Try.f51) rfl Try.func51 rfl (by kernel_rfl) rfl (Nat.max_eq_right ha) h
def rs58 : List ResultVar := [.tmp 2]
set_option maxRecDepth 100000 in
theorem run58 {args : List V} {H : Hp} {R : V → Hp → Prop} (ha : args.length ≤ 18) (h : Wp Try.prog (callL Try.prog pr) 18 c58 args [] H (RetQ Try.prog rs58 R)) : ∃ v H', R v H' ∧ callL Try.prog pr 58 args H = some (gcC H (v, H')) :=
  call_of (fn := Try.f58) rfl Try.func58 rfl (by kernel_rfl) rfl (Nat.max_eq_right ha) h
def rs70 : List ResultVar := [.tmp 4]
set_option maxRecDepth 100000 in
theorem run70 {args : List V} {H : Hp} {R : V → Hp → Prop} (ha : args.length ≤ 8) (h : Wp Try.prog (callL Try.prog pr) 8 c70 args [] H (RetQ Try.prog rs70 R)) : ∃ v H', R v H' ∧ callL Try.prog pr 70 args H = some (gcC H (v, H')) :=
  call_of (fn := Try.f70) rfl Try.func70 rfl (by kernel_rfl) rfl (Nat.max_eq_right ha) h
def rs71 : List ResultVar := [.tmp 2]
set_option maxRecDepth 100000 in
theorem run71 {args : List V} {H : Hp} {R : V → Hp → Prop} (ha : args.length ≤ 5) (h : Wp Try.prog (callL Try.prog pr) 5 c71 args [] H (RetQ Try.prog rs71 R)) : ∃ v H', R v H' ∧ callL Try.prog pr 71 args H = some (gcC H (v, H')) :=
  call_of (fn := Try.f71) rfl Try.func71 rfl (by kernel_rfl) rfl (Nat.max_eq_right ha) h
def rs72 : List ResultVar := [.tmp 2]
set_option maxRecDepth 100000 in
theorem run72 {args : List V} {H : Hp} {R : V → Hp → Prop} (ha : args.length ≤ 26) (h : Wp Try.prog (callL Try.prog pr) 26 c72 args [] H (RetQ Try.prog rs72 R)) : ∃ v H', R v H' ∧ callL Try.prog pr 72 args H = some (gcC H (v, H')) :=
  call_of (fn := Try.f72) rfl Try.func72 rfl (by kernel_rfl) rfl (Nat.max_eq_right ha) h
def rs74 : List ResultVar := [.tmp 2]
set_option maxRecDepth 100000 in
theorem run74 {args : List V} {H : Hp} {R : V → Hp → Prop} (ha : args.length ≤ 6) (h : Wp Try.prog (callL Try.prog pr) 6 c74 args [] H (RetQ Try.prog rs74 R)) : ∃ v H', R v H' ∧ callL Try.prog pr 74 args H = some (gcC H (v, H')) :=
  call_of (fn := Try.f74) rfl Try.func74 rfl (by kernel_rfl) rfl (Nat.max_eq_right ha) h
def rs87 : List ResultVar := [.tmp 4]
set_option maxRecDepth 100000 in
theorem run87 {args : List V} {H : Hp} {R : V → Hp → Prop} (ha : args.length ≤ 9) (h : Wp Try.prog (callL Try.prog pr) 9 c87 args [] H (RetQ Try.prog rs87 R)) : ∃ v H', R v H' ∧ callL Try.prog pr 87 args H = some (gcC H (v, H')) :=
  call_of (fn := Try.f87) rfl Try.func87 rfl (by kernel_rfl) rfl (Nat.max_eq_right ha) h
def rs88 : List ResultVar := [.tmp 3]
set_option maxRecDepth 100000 in
theorem run88 {args : List V} {H : Hp} {R : V → Hp → Prop} (ha : args.length ≤ 8) (h : Wp Try.prog (callL Try.prog pr) 8 c88 args [] H (RetQ Try.prog rs88 R)) : ∃ v H', R v H' ∧ callL Try.prog pr 88 args H = some (gcC H (v, H')) :=
  call_of (fn := Try.f88) rfl Try.func88 rfl (by kernel_rfl) rfl (Nat.max_eq_right ha) h
def rs106 : List ResultVar := [.tmp 4]
set_option maxRecDepth 100000 in
theorem run106 {args : List V} {H : Hp} {R : V → Hp → Prop} (ha : args.length ≤ 19) (h : Wp Try.prog (callL Try.prog pr) 19 c106 args [] H (RetQ Try.prog rs106 R)) : ∃ v H', R v H' ∧ callL Try.prog pr 106 args H = some (gcC H (v, H')) :=
  call_of (fn := Try.f106) rfl Try.func106 rfl (by kernel_rfl) rfl (Nat.max_eq_right ha) h
end Go.Proofs.Ytdpdlobaabcjjaa
