/-
  What this seat's program gives to the abstract machine: its types, its functions' code in short form (printed by a tool). No statement of the seat stands here.
-/
import Derived.Test.YtdpdlobaabcjjabKnown
import Derived.Test.YtdpdlobaabcjjabAmZF
namespace Go.Proofs.Ytdpdlobaabcjjab
open Go Go.Am

@[go_sem] theorem u3 : Try.prog.underlying 3 = some (.int .i64) := by kernel_rfl
@[go_sem] theorem z3 : szOf Try.prog 3 = some 1 := by kernel_rfl
@[go_sem] theorem y3 : bytesOf' Try.prog 3 = some 8 := by kernel_rfl
@[go_sem] theorem g3 : aggT Try.prog 3 = some false := by kernel_rfl
@[go_sem] theorem o3 : zeroV Try.prog 3 = some (.int .i64 0) := by kernel_rfl
@[go_sem] theorem u4 : Try.prog.underlying 4 = some (.bool) := by kernel_rfl
@[go_sem] theorem z4 : szOf Try.prog 4 = some 1 := by kernel_rfl
@[go_sem] theorem y4 : bytesOf' Try.prog 4 = some 1 := by kernel_rfl
@[go_sem] theorem g4 : aggT Try.prog 4 = some false := by kernel_rfl
@[go_sem] theorem o4 : zeroV Try.prog 4 = some (.bool false) := by kernel_rfl
@[go_sem] theorem u5 : Try.prog.underlying 5 = some (.int .u8) := by kernel_rfl
@[go_sem] theorem z5 : szOf Try.prog 5 = some 1 := by kernel_rfl
@[go_sem] theorem y5 : bytesOf' Try.prog 5 = some 1 := by kernel_rfl
@[go_sem] theorem g5 : aggT Try.prog 5 = some false := by kernel_rfl
@[go_sem] theorem o5 : zeroV Try.prog 5 = some (.int .u8 0) := by kernel_rfl
@[go_sem] theorem u9 : Try.prog.underlying 9 = some (.string) := by kernel_rfl
@[go_sem] theorem z9 : szOf Try.prog 9 = some 1 := by kernel_rfl
@[go_sem] theorem y9 : bytesOf' Try.prog 9 = some 16 := by kernel_rfl
@[go_sem] theorem g9 : aggT Try.prog 9 = some false := by kernel_rfl
@[go_sem] theorem o9 : zeroV Try.prog 9 = some (.str []) := by kernel_rfl
@[go_sem] theorem u22 : Try.prog.underlying 22 = some (.slice 37) := by kernel_rfl
@[go_sem] theorem z22 : szOf Try.prog 22 = some 1 := by kernel_rfl
@[go_sem] theorem y22 : bytesOf' Try.prog 22 = some 24 := by kernel_rfl
@[go_sem] theorem g22 : aggT Try.prog 22 = some false := by kernel_rfl
@[go_sem] theorem o22 : zeroV Try.prog 22 = some .nilslice := by kernel_rfl
theorem s22 : sliceT Try.prog 22 5 = true := by kernel_rfl
@[go_sem] theorem i22 {id g off n : Nat} {cp : Cap} {k : IntKind} {j : Int} (hj : 0 ≤ j ∧ j < n) : indexAddrV Try.prog 22 (.slice id g off n 5 cp) (.int k j) = some (.ptr id g (off + j.toNat * 5)) := ia_slice (by kernel_rfl) hj
@[go_sem] theorem n22 {H : Hp} (id g off n : Nat) (cp : Cap) : lenV Try.prog 22 H (.slice id g off n 5 cp) = some (.int .i64 n) := len_slice (sz := 5) (by kernel_rfl) id g off n 5 cp
@[go_sem] theorem m22 {H : Hp} : lenV Try.prog 22 H .nilslice = some (.int .i64 0) := len_nilslice (sz := 5) (by kernel_rfl)
@[go_sem] theorem u25 : Try.prog.underlying 25 = some (.slice 5) := by kernel_rfl
@[go_sem] theorem z25 : szOf Try.prog 25 = some 1 := by kernel_rfl
@[go_sem] theorem y25 : bytesOf' Try.prog 25 = some 24 := by kernel_rfl
@[go_sem] theorem g25 : aggT Try.prog 25 = some false := by kernel_rfl
@[go_sem] theorem o25 : zeroV Try.prog 25 = some .nilslice := by kernel_rfl
theorem s25 : sliceT Try.prog 25 1 = true := by kernel_rfl
@[go_sem] theorem i25 {id g off n : Nat} {cp : Cap} {k : IntKind} {j : Int} (hj : 0 ≤ j ∧ j < n) : indexAddrV Try.prog 25 (.slice id g off n 1 cp) (.int k j) = some (.ptr id g (off + j.toNat * 1)) := ia_slice (by kernel_rfl) hj
@[go_sem] theorem n25 {H : Hp} (id g off n : Nat) (cp : Cap) : lenV Try.prog 25 H (.slice id g off n 1 cp) = some (.int .i64 n) := len_slice (sz := 1) (by kernel_rfl) id g off n 1 cp
@[go_sem] theorem m25 {H : Hp} : lenV Try.prog 25 H .nilslice = some (.int .i64 0) := len_nilslice (sz := 1) (by kernel_rfl)
@[go_sem] theorem u26 : Try.prog.underlying 26 = some (.int .i64) := by kernel_rfl
@[go_sem] theorem z26 : szOf Try.prog 26 = some 1 := by kernel_rfl
@[go_sem] theorem y26 : bytesOf' Try.prog 26 = some 8 := by kernel_rfl
@[go_sem] theorem g26 : aggT Try.prog 26 = some false := by kernel_rfl
@[go_sem] theorem o26 : zeroV Try.prog 26 = some (.int .i64 0) := by kernel_rfl
@[go_sem] theorem u30 : Try.prog.underlying 30 = some (.slice 39) := by kernel_rfl
@[go_sem] theorem z30 : szOf Try.prog 30 = some 1 := by kernel_rfl
@[go_sem] theorem y30 : bytesOf' Try.prog 30 = some 24 := by kernel_rfl
@[go_sem] theorem g30 : aggT Try.prog 30 = some false := by kernel_rfl
@[go_sem] theorem o30 : zeroV Try.prog 30 = some .nilslice := by kernel_rfl
theorem s30 : sliceT Try.prog 30 2 = true := by kernel_rfl
@[go_sem] theorem i30 {id g off n : Nat} {cp : Cap} {k : IntKind} {j : Int} (hj : 0 ≤ j ∧ j < n) : indexAddrV Try.prog 30 (.slice id g off n 2 cp) (.int k j) = some (.ptr id g (off + j.toNat * 2)) := ia_slice (by kernel_rfl) hj
@[go_sem] theorem n30 {H : Hp} (id g off n : Nat) (cp : Cap) : lenV Try.prog 30 H (.slice id g off n 2 cp) = some (.int .i64 n) := len_slice (sz := 2) (by kernel_rfl) id g off n 2 cp
@[go_sem] theorem m30 {H : Hp} : lenV Try.prog 30 H .nilslice = some (.int .i64 0) := len_nilslice (sz := 2) (by kernel_rfl)
@[go_sem] theorem z37 : szOf Try.prog 37 = some 5 := by kernel_rfl
@[go_sem] theorem y37 : bytesOf' Try.prog 37 = some 56 := by kernel_rfl
@[go_sem] theorem g37 : aggT Try.prog 37 = some true := by kernel_rfl
@[go_sem] theorem o37 : zeroV Try.prog 37 = some (.agg [.int .i64 0, .int .i64 0, .bool false, .nilslice, .int .i64 0]) := by kernel_rfl
@[go_sem] theorem a37 (id g off i : Nat) : fieldAddrV Try.prog 37 (.ptr id g off) i = fieldAt [0, 1, 2, 3, 4] id g off i := fieldAt_eq (by kernel_rfl) id g off i
@[go_sem] theorem p37 (cs : List V) (i : Nat) : fieldV Try.prog 37 (.agg cs) i = fieldOf Try.prog [(3, 0), (3, 1), (4, 2), (25, 3), (3, 4)] cs i := fieldOf_eq (by kernel_rfl) cs i
@[go_sem] theorem h37 (ps : List (Nat × V)) : buildV Try.prog 37 ps = buildOf [.int .i64 0, .int .i64 0, .bool false, .nilslice, .int .i64 0] [(0, 1), (1, 1), (2, 1), (3, 1), (4, 1)] ps := buildOf_eq (by kernel_rfl) (by kernel_rfl) ps
@[go_sem] theorem u39 : Try.prog.underlying 39 = some (.array 2 3) := by kernel_rfl
@[go_sem] theorem z39 : szOf Try.prog 39 = some 2 := by kernel_rfl
@[go_sem] theorem y39 : bytesOf' Try.prog 39 = some 16 := by kernel_rfl
@[go_sem] theorem g39 : aggT Try.prog 39 = some true := by kernel_rfl
@[go_sem] theorem o39 : zeroV Try.prog 39 = some (.agg [.int .i64 0, .int .i64 0]) := by kernel_rfl
@[go_sem] theorem i39 {id g off : Nat} {k : IntKind} {j : Int} (hj : 0 ≤ j ∧ j < (2 : Nat)) : indexAddrV Try.prog 39 (.ptr id g off) (.int k j) = some (.ptr id g (off + j.toNat * 1)) := ia_arr (by kernel_rfl) hj
@[go_sem] theorem z63 : szOf Try.prog 63 = some 1 := by kernel_rfl
@[go_sem] theorem y63 : bytesOf' Try.prog 63 = some 8 := by kernel_rfl
@[go_sem] theorem g63 : aggT Try.prog 63 = some false := by kernel_rfl
@[go_sem] theorem o63 : zeroV Try.prog 63 = some .nilfn := by kernel_rfl
theorem x25_9 : strT Try.prog 25 9 = true := by kernel_rfl
@[go_sem] theorem e39 (xs ys : List V) : binV Try.prog .eql 39 (.agg xs) (.agg ys) = if ckOks [.int .i64, .int .i64] xs = true ∧ ckOks [.int .i64, .int .i64] ys = true then some (.bool (eqCells xs ys)) else none := agg_eq (ks := [.int .i64, .int .i64]) (by kernel_rfl) g39 z39 xs ys
@[go_sem] theorem ne39 (xs ys : List V) : binV Try.prog .neq 39 (.agg xs) (.agg ys) = if ckOks [.int .i64, .int .i64] xs = true ∧ ckOks [.int .i64, .int .i64] ys = true then some (.bool (!eqCells xs ys)) else none := agg_ne (ks := [.int .i64, .int .i64]) (by kernel_rfl) g39 z39 xs ys
@[go_sem] theorem v25a (a b c d e : Nat) (cp : Cap) : binV Try.prog .eql 25 (.slice a b c d e cp) .nilslice = some (.bool false) := (sl_nil (by kernel_rfl) a b c d e cp).1
@[go_sem] theorem v25b (a b c d e : Nat) (cp : Cap) : binV Try.prog .neq 25 (.slice a b c d e cp) .nilslice = some (.bool true) := (sl_nil (by kernel_rfl) a b c d e cp).2.1
@[go_sem] theorem v25c : binV Try.prog .eql 25 .nilslice .nilslice = some (.bool true) := (sl_nil (by kernel_rfl) 0 0 0 0 0 .full).2.2.1
@[go_sem] theorem v25d : binV Try.prog .neq 25 .nilslice .nilslice = some (.bool false) := (sl_nil (by kernel_rfl) 0 0 0 0 0 .full).2.2.2
@[go_sem] theorem w30_30 {H : Hp} (s x : V) : builtinV Try.prog .append #[30, 30] [s, x] H = appOf 2 16 H s x := app_eq (by kernel_rfl) s x
@[go_sem] theorem w22_22 {H : Hp} (s x : V) : builtinV Try.prog .append #[22, 22] [s, x] H = appOf 5 56 H s x := app_eq (by kernel_rfl) s x
@[go_sem] theorem w25_25 {H : Hp} (s x : V) : builtinV Try.prog .append #[25, 25] [s, x] H = appOf 1 1 H s x := app_eq (by kernel_rfl) s x
@[go_sem] theorem bb4e (x y : Bool) : binV Try.prog .eql 4 (.bool x) (.bool y) = some (.bool (x == y)) := b_beql 4 x y u4
@[go_sem] theorem bb4n (x y : Bool) : binV Try.prog .neq 4 (.bool x) (.bool y) = some (.bool (!(x == y))) := b_bneq 4 x y u4
@[go_sem] theorem q22 {H : Hp} (v : V) : buildSliceV Try.prog 22 1 [(0, v)] H = if v.cells.all V.isCell = true ∧ v.cells.length = 5 then some (.slice H.length 0 0 1 5 .full, H ++ [.row 0 v.cells true]) else none := bs_if u22 z37 o37 rfl (by decide) (by decide) v
@[go_sem] theorem q30 {H : Hp} (v : V) : buildSliceV Try.prog 30 1 [(0, v)] H = if v.cells.all V.isCell = true ∧ v.cells.length = 2 then some (.slice H.length 0 0 1 2 .full, H ++ [.row 0 v.cells true]) else none := bs_if u30 z39 o39 rfl (by decide) (by decide) v
@[go_sem] theorem h39 (ps : List (Nat × V)) : buildV Try.prog 39 ps = (fillV (fun i => some (i * 1, 1)) [.int .i64 0, .int .i64 0] ps).map V.agg := buildArr_eq u39 z3 o39 ps
@[go_sem] theorem qz25 {H : Hp} : buildSliceV Try.prog 25 0 [] H = some (.slice H.length 0 0 0 1 .full, H ++ [.row 0 [] true]) := bs_zero u25 z5 o5 rfl (by decide)
def r4_0 : List Co := [
  ⟨some 2, .assign (.const (.bool false)), none, false, false⟩]
def r4_1 : List Co := [
  ⟨some 7, .move (.tmp 0), none, false, false⟩,
  ⟨some 8, .call ⟨.value (.func 10), #[(.tmp 7)], #[22]⟩, none, false, false⟩]
def r4_2 : List Co := [
  ⟨some 9, .call ⟨.value (.func 11), #[], #[]⟩, none, false, false⟩,
  ⟨some 2, .assign (.tmp 9), none, false, false⟩]
def r4_3 : List Co := [
  ⟨some 11, .move (.tmp 0), none, false, false⟩,
  ⟨some 12, .call ⟨.value (.func 14), #[(.tmp 11)], #[22]⟩, none, false, false⟩,
  ⟨some 10, .move (.tmp 12), none, false, false⟩,
  ⟨some 13, .extract (.tmp 10) 0, none, false, false⟩,
  ⟨some 14, .extract (.tmp 10) 1, none, false, false⟩,
  ⟨some 3, .assign (.tmp 13), none, false, false⟩,
  ⟨some 4, .assign (.tmp 14), none, false, false⟩]
def r4_4 : List Co := [
  ⟨some 16, .move (.tmp 0), none, false, false⟩,
  ⟨some 17, .call ⟨.value (.func 15), #[(.tmp 16)], #[22]⟩, none, false, false⟩,
  ⟨some 15, .move (.tmp 17), none, false, false⟩,
  ⟨some 18, .extract (.tmp 15) 0, none, false, false⟩,
  ⟨some 19, .extract (.tmp 15) 1, none, false, false⟩,
  ⟨some 5, .assign (.tmp 18), none, false, false⟩,
  ⟨some 6, .assign (.tmp 19), none, false, false⟩]
def r4_5 : List Co := [
  ⟨some 20, .move (.tmp 3), none, false, false⟩,
  ⟨some 21, .move (.tmp 5), none, false, false⟩,
  ⟨some 22, .call ⟨.value (.func 16), #[(.tmp 20), (.tmp 21)], #[30, 30]⟩, none, false, false⟩,
  ⟨some 23, .move (.tmp 22), none, false, false⟩,
  ⟨some 24, .move (.tmp 4), some (23, true), false, false⟩,
  ⟨some 25, .move (.tmp 6), some (23, true), false, false⟩,
  ⟨some 26, .binOp .eql 26 (.tmp 24) (.tmp 25) 26, some (23, true), false, false⟩,
  ⟨some 27, .pick (.tmp 23) (.tmp 26) (.const (.bool false)), none, false, false⟩,
  ⟨some 28, .move (.tmp 27), none, false, false⟩,
  ⟨some 29, .call ⟨.value (.func 11), #[], #[]⟩, some (28, true), false, false⟩,
  ⟨some 30, .pick (.tmp 28) (.tmp 29) (.const (.bool false)), none, false, false⟩,
  ⟨some 2, .assign (.tmp 30), none, false, false⟩]
/-- wireglass/wireglasslaw18.FragOverlaps -/
def c4 : Cc := (.seq (.reg r4_0) (.seq (.seq (.reg r4_1) (.cond (.tmp 8) (.seq (.reg r4_2) .ret) .skip)) (.seq (.reg r4_3) (.seq (.reg r4_4) (.seq (.reg r4_5) .ret)))))
def r6_0 : List Co := [
  ⟨some 5, .box 39 (.tmp 2), none, false, false⟩,
  ⟨some 6, .assign (.const (.bool false)), none, false, false⟩]
def r6_1 : List Co := [
  ⟨some 14, .move (.tmp 1), none, false, false⟩,
  ⟨some 15, .call ⟨.builtin .len, #[(.tmp 14)], #[25]⟩, none, false, false⟩,
  ⟨some 16, .binOp .gtr 3 (.tmp 15) (.const (.int .i64 32768)) 3, none, false, false⟩]
def r6_2 : List Co := [
  ⟨some 17, .call ⟨.value (.func 11), #[], #[]⟩, none, false, false⟩,
  ⟨some 6, .assign (.tmp 17), none, false, false⟩]
def r6_3 : List Co := [
  ⟨some 19, .move (.tmp 0), none, false, false⟩,
  ⟨some 20, .move (.tmp 1), none, false, false⟩,
  ⟨some 21, .indexAddr 39 (.tmp 5) (.const (.int .i64 0)), none, false, false⟩,
  ⟨some 22, .load 3 (.tmp 21), none, false, false⟩,
  ⟨some 23, .indexAddr 39 (.tmp 5) (.const (.int .i64 1)), none, false, false⟩,
  ⟨some 24, .load 3 (.tmp 23), none, false, false⟩,
  ⟨some 25, .call ⟨.value (.func 18), #[(.tmp 19), (.tmp 20), (.tmp 22), (.tmp 24)], #[3, 25, 3, 3]⟩, none, false, false⟩,
  ⟨some 18, .move (.tmp 25), none, false, false⟩,
  ⟨some 26, .extract (.tmp 18) 0, none, false, false⟩,
  ⟨some 27, .extract (.tmp 18) 1, none, false, false⟩,
  ⟨some 7, .assign (.tmp 26), none, false, false⟩,
  ⟨some 8, .assign (.tmp 27), none, false, false⟩]
def r6_4 : List Co := [
  ⟨some 29, .move (.tmp 0), none, false, false⟩,
  ⟨some 30, .move (.tmp 1), none, false, false⟩,
  ⟨some 31, .indexAddr 39 (.tmp 5) (.const (.int .i64 0)), none, false, false⟩,
  ⟨some 32, .load 3 (.tmp 31), none, false, false⟩,
  ⟨some 33, .indexAddr 39 (.tmp 5) (.const (.int .i64 1)), none, false, false⟩,
  ⟨some 34, .load 3 (.tmp 33), none, false, false⟩,
  ⟨some 35, .call ⟨.value (.func 19), #[(.tmp 29), (.tmp 30), (.tmp 32), (.tmp 34)], #[3, 25, 3, 3]⟩, none, false, false⟩,
  ⟨some 28, .move (.tmp 35), none, false, false⟩,
  ⟨some 36, .extract (.tmp 28) 0, none, false, false⟩,
  ⟨some 37, .extract (.tmp 28) 1, none, false, false⟩,
  ⟨some 9, .assign (.tmp 36), none, false, false⟩,
  ⟨some 10, .assign (.tmp 37), none, false, false⟩]
def r6_5 : List Co := [
  ⟨some 38, .move (.tmp 7), none, false, false⟩,
  ⟨some 39, .call ⟨.builtin .len, #[(.tmp 38)], #[22]⟩, none, false, false⟩,
  ⟨some 40, .move (.tmp 9), none, false, false⟩,
  ⟨some 41, .call ⟨.builtin .len, #[(.tmp 40)], #[22]⟩, none, false, false⟩,
  ⟨some 42, .binOp .neq 3 (.tmp 39) (.tmp 41) 3, none, false, false⟩,
  ⟨some 43, .move (.tmp 42), none, false, false⟩,
  ⟨some 44, .move (.tmp 8), some (43, false), false, false⟩,
  ⟨some 45, .move (.tmp 10), some (43, false), false, false⟩,
  ⟨some 46, .binOp .neq 26 (.tmp 44) (.tmp 45) 26, some (43, false), false, false⟩,
  ⟨some 47, .pick (.tmp 43) (.const (.bool true)) (.tmp 46), none, false, false⟩]
def r6_6 : List Co := [
  ⟨some 6, .assign (.const (.bool false)), none, false, false⟩]
def r6_7 : List Co := [
  ⟨some 11, .assign (.const (.int .i64 0)), none, false, false⟩]
def r6_8 : List Co := [
  ⟨some 48, .move (.tmp 11), none, false, false⟩,
  ⟨some 49, .move (.tmp 7), none, false, false⟩,
  ⟨some 50, .call ⟨.builtin .len, #[(.tmp 49)], #[22]⟩, none, false, false⟩,
  ⟨some 51, .binOp .lss 3 (.tmp 48) (.tmp 50) 3, none, false, false⟩]
def r6_9 : List Co := [
  ⟨some 54, .move (.tmp 7), none, false, false⟩,
  ⟨some 55, .move (.tmp 11), none, false, false⟩,
  ⟨some 56, .indexAddr 22 (.tmp 54) (.tmp 55), none, false, false⟩,
  ⟨some 57, .load 37 (.tmp 56), none, false, false⟩,
  ⟨some 58, .move (.tmp 9), none, false, false⟩,
  ⟨some 59, .move (.tmp 11), none, false, false⟩,
  ⟨some 60, .indexAddr 22 (.tmp 58) (.tmp 59), none, false, false⟩,
  ⟨some 61, .load 37 (.tmp 60), none, true, true⟩,
  ⟨some 12, .alloc 37, none, true, false⟩,
  ⟨some 13, .alloc 37, none, true, false⟩,
  ⟨none, .store 37 (.tmp 12) (.tmp 57), none, true, false⟩,
  ⟨none, .store 37 (.tmp 13) (.tmp 61), none, false, false⟩]
def r6_10 : List Co := [
  ⟨some 62, .fieldAddr 37 (.tmp 12) 0, none, false, false⟩,
  ⟨some 63, .load 3 (.tmp 62), none, false, false⟩,
  ⟨some 64, .fieldAddr 37 (.tmp 13) 0, none, false, false⟩,
  ⟨some 65, .load 3 (.tmp 64), none, false, false⟩,
  ⟨some 66, .binOp .neq 3 (.tmp 63) (.tmp 65) 3, none, false, false⟩,
  ⟨some 67, .move (.tmp 66), none, false, false⟩,
  ⟨some 68, .fieldAddr 37 (.tmp 12) 1, some (67, false), false, false⟩,
  ⟨some 69, .load 3 (.tmp 68), some (67, false), false, false⟩,
  ⟨some 70, .fieldAddr 37 (.tmp 13) 1, some (67, false), false, false⟩,
  ⟨some 71, .load 3 (.tmp 70), some (67, false), false, false⟩,
  ⟨some 72, .binOp .neq 3 (.tmp 69) (.tmp 71) 3, some (67, false), false, false⟩,
  ⟨some 73, .pick (.tmp 67) (.const (.bool true)) (.tmp 72), none, false, false⟩,
  ⟨some 74, .move (.tmp 73), none, false, false⟩,
  ⟨some 75, .fieldAddr 37 (.tmp 12) 2, some (74, false), false, false⟩,
  ⟨some 76, .load 4 (.tmp 75), some (74, false), false, false⟩,
  ⟨some 77, .fieldAddr 37 (.tmp 13) 2, some (74, false), false, false⟩,
  ⟨some 78, .load 4 (.tmp 77), some (74, false), false, false⟩,
  ⟨some 79, .binOp .neq 4 (.tmp 76) (.tmp 78) 4, some (74, false), false, false⟩,
  ⟨some 80, .pick (.tmp 74) (.const (.bool true)) (.tmp 79), none, false, false⟩,
  ⟨some 81, .move (.tmp 80), none, false, false⟩,
  ⟨some 82, .fieldAddr 37 (.tmp 12) 4, some (81, false), false, false⟩,
  ⟨some 83, .load 3 (.tmp 82), some (81, false), false, false⟩,
  ⟨some 84, .fieldAddr 37 (.tmp 13) 4, some (81, false), false, false⟩,
  ⟨some 85, .load 3 (.tmp 84), some (81, false), false, false⟩,
  ⟨some 86, .binOp .neq 3 (.tmp 83) (.tmp 85) 3, some (81, false), false, false⟩,
  ⟨some 87, .pick (.tmp 81) (.const (.bool true)) (.tmp 86), none, false, false⟩,
  ⟨some 88, .move (.tmp 87), none, false, false⟩,
  ⟨some 89, .fieldAddr 37 (.tmp 12) 3, some (88, false), false, false⟩,
  ⟨some 90, .load 25 (.tmp 89), some (88, false), false, false⟩,
  ⟨some 91, .convert 25 9 (.tmp 90), some (88, false), false, false⟩,
  ⟨some 92, .fieldAddr 37 (.tmp 13) 3, some (88, false), false, false⟩,
  ⟨some 93, .load 25 (.tmp 92), some (88, false), false, false⟩,
  ⟨some 94, .convert 25 9 (.tmp 93), some (88, false), false, false⟩,
  ⟨some 95, .binOp .neq 9 (.tmp 91) (.tmp 94) 9, some (88, false), false, false⟩,
  ⟨some 96, .pick (.tmp 88) (.const (.bool true)) (.tmp 95), none, false, false⟩]
def r6_11 : List Co := [
  ⟨some 6, .assign (.const (.bool false)), none, false, false⟩]
def r6_12 : List Co := [
  ⟨some 52, .move (.tmp 11), none, false, false⟩,
  ⟨some 53, .binOp .add 3 (.tmp 52) (.const (.int .i64 1)) 3, none, false, false⟩,
  ⟨some 11, .assign (.tmp 53), none, false, false⟩]
def l6_13 : Cc := (.seq (.seq (.reg r6_8) (.cond (.tmp 51) .skip (.exit 0))) (.seq (.block 1 (.seq (.reg r6_9) (.seq (.reg r6_10) (.cond (.tmp 96) (.seq (.reg r6_11) .ret) .skip)))) (.reg r6_12)))
def r6_14 : List Co := [
  ⟨some 97, .call ⟨.value (.func 11), #[], #[]⟩, none, false, false⟩,
  ⟨some 6, .assign (.tmp 97), none, false, false⟩]
/-- wireglass/wireglasslaw18.FragCuts -/
def c6 : Cc := (.seq (.reg r6_0) (.seq (.seq (.reg r6_1) (.cond (.tmp 16) (.seq (.reg r6_2) .ret) .skip)) (.seq (.reg r6_3) (.seq (.reg r6_4) (.seq (.seq (.reg r6_5) (.cond (.tmp 47) (.seq (.reg r6_6) .ret) .skip)) (.seq (.seq (.reg r6_7) (.block 0 (.loop l6_13))) (.seq (.reg r6_14) .ret)))))))
def r10_0 : List Co := [
  ⟨some 2, .assign (.const (.bool false)), none, false, false⟩]
def r10_1 : List Co := [
  ⟨some 5, .move (.tmp 0), none, false, false⟩,
  ⟨some 6, .call ⟨.builtin .len, #[(.tmp 5)], #[22]⟩, none, false, false⟩,
  ⟨some 7, .binOp .mul 3 (.const (.int .i64 4)) (.tmp 6) 3, none, false, false⟩,
  ⟨some 3, .assign (.tmp 7), none, false, false⟩]
def r10_2 : List Co := [
  ⟨some 4, .assign (.const (.int .i64 0)), none, false, false⟩]
def r10_3 : List Co := [
  ⟨some 8, .move (.tmp 4), none, false, false⟩,
  ⟨some 9, .move (.tmp 0), none, false, false⟩,
  ⟨some 10, .call ⟨.builtin .len, #[(.tmp 9)], #[22]⟩, none, false, false⟩,
  ⟨some 11, .binOp .lss 3 (.tmp 8) (.tmp 10) 3, none, false, false⟩]
def r10_4 : List Co := [
  ⟨some 14, .move (.tmp 3), none, false, false⟩,
  ⟨some 15, .move (.tmp 0), none, false, false⟩,
  ⟨some 16, .move (.tmp 4), none, false, false⟩,
  ⟨some 17, .indexAddr 22 (.tmp 15) (.tmp 16), none, false, false⟩,
  ⟨some 18, .fieldAddr 37 (.tmp 17) 3, none, false, false⟩,
  ⟨some 19, .load 25 (.tmp 18), none, false, false⟩,
  ⟨some 20, .call ⟨.builtin .len, #[(.tmp 19)], #[25]⟩, none, false, false⟩,
  ⟨some 21, .binOp .add 3 (.tmp 14) (.tmp 20) 3, none, false, false⟩,
  ⟨some 3, .assign (.tmp 21), none, false, false⟩]
def r10_5 : List Co := [
  ⟨some 12, .move (.tmp 4), none, false, false⟩,
  ⟨some 13, .binOp .add 3 (.tmp 12) (.const (.int .i64 1)) 3, none, false, false⟩,
  ⟨some 4, .assign (.tmp 13), none, false, false⟩]
def l10_6 : Cc := (.seq (.seq (.reg r10_3) (.cond (.tmp 11) .skip (.exit 0))) (.seq (.block 1 (.reg r10_4)) (.reg r10_5)))
def r10_7 : List Co := [
  ⟨some 22, .move (.tmp 3), none, false, false⟩,
  ⟨some 23, .binOp .gtr 3 (.tmp 22) (.const (.int .i64 32768)) 3, none, false, false⟩,
  ⟨some 2, .assign (.tmp 23), none, false, false⟩]
/-- wireglass/wireglasslaw18.over -/
def c10 : Cc := (.seq (.reg r10_0) (.seq (.reg r10_1) (.seq (.seq (.reg r10_2) (.block 0 (.loop l10_6))) (.seq (.reg r10_7) .ret))))
def r14_0 : List Co := [
  ⟨some 2, .assign (.const (.slice none 0 0)), none, false, false⟩,
  ⟨some 3, .assign (.const (.int .i64 0)), none, false, false⟩]
def r14_1 : List Co := [
  ⟨some 9, .move (.tmp 0), none, false, false⟩,
  ⟨some 10, .call ⟨.value (.func 29), #[(.tmp 9), (.func 33)], #[22, 63]⟩, none, false, false⟩]
def r14_2 : List Co := [
  ⟨some 2, .assign (.const (.slice none 0 0)), none, false, false⟩,
  ⟨some 3, .assign (.const (.int .i64 1)), none, false, false⟩]
def r14_3 : List Co := [
  ⟨some 11, .move (.tmp 0), none, false, false⟩,
  ⟨some 12, .call ⟨.value (.func 29), #[(.tmp 11), (.func 35)], #[22, 63]⟩, none, false, false⟩,
  ⟨some 13, .move (.tmp 12), none, false, false⟩,
  ⟨some 14, .move (.tmp 0), some (13, false), false, false⟩,
  ⟨some 15, .call ⟨.builtin .len, #[(.tmp 14)], #[22]⟩, some (13, false), false, false⟩,
  ⟨some 16, .binOp .gtr 3 (.tmp 15) (.const (.int .i64 200)) 3, some (13, false), false, false⟩,
  ⟨some 17, .pick (.tmp 13) (.const (.bool true)) (.tmp 16), none, false, false⟩]
def r14_4 : List Co := [
  ⟨some 2, .assign (.const (.slice none 0 0)), none, false, false⟩,
  ⟨some 3, .assign (.const (.int .i64 3)), none, false, false⟩]
def r14_5 : List Co := [
  ⟨some 4, .assign (.const (.slice none 0 0)), none, false, false⟩]
def r14_6 : List Co := [
  ⟨some 18, .move (.tmp 0), none, false, false⟩,
  ⟨some 19, .call ⟨.builtin .len, #[(.tmp 18)], #[22]⟩, none, false, false⟩,
  ⟨some 20, .move (.const (.int .i64 0)), none, false, false⟩]
def r14_7 : List Co := [
  ⟨some 21, .binOp .lss 3 (.tmp 20) (.tmp 19) 3, none, false, false⟩]
def r14_8 : List Co := [
  ⟨some 22, .move (.tmp 20), none, false, false⟩,
  ⟨some 23, .indexAddr 22 (.tmp 18) (.tmp 20), none, false, false⟩,
  ⟨some 24, .load 37 (.tmp 23), none, false, false⟩,
  ⟨some 6, .alloc 37, none, false, false⟩,
  ⟨some 5, .assign (.tmp 22), none, false, false⟩,
  ⟨none, .store 37 (.tmp 6) (.tmp 24), none, false, false⟩]
def r14_9 : List Co := [
  ⟨some 25, .move (.tmp 5), none, false, false⟩,
  ⟨some 26, .binOp .add 3 (.tmp 25) (.const (.int .i64 1)) 3, none, false, false⟩,
  ⟨some 7, .assign (.tmp 26), none, false, false⟩]
def r14_10 : List Co := [
  ⟨some 27, .move (.tmp 7), none, false, false⟩,
  ⟨some 28, .move (.tmp 0), none, false, false⟩,
  ⟨some 29, .call ⟨.builtin .len, #[(.tmp 28)], #[22]⟩, none, false, false⟩,
  ⟨some 30, .binOp .lss 3 (.tmp 27) (.tmp 29) 3, none, false, false⟩]
def r14_11 : List Co := [
  ⟨some 33, .move (.tmp 0), none, false, false⟩,
  ⟨some 34, .move (.tmp 7), none, false, false⟩,
  ⟨some 35, .indexAddr 22 (.tmp 33) (.tmp 34), none, false, false⟩,
  ⟨some 36, .load 37 (.tmp 35), none, false, false⟩,
  ⟨some 8, .alloc 37, none, false, false⟩,
  ⟨none, .store 37 (.tmp 8) (.tmp 36), none, false, false⟩]
def r14_12 : List Co := [
  ⟨some 37, .fieldAddr 37 (.tmp 6) 0, none, false, false⟩,
  ⟨some 38, .load 3 (.tmp 37), none, false, false⟩,
  ⟨some 39, .fieldAddr 37 (.tmp 8) 0, none, false, false⟩,
  ⟨some 40, .load 3 (.tmp 39), none, false, false⟩,
  ⟨some 41, .binOp .eql 3 (.tmp 38) (.tmp 40) 3, none, false, false⟩,
  ⟨some 42, .move (.tmp 41), none, false, false⟩,
  ⟨some 43, .fieldAddr 37 (.tmp 6) 1, some (42, true), false, false⟩,
  ⟨some 44, .load 3 (.tmp 43), some (42, true), false, false⟩,
  ⟨some 45, .fieldAddr 37 (.tmp 8) 1, some (42, true), false, false⟩,
  ⟨some 46, .load 3 (.tmp 45), some (42, true), false, false⟩,
  ⟨some 47, .call ⟨.builtin .max, #[(.tmp 44), (.tmp 46)], #[3, 3]⟩, some (42, true), false, false⟩,
  ⟨some 48, .fieldAddr 37 (.tmp 6) 1, some (42, true), false, false⟩,
  ⟨some 49, .load 3 (.tmp 48), some (42, true), false, false⟩,
  ⟨some 50, .fieldAddr 37 (.tmp 6) 3, some (42, true), false, false⟩,
  ⟨some 51, .load 25 (.tmp 50), some (42, true), false, false⟩,
  ⟨some 52, .call ⟨.builtin .len, #[(.tmp 51)], #[25]⟩, some (42, true), false, false⟩,
  ⟨some 53, .binOp .add 3 (.tmp 49) (.tmp 52) 3, some (42, true), false, false⟩,
  ⟨some 54, .fieldAddr 37 (.tmp 8) 1, some (42, true), false, false⟩,
  ⟨some 55, .load 3 (.tmp 54), some (42, true), false, false⟩,
  ⟨some 56, .fieldAddr 37 (.tmp 8) 3, some (42, true), false, false⟩,
  ⟨some 57, .load 25 (.tmp 56), some (42, true), false, false⟩,
  ⟨some 58, .call ⟨.builtin .len, #[(.tmp 57)], #[25]⟩, some (42, true), false, false⟩,
  ⟨some 59, .binOp .add 3 (.tmp 55) (.tmp 58) 3, some (42, true), false, false⟩,
  ⟨some 60, .call ⟨.builtin .min, #[(.tmp 53), (.tmp 59)], #[3, 3]⟩, some (42, true), false, false⟩,
  ⟨some 61, .binOp .lss 3 (.tmp 47) (.tmp 60) 3, some (42, true), false, false⟩,
  ⟨some 62, .pick (.tmp 42) (.tmp 61) (.const (.bool false)), none, false, false⟩]
def r14_13 : List Co := [
  ⟨some 63, .move (.tmp 4), none, false, false⟩,
  ⟨some 64, .move (.tmp 5), none, false, false⟩,
  ⟨some 65, .move (.tmp 7), none, false, false⟩,
  ⟨some 66, .build 39 #[(0, (.tmp 64)), (1, (.tmp 65))], none, false, false⟩,
  ⟨some 67, .buildSlice 30 1 #[(0, (.tmp 66))], none, false, false⟩,
  ⟨some 68, .call ⟨.builtin .append, #[(.tmp 63), (.tmp 67)], #[30, 30]⟩, none, false, false⟩,
  ⟨some 4, .assign (.tmp 68), none, false, false⟩]
def r14_14 : List Co := [
  ⟨some 31, .move (.tmp 7), none, false, false⟩,
  ⟨some 32, .binOp .add 3 (.tmp 31) (.const (.int .i64 1)) 3, none, false, false⟩,
  ⟨some 7, .assign (.tmp 32), none, false, false⟩]
def l14_15 : Cc := (.seq (.seq (.reg r14_10) (.cond (.tmp 30) .skip (.exit 2))) (.seq (.block 3 (.seq (.reg r14_11) (.seq (.reg r14_12) (.cond (.tmp 62) (.reg r14_13) .skip)))) (.reg r14_14)))
def r14_16 : List Co := [
  ⟨some 69, .binOp .add 3 (.tmp 20) (.const (.int .i64 1)) 3, none, false, false⟩,
  ⟨some 20, .move (.tmp 69), none, false, false⟩]
def l14_17 : Cc := (.seq (.reg r14_7) (.seq (.cond (.tmp 21) .skip (.exit 0)) (.seq (.block 1 (.seq (.reg r14_8) (.seq (.reg r14_9) (.block 2 (.loop l14_15))))) (.reg r14_16))))
def r14_18 : List Co := [
  ⟨some 70, .move (.tmp 4), none, false, false⟩,
  ⟨some 2, .assign (.tmp 70), none, false, false⟩,
  ⟨some 3, .assign (.const (.int .i64 0)), none, false, false⟩]
/-- wireglass/frag.Overlaps -/
def c14 : Cc := (.seq (.reg r14_0) (.seq (.seq (.reg r14_1) (.cond (.tmp 10) (.seq (.reg r14_2) .ret) .skip)) (.seq (.seq (.reg r14_3) (.cond (.tmp 17) (.seq (.reg r14_4) .ret) .skip)) (.seq (.reg r14_5) (.seq (.seq (.reg r14_6) (.block 0 (.loop l14_17))) (.seq (.reg r14_18) .ret))))))
def r15_0 : List Co := [
  ⟨some 2, .assign (.const (.slice none 0 0)), none, false, false⟩,
  ⟨some 3, .assign (.const (.int .i64 0)), none, false, false⟩]
def r15_1 : List Co := [
  ⟨some 4, .assign (.const (.int .i64 0)), none, false, false⟩]
def r15_2 : List Co := [
  ⟨some 9, .move (.tmp 4), none, false, false⟩,
  ⟨some 10, .move (.tmp 0), none, false, false⟩,
  ⟨some 11, .call ⟨.builtin .len, #[(.tmp 10)], #[22]⟩, none, false, false⟩,
  ⟨some 12, .binOp .lss 3 (.tmp 9) (.tmp 11) 3, none, false, false⟩]
def r15_3 : List Co := [
  ⟨some 15, .move (.tmp 0), none, false, false⟩,
  ⟨some 16, .move (.tmp 4), none, false, false⟩,
  ⟨some 17, .indexAddr 22 (.tmp 15) (.tmp 16), none, false, false⟩,
  ⟨some 18, .load 37 (.tmp 17), none, false, false⟩,
  ⟨some 19, .call ⟨.value (.func 36), #[(.tmp 18)], #[37]⟩, none, false, false⟩,
  ⟨some 20, .binOp .eql 26 (.tmp 19) (.const (.int .i64 1)) 26, none, false, false⟩]
def r15_4 : List Co := [
  ⟨some 2, .assign (.const (.slice none 0 0)), none, false, false⟩,
  ⟨some 3, .assign (.const (.int .i64 1)), none, false, false⟩]
def r15_5 : List Co := [
  ⟨some 13, .move (.tmp 4), none, false, false⟩,
  ⟨some 14, .binOp .add 3 (.tmp 13) (.const (.int .i64 1)) 3, none, false, false⟩,
  ⟨some 4, .assign (.tmp 14), none, false, false⟩]
def l15_6 : Cc := (.seq (.seq (.reg r15_2) (.cond (.tmp 12) .skip (.exit 0))) (.seq (.block 1 (.seq (.reg r15_3) (.cond (.tmp 20) (.seq (.reg r15_4) .ret) .skip))) (.reg r15_5)))
def r15_7 : List Co := [
  ⟨some 5, .assign (.const (.int .i64 0)), none, false, false⟩]
def r15_8 : List Co := [
  ⟨some 21, .move (.tmp 5), none, false, false⟩,
  ⟨some 22, .move (.tmp 0), none, false, false⟩,
  ⟨some 23, .call ⟨.builtin .len, #[(.tmp 22)], #[22]⟩, none, false, false⟩,
  ⟨some 24, .binOp .lss 3 (.tmp 21) (.tmp 23) 3, none, false, false⟩]
def r15_9 : List Co := [
  ⟨some 27, .move (.tmp 0), none, false, false⟩,
  ⟨some 28, .move (.tmp 5), none, false, false⟩,
  ⟨some 29, .indexAddr 22 (.tmp 27) (.tmp 28), none, false, false⟩,
  ⟨some 30, .load 37 (.tmp 29), none, false, false⟩,
  ⟨some 31, .call ⟨.value (.func 36), #[(.tmp 30)], #[37]⟩, none, false, false⟩,
  ⟨some 32, .binOp .neq 26 (.tmp 31) (.const (.int .i64 0)) 26, none, false, false⟩]
def r15_10 : List Co := [
  ⟨some 2, .assign (.const (.slice none 0 0)), none, false, false⟩,
  ⟨some 3, .assign (.const (.int .i64 3)), none, false, false⟩]
def r15_11 : List Co := [
  ⟨some 25, .move (.tmp 5), none, false, false⟩,
  ⟨some 26, .binOp .add 3 (.tmp 25) (.const (.int .i64 1)) 3, none, false, false⟩,
  ⟨some 5, .assign (.tmp 26), none, false, false⟩]
def l15_12 : Cc := (.seq (.seq (.reg r15_8) (.cond (.tmp 24) .skip (.exit 2))) (.seq (.block 3 (.seq (.reg r15_9) (.cond (.tmp 32) (.seq (.reg r15_10) .ret) .skip))) (.reg r15_11)))
def r15_13 : List Co := [
  ⟨some 33, .move (.tmp 0), none, false, false⟩,
  ⟨some 34, .call ⟨.builtin .len, #[(.tmp 33)], #[22]⟩, none, false, false⟩,
  ⟨some 35, .binOp .gtr 3 (.tmp 34) (.const (.int .i64 200)) 3, none, false, false⟩]
def r15_14 : List Co := [
  ⟨some 2, .assign (.const (.slice none 0 0)), none, false, false⟩,
  ⟨some 3, .assign (.const (.int .i64 3)), none, false, false⟩]
def r15_15 : List Co := [
  ⟨some 6, .assign (.const (.slice none 0 0)), none, false, false⟩]
def r15_16 : List Co := [
  ⟨some 7, .assign (.const (.int .i64 0)), none, false, false⟩]
def r15_17 : List Co := [
  ⟨some 36, .move (.tmp 7), none, false, false⟩,
  ⟨some 37, .move (.tmp 0), none, false, false⟩,
  ⟨some 38, .call ⟨.builtin .len, #[(.tmp 37)], #[22]⟩, none, false, false⟩,
  ⟨some 39, .binOp .lss 3 (.tmp 36) (.tmp 38) 3, none, false, false⟩]
def r15_18 : List Co := [
  ⟨some 42, .move (.tmp 7), none, false, false⟩,
  ⟨some 43, .binOp .add 3 (.tmp 42) (.const (.int .i64 1)) 3, none, false, false⟩,
  ⟨some 8, .assign (.tmp 43), none, false, false⟩]
def r15_19 : List Co := [
  ⟨some 44, .move (.tmp 8), none, false, false⟩,
  ⟨some 45, .move (.tmp 0), none, false, false⟩,
  ⟨some 46, .call ⟨.builtin .len, #[(.tmp 45)], #[22]⟩, none, false, false⟩,
  ⟨some 47, .binOp .lss 3 (.tmp 44) (.tmp 46) 3, none, false, false⟩]
def r15_20 : List Co := [
  ⟨some 50, .move (.tmp 0), none, false, false⟩,
  ⟨some 51, .move (.tmp 7), none, false, false⟩,
  ⟨some 52, .indexAddr 22 (.tmp 50) (.tmp 51), none, false, false⟩,
  ⟨some 53, .fieldAddr 37 (.tmp 52) 0, none, false, false⟩,
  ⟨some 54, .load 3 (.tmp 53), none, false, false⟩,
  ⟨some 55, .move (.tmp 0), none, false, false⟩,
  ⟨some 56, .move (.tmp 8), none, false, false⟩,
  ⟨some 57, .indexAddr 22 (.tmp 55) (.tmp 56), none, false, false⟩,
  ⟨some 58, .fieldAddr 37 (.tmp 57) 0, none, false, false⟩,
  ⟨some 59, .load 3 (.tmp 58), none, false, false⟩,
  ⟨some 60, .binOp .eql 3 (.tmp 54) (.tmp 59) 3, none, false, false⟩,
  ⟨some 61, .move (.tmp 60), none, false, false⟩,
  ⟨some 62, .move (.tmp 0), some (61, true), false, false⟩,
  ⟨some 63, .move (.tmp 7), some (61, true), false, false⟩,
  ⟨some 64, .indexAddr 22 (.tmp 62) (.tmp 63), some (61, true), false, false⟩,
  ⟨some 65, .fieldAddr 37 (.tmp 64) 1, some (61, true), false, false⟩,
  ⟨some 66, .load 3 (.tmp 65), some (61, true), true, true⟩,
  ⟨some 67, .move (.tmp 0), some (61, true), true, false⟩,
  ⟨some 68, .move (.tmp 8), some (61, true), true, false⟩,
  ⟨some 69, .indexAddr 22 (.tmp 67) (.tmp 68), some (61, true), true, false⟩,
  ⟨some 70, .fieldAddr 37 (.tmp 69) 1, some (61, true), true, false⟩,
  ⟨some 71, .load 3 (.tmp 70), some (61, true), true, true⟩,
  ⟨some 72, .call ⟨.builtin .max, #[(.tmp 66), (.tmp 71)], #[3, 3]⟩, some (61, true), true, false⟩,
  ⟨some 73, .move (.tmp 0), some (61, true), true, false⟩,
  ⟨some 74, .move (.tmp 7), some (61, true), true, false⟩,
  ⟨some 75, .indexAddr 22 (.tmp 73) (.tmp 74), some (61, true), true, false⟩,
  ⟨some 76, .load 37 (.tmp 75), some (61, true), true, false⟩,
  ⟨some 77, .call ⟨.value (.func 37), #[(.tmp 76)], #[37]⟩, some (61, true), true, false⟩,
  ⟨some 78, .move (.tmp 0), some (61, true), true, false⟩,
  ⟨some 79, .move (.tmp 8), some (61, true), true, false⟩,
  ⟨some 80, .indexAddr 22 (.tmp 78) (.tmp 79), some (61, true), true, false⟩,
  ⟨some 81, .load 37 (.tmp 80), some (61, true), true, true⟩,
  ⟨some 82, .call ⟨.value (.func 37), #[(.tmp 81)], #[37]⟩, some (61, true), true, false⟩,
  ⟨some 83, .call ⟨.builtin .min, #[(.tmp 77), (.tmp 82)], #[3, 3]⟩, some (61, true), false, false⟩,
  ⟨some 84, .binOp .lss 3 (.tmp 72) (.tmp 83) 3, some (61, true), false, false⟩,
  ⟨some 85, .pick (.tmp 61) (.tmp 84) (.const (.bool false)), none, false, false⟩]
def r15_21 : List Co := [
  ⟨some 86, .move (.tmp 6), none, false, false⟩,
  ⟨some 87, .move (.tmp 7), none, false, false⟩,
  ⟨some 88, .move (.tmp 8), none, false, false⟩,
  ⟨some 89, .build 39 #[(0, (.tmp 87)), (1, (.tmp 88))], none, false, false⟩,
  ⟨some 90, .buildSlice 30 1 #[(0, (.tmp 89))], none, false, false⟩,
  ⟨some 91, .call ⟨.builtin .append, #[(.tmp 86), (.tmp 90)], #[30, 30]⟩, none, false, false⟩,
  ⟨some 6, .assign (.tmp 91), none, false, false⟩]
def r15_22 : List Co := [
  ⟨some 48, .move (.tmp 8), none, false, false⟩,
  ⟨some 49, .binOp .add 3 (.tmp 48) (.const (.int .i64 1)) 3, none, false, false⟩,
  ⟨some 8, .assign (.tmp 49), none, false, false⟩]
def l15_23 : Cc := (.seq (.seq (.reg r15_19) (.cond (.tmp 47) .skip (.exit 6))) (.seq (.block 7 (.seq (.reg r15_20) (.cond (.tmp 85) (.reg r15_21) .skip))) (.reg r15_22)))
def r15_24 : List Co := [
  ⟨some 40, .move (.tmp 7), none, false, false⟩,
  ⟨some 41, .binOp .add 3 (.tmp 40) (.const (.int .i64 1)) 3, none, false, false⟩,
  ⟨some 7, .assign (.tmp 41), none, false, false⟩]
def l15_25 : Cc := (.seq (.seq (.reg r15_17) (.cond (.tmp 39) .skip (.exit 4))) (.seq (.block 5 (.seq (.reg r15_18) (.block 6 (.loop l15_23)))) (.reg r15_24)))
def r15_26 : List Co := [
  ⟨some 92, .move (.tmp 6), none, false, false⟩,
  ⟨some 2, .assign (.tmp 92), none, false, false⟩,
  ⟨some 3, .assign (.const (.int .i64 0)), none, false, false⟩]
/-- wireglass/wireglassref18.Overlaps -/
def c15 : Cc := (.seq (.reg r15_0) (.seq (.seq (.reg r15_1) (.block 0 (.loop l15_6))) (.seq (.seq (.reg r15_7) (.block 2 (.loop l15_12))) (.seq (.seq (.reg r15_13) (.cond (.tmp 35) (.seq (.reg r15_14) .ret) .skip)) (.seq (.reg r15_15) (.seq (.seq (.reg r15_16) (.block 4 (.loop l15_25))) (.seq (.reg r15_26) .ret)))))))
def r16_0 : List Co := [
  ⟨some 4, .assign (.const (.bool false)), none, false, false⟩]
def r16_1 : List Co := [
  ⟨some 6, .move (.tmp 0), none, false, false⟩,
  ⟨some 7, .call ⟨.builtin .len, #[(.tmp 6)], #[30]⟩, none, false, false⟩,
  ⟨some 8, .move (.tmp 1), none, false, false⟩,
  ⟨some 9, .call ⟨.builtin .len, #[(.tmp 8)], #[30]⟩, none, false, false⟩,
  ⟨some 10, .binOp .neq 3 (.tmp 7) (.tmp 9) 3, none, false, false⟩]
def r16_2 : List Co := [
  ⟨some 4, .assign (.const (.bool false)), none, false, false⟩]
def r16_3 : List Co := [
  ⟨some 5, .assign (.const (.int .i64 0)), none, false, false⟩]
def r16_4 : List Co := [
  ⟨some 11, .move (.tmp 5), none, false, false⟩,
  ⟨some 12, .move (.tmp 0), none, false, false⟩,
  ⟨some 13, .call ⟨.builtin .len, #[(.tmp 12)], #[30]⟩, none, false, false⟩,
  ⟨some 14, .binOp .lss 3 (.tmp 11) (.tmp 13) 3, none, false, false⟩]
def r16_5 : List Co := [
  ⟨some 17, .move (.tmp 0), none, false, false⟩,
  ⟨some 18, .move (.tmp 5), none, false, false⟩,
  ⟨some 19, .indexAddr 30 (.tmp 17) (.tmp 18), none, false, false⟩,
  ⟨some 20, .load 39 (.tmp 19), none, false, false⟩,
  ⟨some 21, .move (.tmp 1), none, false, false⟩,
  ⟨some 22, .move (.tmp 5), none, false, false⟩,
  ⟨some 23, .indexAddr 30 (.tmp 21) (.tmp 22), none, false, false⟩,
  ⟨some 24, .load 39 (.tmp 23), none, false, false⟩,
  ⟨some 25, .binOp .neq 39 (.tmp 20) (.tmp 24) 39, none, false, false⟩]
def r16_6 : List Co := [
  ⟨some 4, .assign (.const (.bool false)), none, false, false⟩]
def r16_7 : List Co := [
  ⟨some 15, .move (.tmp 5), none, false, false⟩,
  ⟨some 16, .binOp .add 3 (.tmp 15) (.const (.int .i64 1)) 3, none, false, false⟩,
  ⟨some 5, .assign (.tmp 16), none, false, false⟩]
def l16_8 : Cc := (.seq (.seq (.reg r16_4) (.cond (.tmp 14) .skip (.exit 0))) (.seq (.block 1 (.seq (.reg r16_5) (.cond (.tmp 25) (.seq (.reg r16_6) .ret) .skip))) (.reg r16_7)))
def r16_9 : List Co := [
  ⟨some 4, .assign (.const (.bool true)), none, false, false⟩]
/-- wireglass/wireglasslaw18.holes -/
def c16 : Cc := (.seq (.reg r16_0) (.seq (.seq (.reg r16_1) (.cond (.tmp 10) (.seq (.reg r16_2) .ret) .skip)) (.seq (.seq (.reg r16_3) (.block 0 (.loop l16_8))) (.seq (.reg r16_9) .ret))))
def r18_0 : List Co := [
  ⟨some 8, .assign (.const (.slice none 0 0)), none, false, false⟩,
  ⟨some 9, .assign (.const (.int .i64 0)), none, false, false⟩]
def r18_1 : List Co := [
  ⟨some 15, .move (.tmp 2), none, false, false⟩,
  ⟨some 16, .binOp .lss 3 (.tmp 15) (.const (.int .i64 1)) 3, none, false, false⟩,
  ⟨some 17, .move (.tmp 16), none, false, false⟩,
  ⟨some 18, .move (.tmp 2), some (17, false), false, false⟩,
  ⟨some 19, .binOp .gtr 3 (.tmp 18) (.const (.int .i64 4000)) 3, some (17, false), false, false⟩,
  ⟨some 20, .pick (.tmp 17) (.const (.bool true)) (.tmp 19), none, false, false⟩,
  ⟨some 14, .assign (.tmp 20), none, false, false⟩]
def r18_2 : List Co := [
  ⟨some 8, .assign (.const (.slice none 0 0)), none, false, false⟩,
  ⟨some 9, .assign (.const (.int .i64 1)), none, false, false⟩]
def r18_3 : List Co := [
  ⟨some 22, .move (.tmp 1), none, false, false⟩,
  ⟨some 23, .call ⟨.builtin .len, #[(.tmp 22)], #[25]⟩, none, false, false⟩,
  ⟨some 24, .binOp .gtr 3 (.tmp 23) (.const (.int .i64 4000)) 3, none, false, false⟩,
  ⟨some 25, .move (.tmp 24), none, false, false⟩,
  ⟨some 26, .move (.tmp 1), some (25, false), false, false⟩,
  ⟨some 27, .call ⟨.builtin .len, #[(.tmp 26)], #[25]⟩, some (25, false), false, false⟩,
  ⟨some 28, .move (.tmp 2), some (25, false), false, false⟩,
  ⟨some 29, .binOp .add 3 (.tmp 27) (.tmp 28) 3, some (25, false), false, false⟩,
  ⟨some 30, .binOp .sub 3 (.tmp 29) (.const (.int .i64 1)) 3, some (25, false), false, false⟩,
  ⟨some 31, .move (.tmp 2), some (25, false), false, false⟩,
  ⟨some 32, .binOp .quo 3 (.tmp 30) (.tmp 31) 3, some (25, false), false, false⟩,
  ⟨some 33, .binOp .gtr 3 (.tmp 32) (.const (.int .i64 200)) 3, some (25, false), false, false⟩,
  ⟨some 34, .pick (.tmp 25) (.const (.bool true)) (.tmp 33), none, false, false⟩,
  ⟨some 21, .assign (.tmp 34), none, false, false⟩]
def r18_4 : List Co := [
  ⟨some 8, .assign (.const (.slice none 0 0)), none, false, false⟩,
  ⟨some 9, .assign (.const (.int .i64 3)), none, false, false⟩]
def r18_5 : List Co := [
  ⟨some 36, .move (.tmp 0), none, false, false⟩,
  ⟨some 37, .move (.tmp 3), none, false, false⟩,
  ⟨some 38, .build 37 #[(0, (.tmp 36)), (4, (.tmp 37))], none, false, false⟩,
  ⟨some 39, .call ⟨.value (.func 34), #[(.tmp 38)], #[37]⟩, none, false, false⟩,
  ⟨some 40, .unOp .not 4 (.tmp 39), none, false, false⟩,
  ⟨some 35, .assign (.tmp 40), none, false, false⟩]
def r18_6 : List Co := [
  ⟨some 8, .assign (.const (.slice none 0 0)), none, false, false⟩,
  ⟨some 9, .assign (.const (.int .i64 1)), none, false, false⟩]
def r18_7 : List Co := [
  ⟨some 41, .move (.tmp 0), none, false, false⟩,
  ⟨some 42, .move (.tmp 3), none, false, false⟩,
  ⟨some 43, .build 37 #[(0, (.tmp 41)), (4, (.tmp 42))], none, false, false⟩,
  ⟨some 44, .buildSlice 22 1 #[(0, (.tmp 43))], none, false, false⟩,
  ⟨some 10, .assign (.tmp 44), none, false, false⟩]
def r18_8 : List Co := [
  ⟨some 11, .assign (.const (.int .i64 0)), none, false, false⟩]
def r18_9 : List Co := [
  ⟨some 45, .move (.tmp 11), none, false, false⟩,
  ⟨some 46, .move (.tmp 1), none, false, false⟩,
  ⟨some 47, .call ⟨.builtin .len, #[(.tmp 46)], #[25]⟩, none, false, false⟩,
  ⟨some 48, .binOp .lss 3 (.tmp 45) (.tmp 47) 3, none, false, false⟩]
def r18_10 : List Co := [
  ⟨some 52, .move (.tmp 11), none, false, false⟩,
  ⟨some 53, .move (.tmp 2), none, false, false⟩,
  ⟨some 54, .binOp .add 3 (.tmp 52) (.tmp 53) 3, none, false, false⟩,
  ⟨some 55, .move (.tmp 1), none, false, false⟩,
  ⟨some 56, .call ⟨.builtin .len, #[(.tmp 55)], #[25]⟩, none, false, false⟩,
  ⟨some 57, .call ⟨.builtin .min, #[(.tmp 54), (.tmp 56)], #[3, 3]⟩, none, false, false⟩,
  ⟨some 12, .assign (.tmp 57), none, false, false⟩]
def r18_11 : List Co := [
  ⟨some 58, .move (.tmp 0), none, false, false⟩,
  ⟨some 59, .move (.tmp 11), none, false, false⟩,
  ⟨some 60, .move (.tmp 12), none, false, false⟩,
  ⟨some 61, .move (.tmp 1), none, false, false⟩,
  ⟨some 62, .call ⟨.builtin .len, #[(.tmp 61)], #[25]⟩, none, false, false⟩,
  ⟨some 63, .binOp .lss 3 (.tmp 60) (.tmp 62) 3, none, false, false⟩,
  ⟨some 64, .move (.tmp 1), none, false, false⟩,
  ⟨some 65, .move (.tmp 11), none, false, false⟩,
  ⟨some 66, .move (.tmp 12), none, false, false⟩,
  ⟨some 67, .slice 25 (.tmp 64) (some (.tmp 65)) (some (.tmp 66)) none, none, false, false⟩,
  ⟨some 68, .call ⟨.value (.func 38), #[(.tmp 67)], #[25]⟩, none, false, false⟩,
  ⟨some 69, .move (.tmp 3), none, false, false⟩,
  ⟨some 70, .build 37 #[(0, (.tmp 58)), (1, (.tmp 59)), (2, (.tmp 63)), (3, (.tmp 68)), (4, (.tmp 69))], none, false, false⟩,
  ⟨some 13, .alloc 37, none, false, false⟩,
  ⟨none, .store 37 (.tmp 13) (.tmp 70), none, false, false⟩]
def r18_12 : List Co := [
  ⟨some 71, .move (.tmp 11), none, false, false⟩,
  ⟨some 72, .binOp .eql 3 (.tmp 71) (.const (.int .i64 0)) 3, none, false, false⟩]
def r18_13 : List Co := [
  ⟨some 10, .assign (.const (.slice none 0 0)), none, false, false⟩]
def r18_14 : List Co := [
  ⟨some 73, .move (.tmp 10), none, false, false⟩,
  ⟨some 74, .load 37 (.tmp 13), none, false, false⟩,
  ⟨some 75, .buildSlice 22 1 #[(0, (.tmp 74))], none, false, false⟩,
  ⟨some 76, .call ⟨.builtin .append, #[(.tmp 73), (.tmp 75)], #[22, 22]⟩, none, false, false⟩,
  ⟨some 10, .assign (.tmp 76), none, false, false⟩]
def r18_15 : List Co := [
  ⟨some 49, .move (.tmp 11), none, false, false⟩,
  ⟨some 50, .move (.tmp 2), none, false, false⟩,
  ⟨some 51, .binOp .add 3 (.tmp 49) (.tmp 50) 3, none, false, false⟩,
  ⟨some 11, .assign (.tmp 51), none, false, false⟩]
def l18_16 : Cc := (.seq (.seq (.reg r18_9) (.cond (.tmp 48) .skip (.exit 1))) (.seq (.block 2 (.seq (.reg r18_10) (.seq (.reg r18_11) (.seq (.seq (.reg r18_12) (.cond (.tmp 72) (.reg r18_13) .skip)) (.reg r18_14))))) (.reg r18_15)))
def r18_17 : List Co := [
  ⟨some 77, .move (.tmp 10), none, false, false⟩,
  ⟨some 8, .assign (.tmp 77), none, false, false⟩,
  ⟨some 9, .assign (.const (.int .i64 0)), none, false, false⟩]
/-- wireglass/frag.Cut -/
def c18 : Cc := (.seq (.reg r18_0) (.seq (.block 0 (.seq (.reg r18_1) (.cond (.tmp 14) (.seq (.reg r18_2) .ret) (.seq (.reg r18_3) (.cond (.tmp 21) (.seq (.reg r18_4) .ret) (.seq (.reg r18_5) (.cond (.tmp 35) (.seq (.reg r18_6) .ret) .skip))))))) (.seq (.reg r18_7) (.seq (.seq (.reg r18_8) (.block 1 (.loop l18_16))) (.seq (.reg r18_17) .ret)))))
def r19_0 : List Co := [
  ⟨some 8, .assign (.const (.slice none 0 0)), none, false, false⟩,
  ⟨some 9, .assign (.const (.int .i64 0)), none, false, false⟩]
def r19_1 : List Co := [
  ⟨some 13, .move (.tmp 2), none, false, false⟩,
  ⟨some 14, .binOp .lss 3 (.tmp 13) (.const (.int .i64 1)) 3, none, false, false⟩,
  ⟨some 15, .move (.tmp 14), none, false, false⟩,
  ⟨some 16, .move (.tmp 2), some (15, false), false, false⟩,
  ⟨some 17, .binOp .gtr 3 (.tmp 16) (.const (.int .i64 4000)) 3, some (15, false), false, false⟩,
  ⟨some 18, .pick (.tmp 15) (.const (.bool true)) (.tmp 17), none, false, false⟩]
def r19_2 : List Co := [
  ⟨some 8, .assign (.const (.slice none 0 0)), none, false, false⟩,
  ⟨some 9, .assign (.const (.int .i64 1)), none, false, false⟩]
def r19_3 : List Co := [
  ⟨some 19, .move (.tmp 1), none, false, false⟩,
  ⟨some 20, .call ⟨.builtin .len, #[(.tmp 19)], #[25]⟩, none, false, false⟩,
  ⟨some 21, .binOp .gtr 3 (.tmp 20) (.const (.int .i64 4000)) 3, none, false, false⟩,
  ⟨some 22, .move (.tmp 21), none, false, false⟩,
  ⟨some 23, .move (.tmp 1), some (22, false), false, false⟩,
  ⟨some 24, .call ⟨.builtin .len, #[(.tmp 23)], #[25]⟩, some (22, false), false, false⟩,
  ⟨some 25, .move (.tmp 2), some (22, false), false, false⟩,
  ⟨some 26, .binOp .add 3 (.tmp 24) (.tmp 25) 3, some (22, false), false, false⟩,
  ⟨some 27, .binOp .sub 3 (.tmp 26) (.const (.int .i64 1)) 3, some (22, false), false, false⟩,
  ⟨some 28, .move (.tmp 2), some (22, false), false, false⟩,
  ⟨some 29, .binOp .quo 3 (.tmp 27) (.tmp 28) 3, some (22, false), false, false⟩,
  ⟨some 30, .binOp .gtr 3 (.tmp 29) (.const (.int .i64 200)) 3, some (22, false), false, false⟩,
  ⟨some 31, .pick (.tmp 22) (.const (.bool true)) (.tmp 30), none, false, false⟩]
def r19_4 : List Co := [
  ⟨some 8, .assign (.const (.slice none 0 0)), none, false, false⟩,
  ⟨some 9, .assign (.const (.int .i64 3)), none, false, false⟩]
def r19_5 : List Co := [
  ⟨some 32, .move (.tmp 0), none, false, false⟩,
  ⟨some 33, .move (.tmp 3), none, false, false⟩,
  ⟨some 34, .build 37 #[(0, (.tmp 32)), (4, (.tmp 33))], none, false, false⟩,
  ⟨some 35, .call ⟨.value (.func 36), #[(.tmp 34)], #[37]⟩, none, false, false⟩,
  ⟨some 36, .binOp .neq 26 (.tmp 35) (.const (.int .i64 0)) 26, none, false, false⟩]
def r19_6 : List Co := [
  ⟨some 8, .assign (.const (.slice none 0 0)), none, false, false⟩,
  ⟨some 9, .assign (.const (.int .i64 1)), none, false, false⟩]
def r19_7 : List Co := [
  ⟨some 37, .move (.tmp 0), none, false, false⟩,
  ⟨some 38, .move (.tmp 3), none, false, false⟩,
  ⟨some 39, .build 37 #[(0, (.tmp 37)), (4, (.tmp 38))], none, false, false⟩,
  ⟨some 40, .buildSlice 22 1 #[(0, (.tmp 39))], none, false, false⟩,
  ⟨some 10, .assign (.tmp 40), none, false, false⟩]
def r19_8 : List Co := [
  ⟨some 11, .assign (.const (.int .i64 0)), none, false, false⟩]
def r19_9 : List Co := [
  ⟨some 41, .move (.tmp 11), none, false, false⟩,
  ⟨some 42, .move (.tmp 1), none, false, false⟩,
  ⟨some 43, .call ⟨.builtin .len, #[(.tmp 42)], #[25]⟩, none, false, false⟩,
  ⟨some 44, .binOp .lss 3 (.tmp 41) (.tmp 43) 3, none, false, false⟩]
def r19_10 : List Co := [
  ⟨some 48, .move (.tmp 0), none, false, false⟩,
  ⟨some 49, .move (.tmp 11), none, false, false⟩,
  ⟨some 50, .move (.tmp 11), none, false, false⟩,
  ⟨some 51, .move (.tmp 2), none, false, false⟩,
  ⟨some 52, .binOp .add 3 (.tmp 50) (.tmp 51) 3, none, false, false⟩,
  ⟨some 53, .move (.tmp 1), none, false, false⟩,
  ⟨some 54, .call ⟨.builtin .len, #[(.tmp 53)], #[25]⟩, none, false, false⟩,
  ⟨some 55, .binOp .lss 3 (.tmp 52) (.tmp 54) 3, none, false, false⟩,
  ⟨some 56, .move (.tmp 3), none, false, false⟩,
  ⟨some 57, .build 37 #[(0, (.tmp 48)), (1, (.tmp 49)), (2, (.tmp 55)), (4, (.tmp 56))], none, false, false⟩,
  ⟨some 12, .alloc 37, none, false, false⟩,
  ⟨none, .store 37 (.tmp 12) (.tmp 57), none, false, false⟩]
def r19_11 : List Co := [
  ⟨some 58, .fieldAddr 37 (.tmp 12) 3, none, false, false⟩,
  ⟨some 59, .load 25 (.tmp 58), none, false, false⟩,
  ⟨some 60, .move (.tmp 1), none, false, false⟩,
  ⟨some 61, .move (.tmp 11), none, false, false⟩,
  ⟨some 62, .move (.tmp 11), none, false, false⟩,
  ⟨some 63, .move (.tmp 2), none, false, false⟩,
  ⟨some 64, .binOp .add 3 (.tmp 62) (.tmp 63) 3, none, false, false⟩,
  ⟨some 65, .move (.tmp 1), none, false, false⟩,
  ⟨some 66, .call ⟨.builtin .len, #[(.tmp 65)], #[25]⟩, none, false, false⟩,
  ⟨some 67, .call ⟨.builtin .min, #[(.tmp 64), (.tmp 66)], #[3, 3]⟩, none, false, false⟩,
  ⟨some 68, .slice 25 (.tmp 60) (some (.tmp 61)) (some (.tmp 67)) none, none, false, false⟩,
  ⟨some 69, .call ⟨.builtin .append, #[(.tmp 59), (.tmp 68)], #[25, 25]⟩, none, false, false⟩,
  ⟨some 70, .fieldAddr 37 (.tmp 12) 3, none, false, false⟩,
  ⟨none, .store 25 (.tmp 70) (.tmp 69), none, false, false⟩]
def r19_12 : List Co := [
  ⟨some 71, .move (.tmp 11), none, false, false⟩,
  ⟨some 72, .binOp .eql 3 (.tmp 71) (.const (.int .i64 0)) 3, none, false, false⟩]
def r19_13 : List Co := [
  ⟨some 10, .assign (.const (.slice none 0 0)), none, false, false⟩]
def r19_14 : List Co := [
  ⟨some 73, .move (.tmp 10), none, false, false⟩,
  ⟨some 74, .load 37 (.tmp 12), none, false, false⟩,
  ⟨some 75, .buildSlice 22 1 #[(0, (.tmp 74))], none, false, false⟩,
  ⟨some 76, .call ⟨.builtin .append, #[(.tmp 73), (.tmp 75)], #[22, 22]⟩, none, false, false⟩,
  ⟨some 10, .assign (.tmp 76), none, false, false⟩]
def r19_15 : List Co := [
  ⟨some 45, .move (.tmp 11), none, false, false⟩,
  ⟨some 46, .move (.tmp 2), none, false, false⟩,
  ⟨some 47, .binOp .add 3 (.tmp 45) (.tmp 46) 3, none, false, false⟩,
  ⟨some 11, .assign (.tmp 47), none, false, false⟩]
def l19_16 : Cc := (.seq (.seq (.reg r19_9) (.cond (.tmp 44) .skip (.exit 0))) (.seq (.block 1 (.seq (.reg r19_10) (.seq (.reg r19_11) (.seq (.seq (.reg r19_12) (.cond (.tmp 72) (.reg r19_13) .skip)) (.reg r19_14))))) (.reg r19_15)))
def r19_17 : List Co := [
  ⟨some 77, .move (.tmp 10), none, false, false⟩,
  ⟨some 8, .assign (.tmp 77), none, false, false⟩,
  ⟨some 9, .assign (.const (.int .i64 0)), none, false, false⟩]
/-- wireglass/wireglassref18.Cut -/
def c19 : Cc := (.seq (.reg r19_0) (.seq (.seq (.reg r19_1) (.cond (.tmp 18) (.seq (.reg r19_2) .ret) .skip)) (.seq (.seq (.reg r19_3) (.cond (.tmp 31) (.seq (.reg r19_4) .ret) .skip)) (.seq (.seq (.reg r19_5) (.cond (.tmp 36) (.seq (.reg r19_6) .ret) .skip)) (.seq (.reg r19_7) (.seq (.seq (.reg r19_8) (.block 0 (.loop l19_16))) (.seq (.reg r19_17) .ret)))))))
def r29_0 : List Co := [
  ⟨some 4, .assign (.const (.bool false)), none, false, false⟩]
def r29_1 : List Co := [
  ⟨some 5, .move (.tmp 0), none, false, false⟩,
  ⟨some 6, .move (.tmp 1), none, false, false⟩,
  ⟨some 7, .call ⟨.value (.func 57), #[(.tmp 5), (.tmp 6)], #[22, 63]⟩, none, false, false⟩,
  ⟨some 8, .binOp .geq 3 (.tmp 7) (.const (.int .i64 0)) 3, none, false, false⟩,
  ⟨some 4, .assign (.tmp 8), none, false, false⟩]
/-- slices.ContainsFunc[[]wireglass/api.Piece,wireglass/api.Piece] -/
def c29 : Cc := (.seq (.reg r29_0) (.seq (.reg r29_1) .ret))
def r33_0 : List Co := [
  ⟨some 1, .box 37 (.tmp 0), none, false, false⟩,
  ⟨some 2, .assign (.const (.bool false)), none, false, false⟩]
def r33_1 : List Co := [
  ⟨some 3, .load 37 (.tmp 1), none, false, false⟩,
  ⟨some 4, .call ⟨.value (.func 34), #[(.tmp 3)], #[37]⟩, none, false, false⟩,
  ⟨some 5, .unOp .not 4 (.tmp 4), none, false, false⟩,
  ⟨some 2, .assign (.tmp 5), none, false, false⟩]
/-- wireglass/frag.Overlaps$1 -/
def c33 : Cc := (.seq (.reg r33_0) (.seq (.reg r33_1) .ret))
def r34_0 : List Co := [
  ⟨some 1, .box 37 (.tmp 0), none, false, false⟩,
  ⟨some 2, .assign (.const (.bool false)), none, false, false⟩]
def r34_1 : List Co := [
  ⟨some 3, .fieldAddr 37 (.tmp 1) 0, none, false, false⟩,
  ⟨some 4, .load 3 (.tmp 3), none, false, false⟩,
  ⟨some 5, .binOp .geq 3 (.tmp 4) (.const (.int .i64 0)) 3, none, false, false⟩,
  ⟨some 6, .move (.tmp 5), none, false, false⟩,
  ⟨some 7, .fieldAddr 37 (.tmp 1) 0, some (6, true), false, false⟩,
  ⟨some 8, .load 3 (.tmp 7), some (6, true), false, false⟩,
  ⟨some 9, .binOp .leq 3 (.tmp 8) (.const (.int .i64 4294967295)) 3, some (6, true), false, false⟩,
  ⟨some 10, .pick (.tmp 6) (.tmp 9) (.const (.bool false)), none, false, false⟩,
  ⟨some 11, .move (.tmp 10), none, false, false⟩,
  ⟨some 12, .fieldAddr 37 (.tmp 1) 1, some (11, true), false, false⟩,
  ⟨some 13, .load 3 (.tmp 12), some (11, true), false, false⟩,
  ⟨some 14, .binOp .geq 3 (.tmp 13) (.const (.int .i64 0)) 3, some (11, true), false, false⟩,
  ⟨some 15, .pick (.tmp 11) (.tmp 14) (.const (.bool false)), none, false, false⟩,
  ⟨some 16, .move (.tmp 15), none, false, false⟩,
  ⟨some 17, .fieldAddr 37 (.tmp 1) 4, some (16, true), false, false⟩,
  ⟨some 18, .load 3 (.tmp 17), some (16, true), false, false⟩,
  ⟨some 19, .call ⟨.value (.func 48), #[(.tmp 18)], #[3]⟩, some (16, true), false, false⟩,
  ⟨some 20, .pick (.tmp 16) (.tmp 19) (.const (.bool false)), none, false, false⟩,
  ⟨some 2, .assign (.tmp 20), none, false, false⟩]
/-- wireglass/frag.isPiece -/
def c34 : Cc := (.seq (.reg r34_0) (.seq (.reg r34_1) .ret))
def r35_0 : List Co := [
  ⟨some 1, .box 37 (.tmp 0), none, false, false⟩,
  ⟨some 2, .assign (.const (.bool false)), none, false, false⟩]
def r35_1 : List Co := [
  ⟨some 3, .fieldAddr 37 (.tmp 1) 1, none, false, false⟩,
  ⟨some 4, .load 3 (.tmp 3), none, false, false⟩,
  ⟨some 5, .binOp .gtr 3 (.tmp 4) (.const (.int .i64 4000)) 3, none, false, false⟩,
  ⟨some 6, .move (.tmp 5), none, false, false⟩,
  ⟨some 7, .fieldAddr 37 (.tmp 1) 1, some (6, false), false, false⟩,
  ⟨some 8, .load 3 (.tmp 7), some (6, false), false, false⟩,
  ⟨some 9, .fieldAddr 37 (.tmp 1) 3, some (6, false), false, false⟩,
  ⟨some 10, .load 25 (.tmp 9), some (6, false), false, false⟩,
  ⟨some 11, .call ⟨.builtin .len, #[(.tmp 10)], #[25]⟩, some (6, false), false, false⟩,
  ⟨some 12, .binOp .add 3 (.tmp 8) (.tmp 11) 3, some (6, false), false, false⟩,
  ⟨some 13, .binOp .gtr 3 (.tmp 12) (.const (.int .i64 4000)) 3, some (6, false), false, false⟩,
  ⟨some 14, .pick (.tmp 6) (.const (.bool true)) (.tmp 13), none, false, false⟩,
  ⟨some 2, .assign (.tmp 14), none, false, false⟩]
/-- wireglass/frag.isFar -/
def c35 : Cc := (.seq (.reg r35_0) (.seq (.reg r35_1) .ret))
def r36_0 : List Co := [
  ⟨some 1, .box 37 (.tmp 0), none, false, false⟩,
  ⟨some 2, .assign (.const (.int .i64 0)), none, false, false⟩]
def r36_1 : List Co := [
  ⟨some 3, .fieldAddr 37 (.tmp 1) 0, none, false, false⟩,
  ⟨some 4, .load 3 (.tmp 3), none, false, false⟩,
  ⟨some 5, .binOp .lss 3 (.tmp 4) (.const (.int .i64 0)) 3, none, false, false⟩,
  ⟨some 6, .move (.tmp 5), none, false, false⟩,
  ⟨some 7, .fieldAddr 37 (.tmp 1) 0, some (6, false), false, false⟩,
  ⟨some 8, .load 3 (.tmp 7), some (6, false), false, false⟩,
  ⟨some 9, .binOp .gtr 3 (.tmp 8) (.const (.int .i64 4294967295)) 3, some (6, false), false, false⟩,
  ⟨some 10, .pick (.tmp 6) (.const (.bool true)) (.tmp 9), none, false, false⟩,
  ⟨some 11, .move (.tmp 10), none, false, false⟩,
  ⟨some 12, .fieldAddr 37 (.tmp 1) 1, some (11, false), false, false⟩,
  ⟨some 13, .load 3 (.tmp 12), some (11, false), false, false⟩,
  ⟨some 14, .binOp .lss 3 (.tmp 13) (.const (.int .i64 0)) 3, some (11, false), false, false⟩,
  ⟨some 15, .pick (.tmp 11) (.const (.bool true)) (.tmp 14), none, false, false⟩,
  ⟨some 16, .move (.tmp 15), none, false, false⟩,
  ⟨some 17, .fieldAddr 37 (.tmp 1) 4, some (16, false), false, false⟩,
  ⟨some 18, .load 3 (.tmp 17), some (16, false), false, false⟩,
  ⟨some 19, .binOp .lss 3 (.tmp 18) (.const (.int .i64 0)) 3, some (16, false), false, false⟩,
  ⟨some 20, .pick (.tmp 16) (.const (.bool true)) (.tmp 19), none, false, false⟩,
  ⟨some 21, .move (.tmp 20), none, false, false⟩,
  ⟨some 22, .fieldAddr 37 (.tmp 1) 4, some (21, false), false, false⟩,
  ⟨some 23, .load 3 (.tmp 22), some (21, false), false, false⟩,
  ⟨some 24, .binOp .gtr 3 (.tmp 23) (.const (.int .i64 1000000000000000)) 3, some (21, false), false, false⟩,
  ⟨some 25, .pick (.tmp 21) (.const (.bool true)) (.tmp 24), none, false, false⟩]
def r36_2 : List Co := [
  ⟨some 2, .assign (.const (.int .i64 1)), none, false, false⟩]
def r36_3 : List Co := [
  ⟨some 26, .fieldAddr 37 (.tmp 1) 1, none, false, false⟩,
  ⟨some 27, .load 3 (.tmp 26), none, false, false⟩,
  ⟨some 28, .binOp .gtr 3 (.tmp 27) (.const (.int .i64 4000)) 3, none, false, false⟩,
  ⟨some 29, .move (.tmp 28), none, false, false⟩,
  ⟨some 30, .load 37 (.tmp 1), some (29, false), false, false⟩,
  ⟨some 31, .call ⟨.value (.func 37), #[(.tmp 30)], #[37]⟩, some (29, false), false, false⟩,
  ⟨some 32, .binOp .gtr 3 (.tmp 31) (.const (.int .i64 4000)) 3, some (29, false), false, false⟩,
  ⟨some 33, .pick (.tmp 29) (.const (.bool true)) (.tmp 32), none, false, false⟩]
def r36_4 : List Co := [
  ⟨some 2, .assign (.const (.int .i64 3)), none, false, false⟩]
def r36_5 : List Co := [
  ⟨some 2, .assign (.const (.int .i64 0)), none, false, false⟩]
/-- wireglass/wireglassref18.asked -/
def c36 : Cc := (.seq (.reg r36_0) (.seq (.seq (.reg r36_1) (.cond (.tmp 25) (.seq (.reg r36_2) .ret) .skip)) (.seq (.seq (.reg r36_3) (.cond (.tmp 33) (.seq (.reg r36_4) .ret) .skip)) (.seq (.reg r36_5) .ret))))
def r37_0 : List Co := [
  ⟨some 1, .box 37 (.tmp 0), none, false, false⟩,
  ⟨some 2, .assign (.const (.int .i64 0)), none, false, false⟩]
def r37_1 : List Co := [
  ⟨some 3, .fieldAddr 37 (.tmp 1) 1, none, false, false⟩,
  ⟨some 4, .load 3 (.tmp 3), none, false, false⟩,
  ⟨some 5, .fieldAddr 37 (.tmp 1) 3, none, false, false⟩,
  ⟨some 6, .load 25 (.tmp 5), none, false, false⟩,
  ⟨some 7, .call ⟨.builtin .len, #[(.tmp 6)], #[25]⟩, none, false, false⟩,
  ⟨some 8, .binOp .add 3 (.tmp 4) (.tmp 7) 3, none, false, false⟩,
  ⟨some 2, .assign (.tmp 8), none, false, false⟩]
/-- wireglass/wireglassref18.end -/
def c37 : Cc := (.seq (.reg r37_0) (.seq (.reg r37_1) .ret))
def r38_0 : List Co := [
  ⟨some 2, .assign (.const (.slice none 0 0)), none, false, false⟩]
def r38_1 : List Co := [
  ⟨some 3, .move (.tmp 0), none, false, false⟩,
  ⟨some 4, .binOp .eql 25 (.tmp 3) (.const (.slice none 0 0)) 25, none, false, false⟩]
def r38_2 : List Co := [
  ⟨some 2, .assign (.const (.slice none 0 0)), none, false, false⟩]
def r38_3 : List Co := [
  ⟨some 5, .buildSlice 25 0 #[], none, false, false⟩,
  ⟨some 6, .move (.tmp 0), none, false, false⟩,
  ⟨some 7, .call ⟨.builtin .append, #[(.tmp 5), (.tmp 6)], #[25, 25]⟩, none, false, false⟩,
  ⟨some 2, .assign (.tmp 7), none, false, false⟩]
/-- slices.Clone[[]byte,byte] -/
def c38 : Cc := (.seq (.reg r38_0) (.seq (.seq (.reg r38_1) (.cond (.tmp 4) (.seq (.reg r38_2) .ret) .skip)) (.seq (.reg r38_3) .ret)))
def r48_0 : List Co := [
  ⟨some 2, .assign (.const (.bool false)), none, false, false⟩]
def r48_1 : List Co := [
  ⟨some 3, .move (.tmp 0), none, false, false⟩,
  ⟨some 4, .binOp .geq 3 (.tmp 3) (.const (.int .i64 0)) 3, none, false, false⟩,
  ⟨some 5, .move (.tmp 4), none, false, false⟩,
  ⟨some 6, .move (.tmp 0), some (5, true), false, false⟩,
  ⟨some 7, .binOp .leq 3 (.tmp 6) (.const (.int .i64 1000000000000000)) 3, some (5, true), false, false⟩,
  ⟨some 8, .pick (.tmp 5) (.tmp 7) (.const (.bool false)), none, false, false⟩,
  ⟨some 2, .assign (.tmp 8), none, false, false⟩]
/-- wireglass/frag.isTime -/
def c48 : Cc := (.seq (.reg r48_0) (.seq (.reg r48_1) .ret))
def r57_0 : List Co := [
  ⟨some 4, .assign (.const (.int .i64 0)), none, false, false⟩]
def r57_1 : List Co := [
  ⟨some 6, .move (.tmp 0), none, false, false⟩,
  ⟨some 7, .call ⟨.builtin .len, #[(.tmp 6)], #[22]⟩, none, false, false⟩,
  ⟨some 8, .move (.const (.int .i64 0)), none, false, false⟩]
def r57_2 : List Co := [
  ⟨some 9, .binOp .lss 3 (.tmp 8) (.tmp 7) 3, none, false, false⟩]
def r57_3 : List Co := [
  ⟨some 10, .move (.tmp 8), none, false, false⟩,
  ⟨some 5, .assign (.tmp 10), none, false, false⟩]
def r57_4 : List Co := [
  ⟨some 11, .move (.tmp 1), none, false, false⟩,
  ⟨some 12, .move (.tmp 0), none, false, false⟩,
  ⟨some 13, .move (.tmp 5), none, false, false⟩,
  ⟨some 14, .indexAddr 22 (.tmp 12) (.tmp 13), none, false, false⟩,
  ⟨some 15, .load 37 (.tmp 14), none, false, false⟩,
  ⟨some 16, .call ⟨.value (.tmp 11), #[(.tmp 15)], #[37]⟩, none, false, false⟩]
def r57_5 : List Co := [
  ⟨some 17, .move (.tmp 5), none, false, false⟩,
  ⟨some 4, .assign (.tmp 17), none, false, false⟩]
def r57_6 : List Co := [
  ⟨some 18, .binOp .add 3 (.tmp 8) (.const (.int .i64 1)) 3, none, false, false⟩,
  ⟨some 8, .move (.tmp 18), none, false, false⟩]
def l57_7 : Cc := (.seq (.reg r57_2) (.seq (.cond (.tmp 9) .skip (.exit 0)) (.seq (.block 1 (.seq (.reg r57_3) (.seq (.reg r57_4) (.cond (.tmp 16) (.seq (.reg r57_5) .ret) .skip)))) (.reg r57_6))))
def r57_8 : List Co := [
  ⟨some 4, .assign (.const (.int .i64 (-1))), none, false, false⟩]
/-- slices.IndexFunc[[]wireglass/api.Piece,wireglass/api.Piece] -/
def c57 : Cc := (.seq (.reg r57_0) (.seq (.seq (.reg r57_1) (.block 0 (.loop l57_7))) (.seq (.reg r57_8) .ret)))
def rs4 : List ResultVar := [.tmp 2]
set_option maxRecDepth 100000 in
theorem run4 {args : List V} {H : Hp} {R : V → Hp → Prop} (ha : args.length ≤ 31) (h : Wp Try.prog (callL Try.prog pr) 31 c4 args [] H (RetQ Try.prog rs4 R)) : ∃ v H', R v H' ∧ callL Try.prog pr 4 args H = some (gcC H (v, H')) :=
  call_of (fn := Try.f4) rfl Try.func4 rfl (by kernel_rfl) rfl (Nat.max_eq_right ha) h
def rs6 : List ResultVar := [.tmp 6]
set_option maxRecDepth 100000 in
theorem run6 {args : List V} {H : Hp} {R : V → Hp → Prop} (ha : args.length ≤ 98) (h : Wp Try.prog (callL Try.prog pr) 98 c6 args [] H (RetQ Try.prog rs6 R)) : ∃ v H', R v H' ∧ callL Try.prog pr 6 args H = some (gcC H (v, H')) :=
  call_of (fn := Try.f6) rfl Try.func6 rfl (by kernel_rfl) rfl (Nat.max_eq_right ha) h
def rs10 : List ResultVar := [.tmp 2]
set_option maxRecDepth 100000 in
theorem run10 {args : List V} {H : Hp} {R : V → Hp → Prop} (ha : args.length ≤ 24) (h : Wp Try.prog (callL Try.prog pr) 24 c10 args [] H (RetQ Try.prog rs10 R)) : ∃ v H', R v H' ∧ callL Try.prog pr 10 args H = some (gcC H (v, H')) :=
  call_of (fn := Try.f10) rfl Try.func10 rfl (by kernel_rfl) rfl (Nat.max_eq_right ha) h
def rs14 : List ResultVar := [.tmp 2, .tmp 3]
set_option maxRecDepth 100000 in
theorem run14 {args : List V} {H : Hp} {R : V → Hp → Prop} (ha : args.length ≤ 71) (h : Wp Try.prog (callL Try.prog pr) 71 c14 args [] H (RetQ Try.prog rs14 R)) : ∃ v H', R v H' ∧ callL Try.prog pr 14 args H = some (gcC H (v, H')) :=
  call_of (fn := Try.f14) rfl Try.func14 rfl (by kernel_rfl) rfl (Nat.max_eq_right ha) h
def rs15 : List ResultVar := [.tmp 2, .tmp 3]
set_option maxRecDepth 100000 in
theorem run15 {args : List V} {H : Hp} {R : V → Hp → Prop} (ha : args.length ≤ 93) (h : Wp Try.prog (callL Try.prog pr) 93 c15 args [] H (RetQ Try.prog rs15 R)) : ∃ v H', R v H' ∧ callL Try.prog pr 15 args H = some (gcC H (v, H')) :=
  call_of (fn := Try.f15) rfl Try.func15 rfl (by kernel_rfl) rfl (Nat.max_eq_right ha) h
def rs16 : List ResultVar := [.tmp 4]
set_option maxRecDepth 100000 in
theorem run16 {args : List V} {H : Hp} {R : V → Hp → Prop} (ha : args.length ≤ 26) (h : Wp Try.prog (callL Try.prog pr) 26 c16 args [] H (RetQ Try.prog rs16 R)) : ∃ v H', R v H' ∧ callL Try.prog pr 16 args H = some (gcC H (v, H')) :=
  call_of (fn := Try.f16) rfl Try.func16 rfl (by kernel_rfl) rfl (Nat.max_eq_right ha) h
def rs18 : List ResultVar := [.tmp 8, .tmp 9]
set_option maxRecDepth 100000 in
theorem run18 {args : List V} {H : Hp} {R : V → Hp → Prop} (ha : args.length ≤ 78) (h : Wp Try.prog (callL Try.prog pr) 78 c18 args [] H (RetQ Try.prog rs18 R)) : ∃ v H', R v H' ∧ callL Try.prog pr 18 args H = some (gcC H (v, H')) :=
  call_of (fn := Try.f18) rfl Try.func18 rfl (by kernel_rfl) rfl (Nat.max_eq_right ha) h
def rs19 : List ResultVar := [.tmp 8, .tmp 9]
set_option maxRecDepth 100000 in
theorem run19 {args : List V} {H : Hp} {R : V → Hp → Prop} (ha : args.length ≤ 78) (h : Wp Try.prog (callL Try.prog pr) 78 c19 args [] H (RetQ Try.prog rs19 R)) : ∃ v H', R v H' ∧ callL Try.prog pr 19 args H = some (gcC H (v, H')) :=
  call_of (fn := Try.f19) rfl Try.func19 rfl (by kernel_rfl) rfl (Nat.max_eq_right ha) h
def rs29 : List ResultVar := [.tmp 4]
set_option maxRecDepth 100000 in
theorem run29 {args : List V} {H : Hp} {R : V → Hp → Prop} (ha : args.length ≤ 9) (h : Wp Try.prog (callL Try.prog pr) 9 c29 args [] H (RetQ Try.prog rs29 R)) : ∃ v H', R v H' ∧ callL Try.prog pr 29 args H = some (gcC H (v, H')) :=
  call_of (fn := Try.f29) rfl Try.func29 rfl (by kernel_rfl) rfl (Nat.max_eq_right ha) h
def rs33 : List ResultVar := [.tmp 2]
set_option maxRecDepth 100000 in
theorem run33 {args : List V} {H : Hp} {R : V → Hp → Prop} (ha : args.length ≤ 6) (h : Wp Try.prog (callL Try.prog pr) 6 c33 args [] H (RetQ Try.prog rs33 R)) : ∃ v H', R v H' ∧ callL Try.prog pr 33 args H = some (gcC H (v, H')) :=
  call_of (fn := Try.f33) rfl Try.func33 rfl (by kernel_rfl) rfl (Nat.max_eq_right ha) h
def rs34 : List ResultVar := [.tmp 2]
set_option maxRecDepth 100000 in
theorem run34 {args : List V} {H : Hp} {R : V → Hp → Prop} (ha : args.length ≤ 21) (h : Wp Try.prog (callL Try.prog pr) 21 c34 args [] H (RetQ Try.prog rs34 R)) : ∃ v H', R v H' ∧ callL Try.prog pr 34 args H = some (gcC H (v, H')) :=
  call_of (fn := Try.f34) rfl Try.func34 rfl (by kernel_rfl) rfl (Nat.max_eq_right ha) h
def rs35 : List ResultVar := [.tmp 2]
set_option maxRecDepth 100000 in
theorem run35 {args : List V} {H : Hp} {R : V → Hp → Prop} (ha : args.length ≤ 15) (h : Wp Try.prog (callL Try.prog pr) 15 c35 args [] H (RetQ Try.prog rs35 R)) : ∃ v H', R v H' ∧ callL Try.prog pr 35 args H = some (gcC H (v, H')) :=
  call_of (fn := Try.f35) rfl Try.func35 rfl (by kernel_rfl) rfl (Nat.max_eq_right ha) h
def rs36 : List ResultVar := [.tmp 2]
set_option maxRecDepth 100000 in
theorem run36 {args : List V} {H : Hp} {R : V → Hp → Prop} (ha : args.length ≤ 34) (h : Wp Try.prog (callL Try.prog pr) 34 c36 args [] H (RetQ Try.prog rs36 R)) : ∃ v H', R v H' ∧ callL Try.prog pr 36 args H = some (gcC H (v, H')) :=
  call_of (fn := Try.f36) rfl Try.func36 rfl (by kernel_rfl) rfl (Nat.max_eq_right ha) h
def rs37 : List ResultVar := [.tmp 2]
set_option maxRecDepth 100000 in
theorem run37 {args : List V} {H : Hp} {R : V → Hp → Prop} (ha : args.length ≤ 9) (h : Wp Try.prog (callL Try.prog pr) 9 c37 args [] H (RetQ Try.prog rs37 R)) : ∃ v H', R v H' ∧ callL Try.prog pr 37 args H = some (gcC H (v, H')) :=
  call_of (fn := Try.f37) rfl Try.func37 rfl (by kernel_rfl) rfl (Nat.max_eq_right ha) h
def rs38 : List ResultVar := [.tmp 2]
set_option maxRecDepth 100000 in
theorem run38 {args : List V} {H : Hp} {R : V → Hp → Prop} (ha : args.length ≤ 8) (h : Wp Try.prog (callL Try.prog pr) 8 c38 args [] H (RetQ Try.prog rs38 R)) : ∃ v H', R v H' ∧ callL Try.prog pr 38 args H = some (gcC H (v, H')) :=
  call_of (fn := Try.f38) rfl Try.func38 rfl (by kernel_rfl) rfl (Nat.max_eq_right ha) h
def rs48 : List ResultVar := [.tmp 2]
set_option maxRecDepth 100000 in
theorem run48 {args : List V} {H : Hp} {R : V → Hp → Prop} (ha : args.length ≤ 9) (h : Wp Try.prog (callL Try.prog pr) 9 c48 args [] H (RetQ Try.prog rs48 R)) : ∃ v H', R v H' ∧ callL Try.prog pr 48 args H = some (gcC H (v, H')) :=
  call_of (fn := Try.f48) rfl Try.func48 rfl (by kernel_rfl) rfl (Nat.max_eq_right ha) h
def rs57 : List ResultVar := [.tmp 4]
set_option maxRecDepth 100000 in
theorem run57 {args : List V} {H : Hp} {R : V → Hp → Prop} (ha : args.length ≤ 19) (h : Wp Try.prog (callL Try.prog pr) 19 c57 args [] H (RetQ Try.prog rs57 R)) : ∃ v H', R v H' ∧ callL Try.prog pr 57 args H = some (gcC H (v, H')) :=
  call_of (fn := Try.f57) rfl Try.func57 rfl (by kernel_rfl) rfl (Nat.max_eq_right ha) h
end Go.Proofs.Ytdpdlobaabcjjab
