/-
  What this seat's program gives to the abstract machine: its types, its functions' code in short form (printed by a tool). No statement of the seat stands here.
-/
import Derived.Test.YtdpdlobaabcjjaaKnown
import Derived.Test.YtdpdlobaabcjjaaAmZD
namespace Go.Proofs.Ytdpdlobaabcjjaa
open Go Go.Am

@[go_sem] theorem u3 : Try.prog.underlying 3 = some (.int .i64) := by kernel_rfl
@[go_sem] theorem z3 : szOf Try.prog 3 = some 1 := by kernel_rfl
@[go_sem] theorem y3 : bytesOf' Try.prog 3 = some 8 := by kernel_rfl
@[go_sem] theorem g3 : aggT Try.prog 3 = some false := by kernel_rfl
@[go_sem] theorem o3 : zeroV Try.prog 3 = some (.int .i64 0) := by kernel_rfl
@[go_sem] theorem u4 : Try.prog.underlying 4 = some (.bool) := by kernel_rfl
@[go_sem] theorem z4 : szOf Try.prog 4 = some 1 := by kernel_rfl
@[go_sem] theorem y4 : bytesOf' Try.prog 4 = some 1 := by kernel_rfl
@[go_sem] theorem g4 : aggT Try.prog 4 = some false := by kernel_rfl
@[go_sem] theorem o4 : zeroV Try.prog 4 = some (.bool false) := by kernel_rfl
@[go_sem] theorem u22 : Try.prog.underlying 22 = some (.slice 3) := by kernel_rfl
@[go_sem] theorem z22 : szOf Try.prog 22 = some 1 := by kernel_rfl
@[go_sem] theorem y22 : bytesOf' Try.prog 22 = some 24 := by kernel_rfl
@[go_sem] theorem g22 : aggT Try.prog 22 = some false := by kernel_rfl
@[go_sem] theorem o22 : zeroV Try.prog 22 = some .nilslice := by kernel_rfl
theorem s22 : sliceT Try.prog 22 1 = true := by kernel_rfl
@[go_sem] theorem i22 {id g off n : Nat} {cp : Cap} {k : IntKind} {j : Int} (hj : 0 ≤ j ∧ j < n) : indexAddrV Try.prog 22 (.slice id g off n 1 cp) (.int k j) = some (.ptr id g (off + j.toNat * 1)) := ia_slice (by kernel_rfl) hj
@[go_sem] theorem n22 {H : Hp} (id g off n : Nat) (cp : Cap) : lenV Try.prog 22 H (.slice id g off n 1 cp) = some (.int .i64 n) := len_slice (sz := 1) (by kernel_rfl) id g off n 1 cp
@[go_sem] theorem m22 {H : Hp} : lenV Try.prog 22 H .nilslice = some (.int .i64 0) := len_nilslice (sz := 1) (by kernel_rfl)
@[go_sem] theorem u24 : Try.prog.underlying 24 = some (.slice 27) := by kernel_rfl
@[go_sem] theorem z24 : szOf Try.prog 24 = some 1 := by kernel_rfl
@[go_sem] theorem y24 : bytesOf' Try.prog 24 = some 24 := by kernel_rfl
@[go_sem] theorem g24 : aggT Try.prog 24 = some false := by kernel_rfl
@[go_sem] theorem o24 : zeroV Try.prog 24 = some .nilslice := by kernel_rfl
theorem s24 : sliceT Try.prog 24 3 = true := by kernel_rfl
@[go_sem] theorem i24 {id g off n : Nat} {cp : Cap} {k : IntKind} {j : Int} (hj : 0 ≤ j ∧ j < n) : indexAddrV Try.prog 24 (.slice id g off n 3 cp) (.int k j) = some (.ptr id g (off + j.toNat * 3)) := ia_slice (by kernel_rfl) hj
@[go_sem] theorem n24 {H : Hp} (id g off n : Nat) (cp : Cap) : lenV Try.prog 24 H (.slice id g off n 3 cp) = some (.int .i64 n) := len_slice (sz := 3) (by kernel_rfl) id g off n 3 cp
@[go_sem] theorem m24 {H : Hp} : lenV Try.prog 24 H .nilslice = some (.int .i64 0) := len_nilslice (sz := 3) (by kernel_rfl)
@[go_sem] theorem u25 : Try.prog.underlying 25 = some (.slice 28) := by kernel_rfl
@[go_sem] theorem z25 : szOf Try.prog 25 = some 1 := by kernel_rfl
@[go_sem] theorem y25 : bytesOf' Try.prog 25 = some 24 := by kernel_rfl
@[go_sem] theorem g25 : aggT Try.prog 25 = some false := by kernel_rfl
@[go_sem] theorem o25 : zeroV Try.prog 25 = some .nilslice := by kernel_rfl
theorem s25 : sliceT Try.prog 25 3 = true := by kernel_rfl
@[go_sem] theorem i25 {id g off n : Nat} {cp : Cap} {k : IntKind} {j : Int} (hj : 0 ≤ j ∧ j < n) : indexAddrV Try.prog 25 (.slice id g off n 3 cp) (.int k j) = some (.ptr id g (off + j.toNat * 3)) := ia_slice (by kernel_rfl) hj
@[go_sem] theorem n25 {H : Hp} (id g off n : Nat) (cp : Cap) : lenV Try.prog 25 H (.slice id g off n 3 cp) = some (.int .i64 n) := len_slice (sz := 3) (by kernel_rfl) id g off n 3 cp
@[go_sem] theorem m25 {H : Hp} : lenV Try.prog 25 H .nilslice = some (.int .i64 0) := len_nilslice (sz := 3) (by kernel_rfl)
@[go_sem] theorem z27 : szOf Try.prog 27 = some 3 := by kernel_rfl
@[go_sem] theorem y27 : bytesOf' Try.prog 27 = some 24 := by kernel_rfl
@[go_sem] theorem g27 : aggT Try.prog 27 = some true := by kernel_rfl
@[go_sem] theorem o27 : zeroV Try.prog 27 = some (.agg [.int .i64 0, .int .i64 0, .int .i64 0]) := by kernel_rfl
@[go_sem] theorem a27 (id g off i : Nat) : fieldAddrV Try.prog 27 (.ptr id g off) i = fieldAt [0, 1, 2] id g off i := fieldAt_eq (by kernel_rfl) id g off i
@[go_sem] theorem p27 (cs : List V) (i : Nat) : fieldV Try.prog 27 (.agg cs) i = fieldOf Try.prog [(3, 0), (3, 1), (3, 2)] cs i := fieldOf_eq (by kernel_rfl) cs i
@[go_sem] theorem h27 (ps : List (Nat × V)) : buildV Try.prog 27 ps = buildOf [.int .i64 0, .int .i64 0, .int .i64 0] [(0, 1), (1, 1), (2, 1)] ps := buildOf_eq (by kernel_rfl) (by kernel_rfl) ps
@[go_sem] theorem z28 : szOf Try.prog 28 = some 3 := by kernel_rfl
@[go_sem] theorem y28 : bytesOf' Try.prog 28 = some 24 := by kernel_rfl
@[go_sem] theorem g28 : aggT Try.prog 28 = some true := by kernel_rfl
@[go_sem] theorem o28 : zeroV Try.prog 28 = some (.agg [.int .i64 0, .int .i64 0, .int .i64 0]) := by kernel_rfl
@[go_sem] theorem a28 (id g off i : Nat) : fieldAddrV Try.prog 28 (.ptr id g off) i = fieldAt [0, 1, 2] id g off i := fieldAt_eq (by kernel_rfl) id g off i
@[go_sem] theorem p28 (cs : List V) (i : Nat) : fieldV Try.prog 28 (.agg cs) i = fieldOf Try.prog [(3, 0), (3, 1), (3, 2)] cs i := fieldOf_eq (by kernel_rfl) cs i
@[go_sem] theorem h28 (ps : List (Nat × V)) : buildV Try.prog 28 ps = buildOf [.int .i64 0, .int .i64 0, .int .i64 0] [(0, 1), (1, 1), (2, 1)] ps := buildOf_eq (by kernel_rfl) (by kernel_rfl) ps
@[go_sem] theorem u29 : Try.prog.underlying 29 = some (.int .i64) := by kernel_rfl
@[go_sem] theorem z29 : szOf Try.prog 29 = some 1 := by kernel_rfl
@[go_sem] theorem y29 : bytesOf' Try.prog 29 = some 8 := by kernel_rfl
@[go_sem] theorem g29 : aggT Try.prog 29 = some false := by kernel_rfl
@[go_sem] theorem o29 : zeroV Try.prog 29 = some (.int .i64 0) := by kernel_rfl
@[go_sem] theorem z77 : szOf Try.prog 77 = some 1 := by kernel_rfl
@[go_sem] theorem y77 : bytesOf' Try.prog 77 = some 8 := by kernel_rfl
@[go_sem] theorem g77 : aggT Try.prog 77 = some false := by kernel_rfl
@[go_sem] theorem o77 : zeroV Try.prog 77 = some .nilfn := by kernel_rfl
@[go_sem] theorem w24_24 {H : Hp} (s x : V) : builtinV Try.prog .append #[24, 24] [s, x] H = appOf 3 24 H s x := app_eq (by kernel_rfl) s x
@[go_sem] theorem w25_25 {H : Hp} (s x : V) : builtinV Try.prog .append #[25, 25] [s, x] H = appOf 3 24 H s x := app_eq (by kernel_rfl) s x
@[go_sem] theorem q24 {H : Hp} (v : V) : buildSliceV Try.prog 24 1 [(0, v)] H = if v.cells.all V.isCell = true ∧ v.cells.length = 3 then some (.slice H.length 0 0 1 3 .full, H ++ [.row 0 v.cells true]) else none := bs_if u24 z27 o27 rfl (by decide) (by decide) v
@[go_sem] theorem q25 {H : Hp} (v : V) : buildSliceV Try.prog 25 1 [(0, v)] H = if v.cells.all V.isCell = true ∧ v.cells.length = 3 then some (.slice H.length 0 0 1 3 .full, H ++ [.row 0 v.cells true]) else none := bs_if u25 z28 o28 rfl (by decide) (by decide) v
def r3_0 : List Co := [
  ⟨some 2, .assign (.const (.bool false)), none, false, false⟩]
def r3_1 : List Co := [
  ⟨some 16, .move (.tmp 0), none, false, false⟩,
  ⟨some 17, .call ⟨.builtin .len, #[(.tmp 16)], #[22]⟩, none, false, false⟩,
  ⟨some 18, .binOp .gtr 3 (.tmp 17) (.const (.int .i64 800)) 3, none, false, false⟩]
def r3_2 : List Co := [
  ⟨some 19, .call ⟨.value (.func 10), #[], #[]⟩, none, false, false⟩,
  ⟨some 2, .assign (.tmp 19), none, false, false⟩]
def r3_3 : List Co := [
  ⟨some 3, .assign (.const (.slice none 0 0)), none, false, false⟩]
def r3_4 : List Co := [
  ⟨some 4, .assign (.const (.slice none 0 0)), none, false, false⟩]
def r3_5 : List Co := [
  ⟨some 5, .assign (.const (.int .i64 0)), none, false, false⟩]
def r3_6 : List Co := [
  ⟨some 20, .move (.tmp 5), none, false, false⟩,
  ⟨some 21, .move (.tmp 0), none, false, false⟩,
  ⟨some 22, .call ⟨.builtin .len, #[(.tmp 21)], #[22]⟩, none, false, false⟩,
  ⟨some 23, .binOp .lss 3 (.tmp 20) (.tmp 22) 3, none, false, false⟩]
def r3_7 : List Co := [
  ⟨some 26, .move (.tmp 3), none, false, false⟩,
  ⟨some 27, .move (.tmp 0), none, false, false⟩,
  ⟨some 28, .move (.tmp 5), none, false, false⟩,
  ⟨some 29, .indexAddr 22 (.tmp 27) (.tmp 28), none, false, false⟩,
  ⟨some 30, .load 3 (.tmp 29), none, false, false⟩,
  ⟨some 31, .build 27 #[(2, (.tmp 30))], none, false, false⟩,
  ⟨some 32, .buildSlice 24 1 #[(0, (.tmp 31))], none, false, false⟩,
  ⟨some 33, .call ⟨.builtin .append, #[(.tmp 26), (.tmp 32)], #[24, 24]⟩, none, false, false⟩,
  ⟨some 3, .assign (.tmp 33), none, false, false⟩]
def r3_8 : List Co := [
  ⟨some 34, .move (.tmp 4), none, false, false⟩,
  ⟨some 35, .move (.tmp 0), none, false, false⟩,
  ⟨some 36, .move (.tmp 5), none, false, false⟩,
  ⟨some 37, .indexAddr 22 (.tmp 35) (.tmp 36), none, false, false⟩,
  ⟨some 38, .load 3 (.tmp 37), none, false, false⟩,
  ⟨some 39, .build 28 #[(2, (.tmp 38))], none, false, false⟩,
  ⟨some 40, .buildSlice 25 1 #[(0, (.tmp 39))], none, false, false⟩,
  ⟨some 41, .call ⟨.builtin .append, #[(.tmp 34), (.tmp 40)], #[25, 25]⟩, none, false, false⟩,
  ⟨some 4, .assign (.tmp 41), none, false, false⟩]
def r3_9 : List Co := [
  ⟨some 24, .move (.tmp 5), none, false, false⟩,
  ⟨some 25, .binOp .add 3 (.tmp 24) (.const (.int .i64 1)) 3, none, false, false⟩,
  ⟨some 5, .assign (.tmp 25), none, false, false⟩]
def l3_10 : Cc := (.seq (.seq (.reg r3_6) (.cond (.tmp 23) .skip (.exit 0))) (.seq (.block 1 (.seq (.reg r3_7) (.reg r3_8))) (.reg r3_9)))
def r3_11 : List Co := [
  ⟨some 43, .move (.tmp 3), none, false, false⟩,
  ⟨some 44, .call ⟨.value (.func 11), #[(.tmp 43)], #[24]⟩, none, false, false⟩,
  ⟨some 42, .move (.tmp 44), none, false, false⟩,
  ⟨some 45, .extract (.tmp 42) 0, none, false, false⟩,
  ⟨some 46, .extract (.tmp 42) 1, none, false, false⟩,
  ⟨some 47, .extract (.tmp 42) 2, none, false, false⟩,
  ⟨some 48, .extract (.tmp 42) 3, none, false, false⟩,
  ⟨some 49, .extract (.tmp 42) 4, none, false, false⟩,
  ⟨some 6, .assign (.tmp 45), none, false, false⟩,
  ⟨some 7, .assign (.tmp 46), none, false, false⟩,
  ⟨some 8, .assign (.tmp 47), none, false, false⟩,
  ⟨some 9, .assign (.tmp 48), none, false, false⟩,
  ⟨some 10, .assign (.tmp 49), none, false, false⟩]
def r3_12 : List Co := [
  ⟨some 51, .move (.tmp 4), none, false, false⟩,
  ⟨some 52, .call ⟨.value (.func 12), #[(.tmp 51)], #[25]⟩, none, false, false⟩,
  ⟨some 50, .move (.tmp 52), none, false, false⟩,
  ⟨some 53, .extract (.tmp 50) 0, none, false, false⟩,
  ⟨some 54, .extract (.tmp 50) 1, none, false, false⟩,
  ⟨some 55, .extract (.tmp 50) 2, none, false, false⟩,
  ⟨some 56, .extract (.tmp 50) 3, none, false, false⟩,
  ⟨some 57, .extract (.tmp 50) 4, none, false, false⟩,
  ⟨some 11, .assign (.tmp 53), none, false, false⟩,
  ⟨some 12, .assign (.tmp 54), none, false, false⟩,
  ⟨some 13, .assign (.tmp 55), none, false, false⟩,
  ⟨some 14, .assign (.tmp 56), none, false, false⟩,
  ⟨some 15, .assign (.tmp 57), none, false, false⟩]
def r3_13 : List Co := [
  ⟨some 58, .move (.tmp 6), none, false, false⟩,
  ⟨some 59, .move (.tmp 11), none, false, false⟩,
  ⟨some 60, .binOp .eql 3 (.tmp 58) (.tmp 59) 3, none, false, false⟩,
  ⟨some 61, .move (.tmp 60), none, false, false⟩,
  ⟨some 62, .move (.tmp 7), some (61, true), false, false⟩,
  ⟨some 63, .move (.tmp 12), some (61, true), false, false⟩,
  ⟨some 64, .binOp .eql 3 (.tmp 62) (.tmp 63) 3, some (61, true), false, false⟩,
  ⟨some 65, .pick (.tmp 61) (.tmp 64) (.const (.bool false)), none, false, false⟩,
  ⟨some 66, .move (.tmp 65), none, false, false⟩,
  ⟨some 67, .move (.tmp 8), some (66, true), false, false⟩,
  ⟨some 68, .move (.tmp 13), some (66, true), false, false⟩,
  ⟨some 69, .binOp .eql 3 (.tmp 67) (.tmp 68) 3, some (66, true), false, false⟩,
  ⟨some 70, .pick (.tmp 66) (.tmp 69) (.const (.bool false)), none, false, false⟩,
  ⟨some 71, .move (.tmp 70), none, false, false⟩,
  ⟨some 72, .move (.tmp 9), some (71, true), false, false⟩,
  ⟨some 73, .move (.tmp 14), some (71, true), false, false⟩,
  ⟨some 74, .binOp .eql 3 (.tmp 72) (.tmp 73) 3, some (71, true), false, false⟩,
  ⟨some 75, .pick (.tmp 71) (.tmp 74) (.const (.bool false)), none, false, false⟩,
  ⟨some 76, .move (.tmp 75), none, false, false⟩,
  ⟨some 77, .move (.tmp 10), some (76, true), false, false⟩,
  ⟨some 78, .move (.tmp 15), some (76, true), false, false⟩,
  ⟨some 79, .binOp .eql 29 (.tmp 77) (.tmp 78) 29, some (76, true), false, false⟩,
  ⟨some 80, .pick (.tmp 76) (.tmp 79) (.const (.bool false)), none, false, false⟩,
  ⟨some 81, .move (.tmp 80), none, false, false⟩,
  ⟨some 82, .call ⟨.value (.func 10), #[], #[]⟩, some (81, true), false, false⟩,
  ⟨some 83, .pick (.tmp 81) (.tmp 82) (.const (.bool false)), none, false, false⟩,
  ⟨some 2, .assign (.tmp 83), none, false, false⟩]
/-- wireglass/wireglasslaw20.ConvTimes -/
def c3 : Cc := (.seq (.reg r3_0) (.seq (.seq (.reg r3_1) (.cond (.tmp 18) (.seq (.reg r3_2) .ret) .skip)) (.seq (.reg r3_3) (.seq (.reg r3_4) (.seq (.seq (.reg r3_5) (.block 0 (.loop l3_10))) (.seq (.reg r3_11) (.seq (.reg r3_12) (.seq (.reg r3_13) .ret))))))))
def r11_0 : List Co := [
  ⟨some 2, .assign (.const (.int .i64 0)), none, false, false⟩,
  ⟨some 3, .assign (.const (.int .i64 0)), none, false, false⟩,
  ⟨some 4, .assign (.const (.int .i64 0)), none, false, false⟩,
  ⟨some 5, .assign (.const (.int .i64 0)), none, false, false⟩,
  ⟨some 6, .assign (.const (.int .i64 0)), none, false, false⟩]
def r11_1 : List Co := [
  ⟨some 14, .move (.tmp 0), none, false, false⟩,
  ⟨some 15, .call ⟨.builtin .len, #[(.tmp 14)], #[24]⟩, none, false, false⟩,
  ⟨some 16, .binOp .gtr 3 (.tmp 15) (.const (.int .i64 200)) 3, none, false, false⟩,
  ⟨some 13, .assign (.tmp 16), none, false, false⟩]
def r11_2 : List Co := [
  ⟨some 2, .assign (.const (.int .i64 0)), none, false, false⟩,
  ⟨some 3, .assign (.const (.int .i64 0)), none, false, false⟩,
  ⟨some 4, .assign (.const (.int .i64 0)), none, false, false⟩,
  ⟨some 5, .assign (.const (.int .i64 0)), none, false, false⟩,
  ⟨some 6, .assign (.const (.int .i64 3)), none, false, false⟩]
def r11_3 : List Co := [
  ⟨some 18, .move (.tmp 0), none, false, false⟩,
  ⟨some 19, .call ⟨.value (.func 31), #[(.tmp 18), (.func 32)], #[24, 77]⟩, none, false, false⟩,
  ⟨some 17, .assign (.tmp 19), none, false, false⟩]
def r11_4 : List Co := [
  ⟨some 2, .assign (.const (.int .i64 0)), none, false, false⟩,
  ⟨some 3, .assign (.const (.int .i64 0)), none, false, false⟩,
  ⟨some 4, .assign (.const (.int .i64 0)), none, false, false⟩,
  ⟨some 5, .assign (.const (.int .i64 0)), none, false, false⟩,
  ⟨some 6, .assign (.const (.int .i64 1)), none, false, false⟩]
def r11_5 : List Co := [
  ⟨some 21, .move (.tmp 0), none, false, false⟩,
  ⟨some 22, .call ⟨.builtin .len, #[(.tmp 21)], #[24]⟩, none, false, false⟩,
  ⟨some 23, .binOp .eql 3 (.tmp 22) (.const (.int .i64 0)) 3, none, false, false⟩,
  ⟨some 20, .assign (.tmp 23), none, false, false⟩]
def r11_6 : List Co := [
  ⟨some 2, .assign (.const (.int .i64 0)), none, false, false⟩,
  ⟨some 3, .assign (.const (.int .i64 0)), none, false, false⟩,
  ⟨some 4, .assign (.const (.int .i64 0)), none, false, false⟩,
  ⟨some 5, .assign (.const (.int .i64 0)), none, false, false⟩,
  ⟨some 6, .assign (.const (.int .i64 0)), none, false, false⟩]
def r11_7 : List Co := [
  ⟨some 7, .assign (.const (.int .i64 1000000000000000)), none, false, false⟩,
  ⟨some 8, .assign (.const (.int .i64 0)), none, false, false⟩,
  ⟨some 9, .assign (.const (.int .i64 0)), none, false, false⟩]
def r11_8 : List Co := [
  ⟨some 24, .move (.tmp 0), none, false, false⟩,
  ⟨some 25, .call ⟨.builtin .len, #[(.tmp 24)], #[24]⟩, none, false, false⟩,
  ⟨some 26, .move (.const (.int .i64 0)), none, false, false⟩]
def r11_9 : List Co := [
  ⟨some 27, .binOp .lss 3 (.tmp 26) (.tmp 25) 3, none, false, false⟩]
def r11_10 : List Co := [
  ⟨some 28, .indexAddr 24 (.tmp 24) (.tmp 26), none, false, false⟩,
  ⟨some 29, .load 27 (.tmp 28), none, false, false⟩,
  ⟨some 11, .alloc 27, none, false, false⟩,
  ⟨none, .store 27 (.tmp 11) (.tmp 29), none, false, false⟩]
def r11_11 : List Co := [
  ⟨some 30, .move (.tmp 7), none, false, false⟩,
  ⟨some 31, .fieldAddr 27 (.tmp 11) 2, none, false, false⟩,
  ⟨some 32, .load 3 (.tmp 31), none, false, false⟩,
  ⟨some 33, .call ⟨.builtin .min, #[(.tmp 30), (.tmp 32)], #[3, 3]⟩, none, false, false⟩,
  ⟨some 34, .move (.tmp 8), none, false, false⟩,
  ⟨some 35, .fieldAddr 27 (.tmp 11) 2, none, false, false⟩,
  ⟨some 36, .load 3 (.tmp 35), none, false, false⟩,
  ⟨some 37, .call ⟨.builtin .max, #[(.tmp 34), (.tmp 36)], #[3, 3]⟩, none, false, false⟩,
  ⟨some 7, .assign (.tmp 33), none, false, false⟩,
  ⟨some 8, .assign (.tmp 37), none, false, false⟩]
def r11_12 : List Co := [
  ⟨some 38, .move (.tmp 9), none, false, false⟩,
  ⟨some 39, .fieldAddr 27 (.tmp 11) 2, none, false, false⟩,
  ⟨some 40, .load 3 (.tmp 39), none, false, false⟩,
  ⟨some 41, .binOp .add 3 (.tmp 38) (.tmp 40) 3, none, false, false⟩,
  ⟨some 9, .assign (.tmp 41), none, false, false⟩]
def r11_13 : List Co := [
  ⟨some 42, .binOp .add 3 (.tmp 26) (.const (.int .i64 1)) 3, none, false, false⟩,
  ⟨some 26, .move (.tmp 42), none, false, false⟩]
def l11_14 : Cc := (.seq (.reg r11_9) (.seq (.cond (.tmp 27) .skip (.exit 1)) (.seq (.block 2 (.seq (.reg r11_10) (.seq (.reg r11_11) (.reg r11_12)))) (.reg r11_13))))
def r11_15 : List Co := [
  ⟨some 43, .move (.tmp 0), none, false, false⟩,
  ⟨some 44, .call ⟨.builtin .len, #[(.tmp 43)], #[24]⟩, none, false, false⟩,
  ⟨some 12, .assign (.tmp 44), none, false, false⟩]
def r11_16 : List Co := [
  ⟨some 45, .move (.tmp 12), none, false, false⟩,
  ⟨some 46, .move (.tmp 7), none, false, false⟩,
  ⟨some 47, .move (.tmp 8), none, false, false⟩,
  ⟨some 48, .move (.tmp 9), none, false, false⟩,
  ⟨some 49, .binOp .mul 3 (.const (.int .i64 2)) (.tmp 48) 3, none, false, false⟩,
  ⟨some 50, .move (.tmp 12), none, false, false⟩,
  ⟨some 51, .binOp .add 3 (.tmp 49) (.tmp 50) 3, none, false, false⟩,
  ⟨some 52, .move (.tmp 12), none, false, false⟩,
  ⟨some 53, .binOp .mul 3 (.const (.int .i64 2)) (.tmp 52) 3, none, false, false⟩,
  ⟨some 54, .binOp .quo 3 (.tmp 51) (.tmp 53) 3, none, false, false⟩,
  ⟨some 2, .assign (.tmp 45), none, false, false⟩,
  ⟨some 3, .assign (.tmp 46), none, false, false⟩,
  ⟨some 4, .assign (.tmp 47), none, false, false⟩,
  ⟨some 5, .assign (.tmp 54), none, false, false⟩,
  ⟨some 6, .assign (.const (.int .i64 0)), none, false, false⟩]
/-- wireglass/conv.Times -/
def c11 : Cc := (.seq (.reg r11_0) (.seq (.block 0 (.seq (.reg r11_1) (.cond (.tmp 13) (.seq (.reg r11_2) .ret) (.seq (.reg r11_3) (.cond (.tmp 17) (.seq (.reg r11_4) .ret) (.seq (.reg r11_5) (.cond (.tmp 20) (.seq (.reg r11_6) .ret) .skip))))))) (.seq (.reg r11_7) (.seq (.seq (.reg r11_8) (.block 1 (.loop l11_14))) (.seq (.reg r11_15) (.seq (.reg r11_16) .ret))))))
def r12_0 : List Co := [
  ⟨some 2, .assign (.const (.int .i64 0)), none, false, false⟩,
  ⟨some 3, .assign (.const (.int .i64 0)), none, false, false⟩,
  ⟨some 4, .assign (.const (.int .i64 0)), none, false, false⟩,
  ⟨some 5, .assign (.const (.int .i64 0)), none, false, false⟩,
  ⟨some 6, .assign (.const (.int .i64 0)), none, false, false⟩]
def r12_1 : List Co := [
  ⟨some 12, .move (.tmp 0), none, false, false⟩,
  ⟨some 13, .call ⟨.builtin .len, #[(.tmp 12)], #[25]⟩, none, false, false⟩,
  ⟨some 14, .binOp .gtr 3 (.tmp 13) (.const (.int .i64 200)) 3, none, false, false⟩]
def r12_2 : List Co := [
  ⟨some 2, .assign (.const (.int .i64 0)), none, false, false⟩,
  ⟨some 3, .assign (.const (.int .i64 0)), none, false, false⟩,
  ⟨some 4, .assign (.const (.int .i64 0)), none, false, false⟩,
  ⟨some 5, .assign (.const (.int .i64 0)), none, false, false⟩,
  ⟨some 6, .assign (.const (.int .i64 3)), none, false, false⟩]
def r12_3 : List Co := [
  ⟨some 7, .assign (.const (.int .i64 0)), none, false, false⟩,
  ⟨some 8, .assign (.const (.int .i64 0)), none, false, false⟩,
  ⟨some 9, .assign (.const (.int .i64 0)), none, false, false⟩]
def r12_4 : List Co := [
  ⟨some 10, .assign (.const (.int .i64 0)), none, false, false⟩]
def r12_5 : List Co := [
  ⟨some 15, .move (.tmp 10), none, false, false⟩,
  ⟨some 16, .move (.tmp 0), none, false, false⟩,
  ⟨some 17, .call ⟨.builtin .len, #[(.tmp 16)], #[25]⟩, none, false, false⟩,
  ⟨some 18, .binOp .lss 3 (.tmp 15) (.tmp 17) 3, none, false, false⟩]
def r12_6 : List Co := [
  ⟨some 21, .move (.tmp 0), none, false, false⟩,
  ⟨some 22, .move (.tmp 10), none, false, false⟩,
  ⟨some 23, .indexAddr 25 (.tmp 21) (.tmp 22), none, false, false⟩,
  ⟨some 24, .fieldAddr 28 (.tmp 23) 2, none, false, false⟩,
  ⟨some 25, .load 3 (.tmp 24), none, false, false⟩,
  ⟨some 11, .assign (.tmp 25), none, false, false⟩]
def r12_7 : List Co := [
  ⟨some 26, .move (.tmp 11), none, false, false⟩,
  ⟨some 27, .call ⟨.value (.func 34), #[(.tmp 26), (.const (.int .i64 1000000000000000))], #[3, 3]⟩, none, false, false⟩,
  ⟨some 28, .unOp .not 4 (.tmp 27), none, false, false⟩]
def r12_8 : List Co := [
  ⟨some 2, .assign (.const (.int .i64 0)), none, false, false⟩,
  ⟨some 3, .assign (.const (.int .i64 0)), none, false, false⟩,
  ⟨some 4, .assign (.const (.int .i64 0)), none, false, false⟩,
  ⟨some 5, .assign (.const (.int .i64 0)), none, false, false⟩,
  ⟨some 6, .assign (.const (.int .i64 1)), none, false, false⟩]
def r12_9 : List Co := [
  ⟨some 29, .move (.tmp 10), none, false, false⟩,
  ⟨some 30, .binOp .eql 3 (.tmp 29) (.const (.int .i64 0)) 3, none, false, false⟩,
  ⟨some 31, .move (.tmp 30), none, false, false⟩,
  ⟨some 32, .move (.tmp 11), some (31, false), false, false⟩,
  ⟨some 33, .move (.tmp 7), some (31, false), false, false⟩,
  ⟨some 34, .binOp .lss 3 (.tmp 32) (.tmp 33) 3, some (31, false), false, false⟩,
  ⟨some 35, .pick (.tmp 31) (.const (.bool true)) (.tmp 34), none, false, false⟩]
def r12_10 : List Co := [
  ⟨some 36, .move (.tmp 11), none, false, false⟩,
  ⟨some 7, .assign (.tmp 36), none, false, false⟩]
def r12_11 : List Co := [
  ⟨some 37, .move (.tmp 8), none, false, false⟩,
  ⟨some 38, .move (.tmp 11), none, false, false⟩,
  ⟨some 39, .call ⟨.builtin .max, #[(.tmp 37), (.tmp 38)], #[3, 3]⟩, none, false, false⟩,
  ⟨some 8, .assign (.tmp 39), none, false, false⟩]
def r12_12 : List Co := [
  ⟨some 40, .move (.tmp 9), none, false, false⟩,
  ⟨some 41, .move (.tmp 11), none, false, false⟩,
  ⟨some 42, .binOp .add 3 (.tmp 40) (.tmp 41) 3, none, false, false⟩,
  ⟨some 9, .assign (.tmp 42), none, false, false⟩]
def r12_13 : List Co := [
  ⟨some 19, .move (.tmp 10), none, false, false⟩,
  ⟨some 20, .binOp .add 3 (.tmp 19) (.const (.int .i64 1)) 3, none, false, false⟩,
  ⟨some 10, .assign (.tmp 20), none, false, false⟩]
def l12_14 : Cc := (.seq (.seq (.reg r12_5) (.cond (.tmp 18) .skip (.exit 0))) (.seq (.block 1 (.seq (.reg r12_6) (.seq (.seq (.reg r12_7) (.cond (.tmp 28) (.seq (.reg r12_8) .ret) .skip)) (.seq (.seq (.reg r12_9) (.cond (.tmp 35) (.reg r12_10) .skip)) (.seq (.reg r12_11) (.reg r12_12)))))) (.reg r12_13)))
def r12_15 : List Co := [
  ⟨some 43, .move (.tmp 0), none, false, false⟩,
  ⟨some 44, .call ⟨.builtin .len, #[(.tmp 43)], #[25]⟩, none, false, false⟩,
  ⟨some 45, .binOp .eql 3 (.tmp 44) (.const (.int .i64 0)) 3, none, false, false⟩]
def r12_16 : List Co := [
  ⟨some 2, .assign (.const (.int .i64 0)), none, false, false⟩,
  ⟨some 3, .assign (.const (.int .i64 0)), none, false, false⟩,
  ⟨some 4, .assign (.const (.int .i64 0)), none, false, false⟩,
  ⟨some 5, .assign (.const (.int .i64 0)), none, false, false⟩,
  ⟨some 6, .assign (.const (.int .i64 0)), none, false, false⟩]
def r12_17 : List Co := [
  ⟨some 46, .move (.tmp 0), none, false, false⟩,
  ⟨some 47, .call ⟨.builtin .len, #[(.tmp 46)], #[25]⟩, none, false, false⟩,
  ⟨some 48, .move (.tmp 7), none, false, false⟩,
  ⟨some 49, .move (.tmp 8), none, false, false⟩,
  ⟨some 50, .move (.tmp 9), none, false, false⟩,
  ⟨some 51, .binOp .mul 3 (.const (.int .i64 2)) (.tmp 50) 3, none, false, false⟩,
  ⟨some 52, .move (.tmp 0), none, false, false⟩,
  ⟨some 53, .call ⟨.builtin .len, #[(.tmp 52)], #[25]⟩, none, false, false⟩,
  ⟨some 54, .binOp .add 3 (.tmp 51) (.tmp 53) 3, none, false, false⟩,
  ⟨some 55, .move (.tmp 0), none, false, false⟩,
  ⟨some 56, .call ⟨.builtin .len, #[(.tmp 55)], #[25]⟩, none, false, false⟩,
  ⟨some 57, .binOp .mul 3 (.const (.int .i64 2)) (.tmp 56) 3, none, false, false⟩,
  ⟨some 58, .binOp .quo 3 (.tmp 54) (.tmp 57) 3, none, false, false⟩,
  ⟨some 2, .assign (.tmp 47), none, false, false⟩,
  ⟨some 3, .assign (.tmp 48), none, false, false⟩,
  ⟨some 4, .assign (.tmp 49), none, false, false⟩,
  ⟨some 5, .assign (.tmp 58), none, false, false⟩,
  ⟨some 6, .assign (.const (.int .i64 0)), none, false, false⟩]
/-- wireglass/wireglassref20.Times -/
def c12 : Cc := (.seq (.reg r12_0) (.seq (.seq (.reg r12_1) (.cond (.tmp 14) (.seq (.reg r12_2) .ret) .skip)) (.seq (.reg r12_3) (.seq (.seq (.reg r12_4) (.block 0 (.loop l12_14))) (.seq (.seq (.reg r12_15) (.cond (.tmp 45) (.seq (.reg r12_16) .ret) .skip)) (.seq (.reg r12_17) .ret))))))
def r31_0 : List Co := [
  ⟨some 3, .box 77 (.tmp 1), none, false, false⟩,
  ⟨some 4, .assign (.const (.bool false)), none, false, false⟩]
def r31_1 : List Co := [
  ⟨some 5, .move (.tmp 0), none, false, false⟩,
  ⟨some 6, .makeFunc (.func 69) #[] #[(.tmp 3)], none, false, false⟩,
  ⟨some 7, .call ⟨.value (.func 68), #[(.tmp 5), (.tmp 6)], #[24, 77]⟩, none, false, false⟩,
  ⟨some 4, .assign (.tmp 7), none, false, false⟩]
/-- wireglass/conv.wrong[wireglass/conv.Pair] -/
def c31 : Cc := (.seq (.reg r31_0) (.seq (.reg r31_1) .ret))
def r32_0 : List Co := [
  ⟨some 1, .box 27 (.tmp 0), none, false, false⟩,
  ⟨some 2, .assign (.const (.bool false)), none, false, false⟩]
def r32_1 : List Co := [
  ⟨some 3, .fieldAddr 27 (.tmp 1) 2, none, false, false⟩,
  ⟨some 4, .load 3 (.tmp 3), none, false, false⟩,
  ⟨some 5, .call ⟨.value (.func 33), #[(.tmp 4), (.const (.int .i64 1000000000000000))], #[3, 3]⟩, none, false, false⟩,
  ⟨some 2, .assign (.tmp 5), none, false, false⟩]
/-- wireglass/conv.Times$1 -/
def c32 : Cc := (.seq (.reg r32_0) (.seq (.reg r32_1) .ret))
def r33_0 : List Co := [
  ⟨some 4, .assign (.const (.bool false)), none, false, false⟩]
def r33_1 : List Co := [
  ⟨some 5, .move (.tmp 0), none, false, false⟩,
  ⟨some 6, .binOp .geq 3 (.tmp 5) (.const (.int .i64 0)) 3, none, false, false⟩,
  ⟨some 7, .move (.tmp 6), none, false, false⟩,
  ⟨some 8, .move (.tmp 0), some (7, true), false, false⟩,
  ⟨some 9, .move (.tmp 1), some (7, true), false, false⟩,
  ⟨some 10, .binOp .leq 3 (.tmp 8) (.tmp 9) 3, some (7, true), false, false⟩,
  ⟨some 11, .pick (.tmp 7) (.tmp 10) (.const (.bool false)), none, false, false⟩,
  ⟨some 4, .assign (.tmp 11), none, false, false⟩]
/-- wireglass/conv.within -/
def c33 : Cc := (.seq (.reg r33_0) (.seq (.reg r33_1) .ret))
def r34_0 : List Co := [
  ⟨some 4, .assign (.const (.bool false)), none, false, false⟩]
def r34_1 : List Co := [
  ⟨some 5, .move (.tmp 0), none, false, false⟩,
  ⟨some 6, .binOp .geq 3 (.tmp 5) (.const (.int .i64 0)) 3, none, false, false⟩,
  ⟨some 7, .move (.tmp 6), none, false, false⟩,
  ⟨some 8, .move (.tmp 0), some (7, true), false, false⟩,
  ⟨some 9, .move (.tmp 1), some (7, true), false, false⟩,
  ⟨some 10, .binOp .leq 3 (.tmp 8) (.tmp 9) 3, some (7, true), false, false⟩,
  ⟨some 11, .pick (.tmp 7) (.tmp 10) (.const (.bool false)), none, false, false⟩,
  ⟨some 4, .assign (.tmp 11), none, false, false⟩]
/-- wireglass/wireglassref20.within -/
def c34 : Cc := (.seq (.reg r34_0) (.seq (.reg r34_1) .ret))
def r68_0 : List Co := [
  ⟨some 4, .assign (.const (.bool false)), none, false, false⟩]
def r68_1 : List Co := [
  ⟨some 5, .move (.tmp 0), none, false, false⟩,
  ⟨some 6, .move (.tmp 1), none, false, false⟩,
  ⟨some 7, .call ⟨.value (.func 86), #[(.tmp 5), (.tmp 6)], #[24, 77]⟩, none, false, false⟩,
  ⟨some 8, .binOp .geq 3 (.tmp 7) (.const (.int .i64 0)) 3, none, false, false⟩,
  ⟨some 4, .assign (.tmp 8), none, false, false⟩]
/-- slices.ContainsFunc[[]wireglass/conv.Pair,wireglass/conv.Pair] -/
def c68 : Cc := (.seq (.reg r68_0) (.seq (.reg r68_1) .ret))
def r69_0 : List Co := [
  ⟨some 2, .box 27 (.tmp 0), none, false, false⟩,
  ⟨some 3, .assign (.const (.bool false)), none, false, false⟩]
def r69_1 : List Co := [
  ⟨some 4, .load 77 (.tmp 1), none, false, false⟩,
  ⟨some 5, .load 27 (.tmp 2), none, false, false⟩,
  ⟨some 6, .call ⟨.value (.tmp 4), #[(.tmp 5)], #[27]⟩, none, false, false⟩,
  ⟨some 7, .unOp .not 4 (.tmp 6), none, false, false⟩,
  ⟨some 3, .assign (.tmp 7), none, false, false⟩]
/-- wireglass/conv.wrong[wireglass/conv.Pair]$1 -/
def c69 : Cc := (.seq (.reg r69_0) (.seq (.reg r69_1) .ret))
def r86_0 : List Co := [
  ⟨some 4, .assign (.const (.int .i64 0)), none, false, false⟩]
def r86_1 : List Co := [
  ⟨some 6, .move (.tmp 0), none, false, false⟩,
  ⟨some 7, .call ⟨.builtin .len, #[(.tmp 6)], #[24]⟩, none, false, false⟩,
  ⟨some 8, .move (.const (.int .i64 0)), none, false, false⟩]
def r86_2 : List Co := [
  ⟨some 9, .binOp .lss 3 (.tmp 8) (.tmp 7) 3, none, false, false⟩]
def r86_3 : List Co := [
  ⟨some 10, .move (.tmp 8), none, false, false⟩,
  ⟨some 5, .assign (.tmp 10), none, false, false⟩]
def r86_4 : List Co := [
  ⟨some 11, .move (.tmp 1), none, false, false⟩,
  ⟨some 12, .move (.tmp 0), none, false, false⟩,
  ⟨some 13, .move (.tmp 5), none, false, false⟩,
  ⟨some 14, .indexAddr 24 (.tmp 12) (.tmp 13), none, false, false⟩,
  ⟨some 15, .load 27 (.tmp 14), none, false, false⟩,
  ⟨some 16, .call ⟨.value (.tmp 11), #[(.tmp 15)], #[27]⟩, none, false, false⟩]
def r86_5 : List Co := [
  ⟨some 17, .move (.tmp 5), none, false, false⟩,
  ⟨some 4, .assign (.tmp 17), none, false, false⟩]
def r86_6 : List Co := [
  ⟨some 18, .binOp .add 3 (.tmp 8) (.const (.int .i64 1)) 3, none, false, false⟩,
  ⟨some 8, .move (.tmp 18), none, false, false⟩]
def l86_7 : Cc := (.seq (.reg r86_2) (.seq (.cond (.tmp 9) .skip (.exit 0)) (.seq (.block 1 (.seq (.reg r86_3) (.seq (.reg r86_4) (.cond (.tmp 16) (.seq (.reg r86_5) .ret) .skip)))) (.reg r86_6))))
def r86_8 : List Co := [
  ⟨some 4, .assign (.const (.int .i64 (-1))), none, false, false⟩]
/-- slices.IndexFunc[[]wireglass/conv.Pair,wireglass/conv.Pair] -/
def c86 : Cc := (.seq (.reg r86_0) (.seq (.seq (.reg r86_1) (.block 0 (.loop l86_7))) (.seq (.reg r86_8) .ret)))
def rs3 : List ResultVar := [.tmp 2]
set_option maxRecDepth 100000 in
theorem run3 {args : List V} {H : Hp} {R : V → Hp → Prop} (ha : args.length ≤ 84) (h : Wp Try.prog (callL Try.prog pr) 84 c3 args [] H (RetQ Try.prog rs3 R)) : ∃ v H', R v H' ∧ callL Try.prog pr 3 args H = some (gcC H (v, H')) :=
  call_of (fn := Try.f3) rfl Try.func3 rfl (by kernel_rfl) rfl (Nat.max_eq_right ha) h
def rs11 : List ResultVar := [.tmp 2, .tmp 3, .tmp 4, .tmp 5, .tmp 6]
set_option maxRecDepth 100000 in
theorem run11 {args : List V} {H : Hp} {R : V → Hp → Prop} (ha : args.length ≤ 55) (h : Wp Try.prog (callL Try.prog pr) 55 c11 args [] H (RetQ Try.prog rs11 R)) : ∃ v H', R v H' ∧ callL Try.prog pr 11 args H = some (gcC H (v, H')) :=
  call_of (fn := Try.f11) rfl Try.func11 rfl (by kernel_rfl) rfl (Nat.max_eq_right ha) h
def rs12 : List ResultVar := [.tmp 2, .tmp 3, .tmp 4, .tmp 5, .tmp 6]
set_option maxRecDepth 100000 in
theorem run12 {args : List V} {H : Hp} {R : V → Hp → Prop} (ha : args.length ≤ 59) (h : Wp Try.prog (callL Try.prog pr) 59 c12 args [] H (RetQ Try.prog rs12 R)) : ∃ v H', R v H' ∧ callL Try.prog pr 12 args H = some (gcC H (v, H')) :=
  call_of (fn := Try.f12) rfl Try.func12 rfl (by kernel_rfl) rfl (Nat.max_eq_right ha) h
def rs31 : List ResultVar := [.tmp 4]
set_option maxRecDepth 100000 in
theorem run31 {args : List V} {H : Hp} {R : V → Hp → Prop} (ha : args.length ≤ 8) (h : Wp Try.prog (callL Try.prog pr) 8 c31 args [] H (RetQ Try.prog rs31 R)) : ∃ v H', R v H' ∧ callL Try.prog pr 31 args H = some (gcC H (v, H')) :=
  call_of (fn := Try.f31) rfl Try.func31 rfl (by kernel_rfl) rfl (Nat.max_eq_right ha) h
def rs32 : List ResultVar := [.tmp 2]
set_option maxRecDepth 100000 in
theorem run32 {args : List V} {H : Hp} {R : V → Hp → Prop} (ha : args.length ≤ 6) (h : Wp Try.prog (callL Try.prog pr) 6 c32 args [] H (RetQ Try.prog rs32 R)) : ∃ v H', R v H' ∧ callL Try.prog pr 32 args H = some (gcC H (v, H')) :=
  call_of (fn := Try.f32) rfl Try.func32 rfl (by kernel_rfl) rfl (Nat.max_eq_right ha) h
def rs33 : List ResultVar := [.tmp 4]
set_option maxRecDepth 100000 in
theorem run33 {args : List V} {H : Hp} {R : V → Hp → Prop} (ha : args.length ≤ 12) (h : Wp Try.prog (callL Try.prog pr) 12 c33 args [] H (RetQ Try.prog rs33 R)) : ∃ v H', R v H' ∧ callL Try.prog pr 33 args H = some (gcC H (v, H')) :=
  call_of (fn := Try.f33) rfl Try.func33 rfl (by kernel_rfl) rfl (Nat.max_eq_right ha) h
def rs34 : List ResultVar := [.tmp 4]
set_option maxRecDepth 100000 in
theorem run34 {args : List V} {H : Hp} {R : V → Hp → Prop} (ha : args.length ≤ 12) (h : Wp Try.prog (callL Try.prog pr) 12 c34 args [] H (RetQ Try.prog rs34 R)) : ∃ v H', R v H' ∧ callL Try.prog pr 34 args H = some (gcC H (v, H')) :=
  call_of (fn := Try.f34) rfl Try.func34 rfl (by kernel_rfl) rfl (Nat.max_eq_right ha) h
def rs68 : List ResultVar := [.tmp 4]
set_option maxRecDepth 100000 in
theorem run68 {args : List V} {H : Hp} {R : V → Hp → Prop} (ha : args.length ≤ 9) (h : Wp Try.prog (callL Try.prog pr) 9 c68 args [] H (RetQ Try.prog rs68 R)) : ∃ v H', R v H' ∧ callL Try.prog pr 68 args H = some (gcC H (v, H')) :=
  call_of (fn := Try.f68) rfl Try.func68 rfl (by kernel_rfl) rfl (Nat.max_eq_right ha) h
def rs69 : List ResultVar := [.tmp 3]
set_option maxRecDepth 100000 in
theorem run69 {args : List V} {H : Hp} {R : V → Hp → Prop} (ha : args.length ≤ 8) (h : Wp Try.prog (callL Try.prog pr) 8 c69 args [] H (RetQ Try.prog rs69 R)) : ∃ v H', R v H' ∧ callL Try.prog pr 69 args H = some (gcC H (v, H')) :=
  call_of (fn := Try.f69) rfl Try.func69 rfl (by kernel_rfl) rfl (Nat.max_eq_right ha) h
def rs86 : List ResultVar := [.tmp 4]
set_option maxRecDepth 100000 in
theorem run86 {args : List V} {H : Hp} {R : V → Hp → Prop} (ha : args.length ≤ 19) (h : Wp Try.prog (callL Try.prog pr) 19 c86 args [] H (RetQ Try.prog rs86 R)) : ∃ v H', R v H' ∧ callL Try.prog pr 86 args H = some (gcC H (v, H')) :=
  call_of (fn := Try.f86) rfl Try.func86 rfl (by kernel_rfl) rfl (Nat.max_eq_right ha) h
end Go.Proofs.Ytdpdlobaabcjjaa
