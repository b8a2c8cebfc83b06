/-
  Texts of this seat, laid together. No statement of the seat stands here.
-/
import Derived.Test.YteeofpgnjekeaaaGreatDoorP4
/-
  What this seat's program gives to the abstract machine: its types, its functions' code in short form (printed by a tool). No statement of the seat stands here.
-/
namespace Go.Proofs.YteeofpgnjekeaaaGreatDoor
open Go Go.An

abbrev ExP (k n : Nat) (c : Cc) (rs : List ResultVar) : Prop := ∀ {args : List V} {H : Hp} {R : V × Hp → Prop}, args.length ≤ n → Wp Tryz.prog (callL Tryz.prog pr) n c args [] H (RetQ Tryz.prog rs fun v H' => R (pr.gc k H (v, H'))) → ∃ r, callL Tryz.prog pr k args H = some r ∧ R r
abbrev RunP (k n : Nat) (c : Cc) (rs : List ResultVar) : Prop := ∀ {args : List V} {H : Hp} {r : V × Hp}, args.length ≤ n → Wp Tryz.prog (callL Tryz.prog pr) n c args [] H (RetQ Tryz.prog rs fun v H' => pr.gc k H (v, H') = r) → callL Tryz.prog pr k args H = some r
theorem run_of {k n : Nat} {c : Cc} {rs : List ResultVar} (h : ExP k n c rs) : RunP k n c rs := @fun _ _ r ha hw => by
  obtain ⟨_, h1, rfl⟩ := h (R := fun x => x = r) ha hw
  exact h1
abbrev ExPD (k n : Nat) (c : Cc) (rs : List ResultVar) : Prop := ∀ {args : List V} {H : Hp} {R : V × Hp → Prop}, args.length ≤ n → Wp Tryz.prog (callL Tryz.prog pr) n c args [] H (RetD Tryz.prog pr rs fun v H' => R (pr.gc k H (v, H'))) → ∃ r, callL Tryz.prog pr k args H = some r ∧ R r
abbrev RunPD (k n : Nat) (c : Cc) (rs : List ResultVar) : Prop := ∀ {args : List V} {H : Hp} {r : V × Hp}, args.length ≤ n → Wp Tryz.prog (callL Tryz.prog pr) n c args [] H (RetD Tryz.prog pr rs fun v H' => pr.gc k H (v, H') = r) → callL Tryz.prog pr k args H = some r
theorem run_ofD {k n : Nat} {c : Cc} {rs : List ResultVar} (h : ExPD k n c rs) : RunPD k n c rs := @fun _ _ r ha hw => by
  obtain ⟨_, h1, rfl⟩ := h (R := fun x => x = r) ha hw
  exact h1
def rngs : Code → List (Code × Code)
  | .rangeFunc _ _ a b => [(a, b)]
  | .seq a b | .cond _ a b => rngs a ++ rngs b
  | .block _ b | .loop b => rngs b
  | _ => []
theorem gcOne {k : Nat} (h : modeOf k = 1) (H : Hp) (r : V × Hp) : pr.gc k H r = gcF H r := (show pr.gc k H r = gcM modeOf k H r from rfl).trans (gcM_one h H r)
theorem gcZero {k : Nat} (h : modeOf k = 0) (H : Hp) (r : V × Hp) : pr.gc k H r = r := (show pr.gc k H r = gcM modeOf k H r from rfl).trans (gcM_zero h H r)
theorem gcTwo {k : Nat} (h : modeOf k = 2) (H : Hp) (r : V × Hp) : pr.gc k H r = gcC H r := (show pr.gc k H r = gcM modeOf k H r from rfl).trans (gcM_two h H r)
noncomputable section
@[go_sem] theorem u3 : Tryz.prog.underlying 3 = some (.int .i64) := by kernel_rfl
@[go_sem] theorem z3 : szOf Tryz.prog 3 = some 1 := by kernel_rfl
@[go_sem] theorem y3 : bytesOf' Tryz.prog 3 = some 8 := by kernel_rfl
@[go_sem] theorem g3 : aggT Tryz.prog 3 = some false := by kernel_rfl
@[go_sem] theorem o3 : zeroV Tryz.prog 3 = some (.int .i64 0) := by kernel_rfl
@[go_sem] theorem u4 : Tryz.prog.underlying 4 = some (.bool) := by kernel_rfl
@[go_sem] theorem z4 : szOf Tryz.prog 4 = some 1 := by kernel_rfl
@[go_sem] theorem y4 : bytesOf' Tryz.prog 4 = some 1 := by kernel_rfl
@[go_sem] theorem g4 : aggT Tryz.prog 4 = some false := by kernel_rfl
@[go_sem] theorem o4 : zeroV Tryz.prog 4 = some (.bool false) := by kernel_rfl
@[go_sem] theorem u22 : Tryz.prog.underlying 22 = some (.int .i64) := by kernel_rfl
@[go_sem] theorem z22 : szOf Tryz.prog 22 = some 1 := by kernel_rfl
@[go_sem] theorem y22 : bytesOf' Tryz.prog 22 = some 8 := by kernel_rfl
@[go_sem] theorem g22 : aggT Tryz.prog 22 = some false := by kernel_rfl
@[go_sem] theorem o22 : zeroV Tryz.prog 22 = some (.int .i64 0) := by kernel_rfl
@[go_sem] theorem u27 : Tryz.prog.underlying 27 = some (.slice 3) := by kernel_rfl
@[go_sem] theorem z27 : szOf Tryz.prog 27 = some 1 := by kernel_rfl
@[go_sem] theorem y27 : bytesOf' Tryz.prog 27 = some 24 := by kernel_rfl
@[go_sem] theorem g27 : aggT Tryz.prog 27 = some false := by kernel_rfl
@[go_sem] theorem o27 : zeroV Tryz.prog 27 = some .nilslice := by kernel_rfl
theorem s27 : sliceT Tryz.prog 27 1 = true := by kernel_rfl
@[go_sem] theorem i27 {id g off n : Nat} {cp : Cap} {k : IntKind} {j : Int} (hj : 0 ≤ j ∧ j < n) : indexAddrV Tryz.prog 27 (.slice id g off n 1 cp) (.int k j) = some (.ptr id g (off + j.toNat * 1)) := ia_slice (by kernel_rfl) hj
@[go_sem] theorem n27 {H : Hp} (id g off n : Nat) (cp : Cap) : lenV Tryz.prog 27 H (.slice id g off n 1 cp) = some (.int .i64 n) := len_slice (sz := 1) (by kernel_rfl) id g off n 1 cp
@[go_sem] theorem is27 {α : Type} {E : Enc α} {l : List α} {b : Bool} {k : IntKind} {j : Int} (hw : E.w = 1) (hj : 0 ≤ j ∧ j < (l.length : Int)) : indexAddrV Tryz.prog 27 (slV b E l) (.int k j) = some (.ipt (flatE E l) (j.toNat * 1)) := idx_slV s27 hw hj
@[go_sem] theorem ns27 {α : Type} {H : Hp} (b : Bool) (E : Enc α) (l : List α) : lenV Tryz.prog 27 H (slV b E l) = some (.int .i64 l.length) := len_slV s27 b E l
@[go_sem] theorem nb27 {H : Hp} (n g w : Nat) (xs : List (List V)) : lenV Tryz.prog 27 H (blV n g w xs) = some (.int .i64 xs.length) := len_blV s27 n g w xs
@[go_sem] theorem lo27 {H : Hp} (x : V) (hi : Option V) : sliceV Tryz.prog 27 H x none hi = sliceV Tryz.prog 27 H x (some (.int .i64 0)) hi := lo_slV ⟨_, u27⟩
@[go_sem] theorem hi27 {α : Type} {E : Enc α} {l : List α} {b : Bool} {H : Hp} (lo : Option V) : sliceV Tryz.prog 27 H (slV b E l) lo none = sliceV Tryz.prog 27 H (slV b E l) lo (some (.int .i64 l.length)) := hi_slV s27
@[go_sem] theorem ct27 {α : Type} {E : Enc α} {l : List α} {b : Bool} {H : Hp} {k k' : IntKind} {lo hi : Int} (hw : E.w = 1) (h : 0 ≤ lo ∧ lo ≤ hi ∧ hi ≤ (l.length : Int)) : sliceV Tryz.prog 27 H (slV b E l) (some (.int k lo)) (some (.int k' hi)) = some (slV (b && decide (l.length = 0)) E ((l.drop lo.toNat).take (hi.toNat - lo.toNat))) := cut_slV s27 hw h
@[go_sem] theorem m27 {H : Hp} : lenV Tryz.prog 27 H .nilslice = some (.int .i64 0) := len_nilslice (sz := 1) (by kernel_rfl)
@[go_sem] theorem u28 : Tryz.prog.underlying 28 = some (.slice 4) := by kernel_rfl
@[go_sem] theorem z28 : szOf Tryz.prog 28 = some 1 := by kernel_rfl
@[go_sem] theorem y28 : bytesOf' Tryz.prog 28 = some 24 := by kernel_rfl
@[go_sem] theorem g28 : aggT Tryz.prog 28 = some false := by kernel_rfl
@[go_sem] theorem o28 : zeroV Tryz.prog 28 = some .nilslice := by kernel_rfl
theorem s28 : sliceT Tryz.prog 28 1 = true := by kernel_rfl
@[go_sem] theorem i28 {id g off n : Nat} {cp : Cap} {k : IntKind} {j : Int} (hj : 0 ≤ j ∧ j < n) : indexAddrV Tryz.prog 28 (.slice id g off n 1 cp) (.int k j) = some (.ptr id g (off + j.toNat * 1)) := ia_slice (by kernel_rfl) hj
@[go_sem] theorem n28 {H : Hp} (id g off n : Nat) (cp : Cap) : lenV Tryz.prog 28 H (.slice id g off n 1 cp) = some (.int .i64 n) := len_slice (sz := 1) (by kernel_rfl) id g off n 1 cp
@[go_sem] theorem is28 {α : Type} {E : Enc α} {l : List α} {b : Bool} {k : IntKind} {j : Int} (hw : E.w = 1) (hj : 0 ≤ j ∧ j < (l.length : Int)) : indexAddrV Tryz.prog 28 (slV b E l) (.int k j) = some (.ipt (flatE E l) (j.toNat * 1)) := idx_slV s28 hw hj
@[go_sem] theorem ns28 {α : Type} {H : Hp} (b : Bool) (E : Enc α) (l : List α) : lenV Tryz.prog 28 H (slV b E l) = some (.int .i64 l.length) := len_slV s28 b E l
@[go_sem] theorem nb28 {H : Hp} (n g w : Nat) (xs : List (List V)) : lenV Tryz.prog 28 H (blV n g w xs) = some (.int .i64 xs.length) := len_blV s28 n g w xs
@[go_sem] theorem lo28 {H : Hp} (x : V) (hi : Option V) : sliceV Tryz.prog 28 H x none hi = sliceV Tryz.prog 28 H x (some (.int .i64 0)) hi := lo_slV ⟨_, u28⟩
@[go_sem] theorem hi28 {α : Type} {E : Enc α} {l : List α} {b : Bool} {H : Hp} (lo : Option V) : sliceV Tryz.prog 28 H (slV b E l) lo none = sliceV Tryz.prog 28 H (slV b E l) lo (some (.int .i64 l.length)) := hi_slV s28
@[go_sem] theorem ct28 {α : Type} {E : Enc α} {l : List α} {b : Bool} {H : Hp} {k k' : IntKind} {lo hi : Int} (hw : E.w = 1) (h : 0 ≤ lo ∧ lo ≤ hi ∧ hi ≤ (l.length : Int)) : sliceV Tryz.prog 28 H (slV b E l) (some (.int k lo)) (some (.int k' hi)) = some (slV (b && decide (l.length = 0)) E ((l.drop lo.toNat).take (hi.toNat - lo.toNat))) := cut_slV s28 hw h
@[go_sem] theorem m28 {H : Hp} : lenV Tryz.prog 28 H .nilslice = some (.int .i64 0) := len_nilslice (sz := 1) (by kernel_rfl)
@[go_sem] theorem u29 : Tryz.prog.underlying 29 = some (.slice 32) := by kernel_rfl
@[go_sem] theorem z29 : szOf Tryz.prog 29 = some 1 := by kernel_rfl
@[go_sem] theorem y29 : bytesOf' Tryz.prog 29 = some 24 := by kernel_rfl
@[go_sem] theorem g29 : aggT Tryz.prog 29 = some false := by kernel_rfl
@[go_sem] theorem o29 : zeroV Tryz.prog 29 = some .nilslice := by kernel_rfl
theorem s29 : sliceT Tryz.prog 29 3 = true := by kernel_rfl
@[go_sem] theorem i29 {id g off n : Nat} {cp : Cap} {k : IntKind} {j : Int} (hj : 0 ≤ j ∧ j < n) : indexAddrV Tryz.prog 29 (.slice id g off n 3 cp) (.int k j) = some (.ptr id g (off + j.toNat * 3)) := ia_slice (by kernel_rfl) hj
@[go_sem] theorem n29 {H : Hp} (id g off n : Nat) (cp : Cap) : lenV Tryz.prog 29 H (.slice id g off n 3 cp) = some (.int .i64 n) := len_slice (sz := 3) (by kernel_rfl) id g off n 3 cp
@[go_sem] theorem is29 {α : Type} {E : Enc α} {l : List α} {b : Bool} {k : IntKind} {j : Int} (hw : E.w = 3) (hj : 0 ≤ j ∧ j < (l.length : Int)) : indexAddrV Tryz.prog 29 (slV b E l) (.int k j) = some (.ipt (flatE E l) (j.toNat * 3)) := idx_slV s29 hw hj
@[go_sem] theorem ns29 {α : Type} {H : Hp} (b : Bool) (E : Enc α) (l : List α) : lenV Tryz.prog 29 H (slV b E l) = some (.int .i64 l.length) := len_slV s29 b E l
@[go_sem] theorem nb29 {H : Hp} (n g w : Nat) (xs : List (List V)) : lenV Tryz.prog 29 H (blV n g w xs) = some (.int .i64 xs.length) := len_blV s29 n g w xs
@[go_sem] theorem lo29 {H : Hp} (x : V) (hi : Option V) : sliceV Tryz.prog 29 H x none hi = sliceV Tryz.prog 29 H x (some (.int .i64 0)) hi := lo_slV ⟨_, u29⟩
@[go_sem] theorem hi29 {α : Type} {E : Enc α} {l : List α} {b : Bool} {H : Hp} (lo : Option V) : sliceV Tryz.prog 29 H (slV b E l) lo none = sliceV Tryz.prog 29 H (slV b E l) lo (some (.int .i64 l.length)) := hi_slV s29
@[go_sem] theorem ct29 {α : Type} {E : Enc α} {l : List α} {b : Bool} {H : Hp} {k k' : IntKind} {lo hi : Int} (hw : E.w = 3) (h : 0 ≤ lo ∧ lo ≤ hi ∧ hi ≤ (l.length : Int)) : sliceV Tryz.prog 29 H (slV b E l) (some (.int k lo)) (some (.int k' hi)) = some (slV (b && decide (l.length = 0)) E ((l.drop lo.toNat).take (hi.toNat - lo.toNat))) := cut_slV s29 hw h
@[go_sem] theorem m29 {H : Hp} : lenV Tryz.prog 29 H .nilslice = some (.int .i64 0) := len_nilslice (sz := 3) (by kernel_rfl)
@[go_sem] theorem u32 : Tryz.prog.underlying 32 = some (.array 3 3) := by kernel_rfl
@[go_sem] theorem z32 : szOf Tryz.prog 32 = some 3 := by kernel_rfl
@[go_sem] theorem y32 : bytesOf' Tryz.prog 32 = some 24 := by kernel_rfl
@[go_sem] theorem g32 : aggT Tryz.prog 32 = some true := by kernel_rfl
@[go_sem] theorem o32 : zeroV Tryz.prog 32 = some (.agg [.int .i64 0, .int .i64 0, .int .i64 0]) := by kernel_rfl
@[go_sem] theorem ii32 {cs : List V} {off : Nat} {k : IntKind} {j : Int} (hj : 0 ≤ j ∧ j < (3 : Nat)) : indexAddrV Tryz.prog 32 (.ipt cs off) (.int k j) = some (.ipt cs (off + j.toNat * 1)) := iai_arr (by kernel_rfl) hj
@[go_sem] theorem i32 {id g off : Nat} {k : IntKind} {j : Int} (hj : 0 ≤ j ∧ j < (3 : Nat)) : indexAddrV Tryz.prog 32 (.ptr id g off) (.int k j) = some (.ptr id g (off + j.toNat * 1)) := ia_arr (by kernel_rfl) hj
@[go_sem] theorem z80 : szOf Tryz.prog 80 = some 1 := by kernel_rfl
@[go_sem] theorem y80 : bytesOf' Tryz.prog 80 = some 8 := by kernel_rfl
@[go_sem] theorem g80 : aggT Tryz.prog 80 = some false := by kernel_rfl
@[go_sem] theorem o80 : zeroV Tryz.prog 80 = some .nilfn := by kernel_rfl
@[go_sem] theorem z83 : szOf Tryz.prog 83 = some 1 := by kernel_rfl
@[go_sem] theorem y83 : bytesOf' Tryz.prog 83 = some 8 := by kernel_rfl
@[go_sem] theorem g83 : aggT Tryz.prog 83 = some false := by kernel_rfl
@[go_sem] theorem o83 : zeroV Tryz.prog 83 = some .nilfn := by kernel_rfl
@[go_sem] theorem u160 : Tryz.prog.underlying 160 = some (.int .u64) := by kernel_rfl
@[go_sem] theorem z160 : szOf Tryz.prog 160 = some 1 := by kernel_rfl
@[go_sem] theorem y160 : bytesOf' Tryz.prog 160 = some 8 := by kernel_rfl
@[go_sem] theorem g160 : aggT Tryz.prog 160 = some false := by kernel_rfl
@[go_sem] theorem o160 : zeroV Tryz.prog 160 = some (.int .u64 0) := by kernel_rfl
@[go_sem] theorem x3_160 {H : Hp} (k : IntKind) (n : Int) : convV Tryz.prog 3 160 H (.int k n) = some (.int .u64 (IntKind.wrap .u64 n), H) := by
  simp only [convV, u3, u160]
@[go_sem] theorem x160_3 {H : Hp} (k : IntKind) (n : Int) : convV Tryz.prog 160 3 H (.int k n) = some (.int .i64 (IntKind.wrap .i64 n), H) := by
  simp only [convV, u160, u3]
@[go_sem] theorem w29_29 {H : Hp} (s x : V) : builtinV Tryz.prog .append #[29, 29] [s, x] H = appOf 3 24 H s x.dem1 := app_eq (by kernel_rfl) s x
@[go_sem] theorem w27_27 {H : Hp} (s x : V) : builtinV Tryz.prog .append #[27, 27] [s, x] H = appOf 1 8 H s x.dem1 := app_eq (by kernel_rfl) s x
@[go_sem] theorem bb4e (x y : Bool) : binV Tryz.prog .eql 4 (.bool x) (.bool y) = some (.bool (x == y)) := b_beql 4 x y u4
@[go_sem] theorem bb4n (x y : Bool) : binV Tryz.prog .neq 4 (.bool x) (.bool y) = some (.bool (!(x == y))) := b_bneq 4 x y u4
@[go_sem] theorem qi27 (v : V) : immSl Tryz.prog 27 1 [(0, v)] = if immL v.cells = true ∧ v.cells.length = 1 then some (.isl v.cells 1 1) else none := is_one u27 z3 o3 rfl (by decide) (by decide) v
@[go_sem] theorem q27 {H : Hp} (v : V) : buildSliceV Tryz.prog 27 1 [(0, v)] H = if v.cells.all V.isCell = true ∧ v.cells.length = 1 then some (.slice H.length 0 0 1 1 .full, H ++ [.row 0 v.cells true]) else none := bs_if u27 z3 o3 rfl (by decide) (by decide) v
@[go_sem] theorem qi29 (v : V) : immSl Tryz.prog 29 1 [(0, v)] = if immL v.cells = true ∧ v.cells.length = 3 then some (.isl v.cells 1 3) else none := is_one u29 z32 o32 rfl (by decide) (by decide) v
@[go_sem] theorem q29 {H : Hp} (v : V) : buildSliceV Tryz.prog 29 1 [(0, v)] H = if v.cells.all V.isCell = true ∧ v.cells.length = 3 then some (.slice H.length 0 0 1 3 .full, H ++ [.row 0 v.cells true]) else none := bs_if u29 z32 o32 rfl (by decide) (by decide) v
@[go_sem] theorem h32 (ps : List (Nat × V)) : buildV Tryz.prog 32 ps = (fillV (fun i => some (i * 1, 1)) [.int .i64 0, .int .i64 0, .int .i64 0] ps).map V.agg := buildArr_eq u32 z3 o32 ps
def r9_0 : List Co := [
  coi 5 (.box 32 (tm 2)),
  co 6 (.assign (.const (.bool false)))]
def r9_1 : List Co := [
  co 19 (.move (tm 0)),
  co 20 (.call ⟨.builtin .len, #[(tm 19)], #[27]⟩),
  co 21 (.move (tm 1)),
  co 22 (.call ⟨.builtin .len, #[(tm 21)], #[27]⟩),
  co 23 (.binOp .add 3 (tm 20) (tm 22) 3),
  co 24 (.binOp .gtr 3 (tm 23) (.const (.int .i64 20000)) 3)]
def r9_2 : List Co := [
  co 25 (.call ⟨.value (.func 16), #[], #[]⟩),
  co 6 (.assign (tm 25))]
def r9_3 : List Co := [
  co 27 (.move (tm 0)),
  co 28 (.indexAddr 32 (tm 5) (.const (.int .i64 0))),
  co 29 (.load 3 (tm 28)),
  co 30 (.call ⟨.value (.func 26), #[(tm 27), (tm 29)], #[27, 3]⟩),
  co 26 (.move (tm 30)),
  co 31 (.extract (tm 26) 0),
  co 32 (.extract (tm 26) 1),
  co 7 (.assign (tm 31)),
  co 8 (.assign (tm 32))]
def r9_4 : List Co := [
  co 34 (.move (tm 0)),
  co 35 (.indexAddr 32 (tm 5) (.const (.int .i64 0))),
  co 36 (.load 3 (tm 35)),
  co 37 (.call ⟨.value (.func 27), #[(tm 34), (tm 36)], #[27, 3]⟩),
  co 33 (.move (tm 37)),
  co 38 (.extract (tm 33) 0),
  co 39 (.extract (tm 33) 1),
  co 9 (.assign (tm 38)),
  co 10 (.assign (tm 39))]
def r9_5 : List Co := [
  co 41 (.move (tm 0)),
  co 42 (.move (tm 1)),
  co 43 (.call ⟨.value (.func 28), #[(tm 41), (tm 42)], #[27, 27]⟩),
  co 40 (.move (tm 43)),
  co 44 (.extract (tm 40) 0),
  co 45 (.extract (tm 40) 1),
  co 11 (.assign (tm 44)),
  co 12 (.assign (tm 45))]
def r9_6 : List Co := [
  co 47 (.move (tm 0)),
  co 48 (.move (tm 1)),
  co 49 (.call ⟨.value (.func 29), #[(tm 47), (tm 48)], #[27, 27]⟩),
  co 46 (.move (tm 49)),
  co 50 (.extract (tm 46) 0),
  co 51 (.extract (tm 46) 1),
  co 13 (.assign (tm 50)),
  co 14 (.assign (tm 51))]
def r9_7 : List Co := [
  co 53 (.move (tm 0)),
  co 54 (.indexAddr 32 (tm 5) (.const (.int .i64 1))),
  co 55 (.load 3 (tm 54)),
  co 56 (.indexAddr 32 (tm 5) (.const (.int .i64 2))),
  co 57 (.load 3 (tm 56)),
  co 58 (.call ⟨.value (.func 30), #[(tm 53), (tm 55), (tm 57)], #[27, 3, 3]⟩),
  co 52 (.move (tm 58)),
  co 59 (.extract (tm 52) 0),
  co 60 (.extract (tm 52) 1),
  co 15 (.assign (tm 59)),
  co 16 (.assign (tm 60))]
def r9_8 : List Co := [
  co 62 (.move (tm 0)),
  co 63 (.indexAddr 32 (tm 5) (.const (.int .i64 1))),
  co 64 (.load 3 (tm 63)),
  co 65 (.indexAddr 32 (tm 5) (.const (.int .i64 2))),
  co 66 (.load 3 (tm 65)),
  co 67 (.call ⟨.value (.func 31), #[(tm 62), (tm 64), (tm 66)], #[27, 3, 3]⟩),
  co 61 (.move (tm 67)),
  co 68 (.extract (tm 61) 0),
  co 69 (.extract (tm 61) 1),
  co 17 (.assign (tm 68)),
  co 18 (.assign (tm 69))]
def r9_9 : List Co := [
  co 70 (.move (tm 7)),
  co 71 (.move (tm 9)),
  co 72 (.call ⟨.value (.func 25), #[(tm 70), (tm 71)], #[27, 27]⟩),
  co 73 (.move (tm 72)),
  cog 74 (.move (tm 8)) 73 true,
  cog 75 (.move (tm 10)) 73 true,
  cog 76 (.binOp .eql 22 (tm 74) (tm 75) 22) 73 true,
  co 77 (.pick (tm 73) (tm 76) (.const (.bool false))),
  co 78 (.move (tm 77)),
  cog 79 (.move (tm 11)) 78 true,
  cog 80 (.move (tm 13)) 78 true,
  cog 81 (.call ⟨.value (.func 25), #[(tm 79), (tm 80)], #[27, 27]⟩) 78 true,
  co 82 (.pick (tm 78) (tm 81) (.const (.bool false))),
  co 83 (.move (tm 82)),
  cog 84 (.move (tm 12)) 83 true,
  cog 85 (.move (tm 14)) 83 true,
  cog 86 (.binOp .eql 22 (tm 84) (tm 85) 22) 83 true,
  co 87 (.pick (tm 83) (tm 86) (.const (.bool false))),
  co 88 (.move (tm 87)),
  cog 89 (.move (tm 15)) 88 true,
  cog 90 (.move (tm 17)) 88 true,
  cog 91 (.binOp .eql 3 (tm 89) (tm 90) 3) 88 true,
  co 92 (.pick (tm 88) (tm 91) (.const (.bool false))),
  co 93 (.move (tm 92)),
  cog 94 (.move (tm 16)) 93 true,
  cog 95 (.move (tm 18)) 93 true,
  cog 96 (.binOp .eql 22 (tm 94) (tm 95) 22) 93 true,
  co 97 (.pick (tm 93) (tm 96) (.const (.bool false))),
  co 98 (.move (tm 97)),
  cog 99 (.call ⟨.value (.func 16), #[], #[]⟩) 98 true,
  co 100 (.pick (tm 98) (tm 99) (.const (.bool false))),
  co 6 (.assign (tm 100))]
/-- wireglass/wireglasslaw23.TapNumbers -/
def c9 : Cc := (.seq (.reg r9_0) (.seq (.seq (.reg r9_1) (.cond (tm 24) (.seq (.reg r9_2) .ret) .skip)) (.seq (.reg r9_3) (.seq (.reg r9_4) (.seq (.reg r9_5) (.seq (.reg r9_6) (.seq (.reg r9_7) (.seq (.reg r9_8) (.seq (.reg r9_9) .ret)))))))))
def r17_0 : List Co := [
  co 4 (.assign (.const (.slice none 0 0))),
  co 5 (.assign (.const (.int .i64 0)))]
def r17_1 : List Co := [
  co 12 (.move (tm 0)),
  co 13 (.call ⟨.builtin .len, #[(tm 12)], #[27]⟩),
  co 14 (.move (tm 1)),
  co 15 (.call ⟨.builtin .len, #[(tm 14)], #[28]⟩),
  co 16 (.binOp .neq 3 (tm 13) (tm 15) 3),
  co 11 (.assign (tm 16))]
def r17_2 : List Co := [
  co 4 (.assign (.const (.slice none 0 0))),
  co 5 (.assign (.const (.int .i64 10)))]
def r17_3 : List Co := [
  co 18 (.move (tm 0)),
  co 19 (.call ⟨.value (.func 54), #[(tm 18)], #[27]⟩),
  co 17 (.assign (tm 19))]
def r17_4 : List Co := [
  co 4 (.assign (.const (.slice none 0 0))),
  co 5 (.assign (.const (.int .i64 3)))]
def r17_5 : List Co := [
  co 21 (.move (tm 0)),
  co 22 (.call ⟨.value (.func 55), #[(tm 21), (.func 56)], #[27, 80]⟩),
  co 20 (.assign (tm 22))]
def r17_6 : List Co := [
  co 4 (.assign (.const (.slice none 0 0))),
  co 5 (.assign (.const (.int .i64 1)))]
def r17_7 : List Co := [
  coi 6 (.assign (.const (.slice none 0 0)))]
def r17_8 : List Co := [
  co 7 (.assign (.const (.int .i64 (-1))))]
def r17_9 : List Co := [
  co 23 (.move (tm 0)),
  co 24 (.call ⟨.builtin .len, #[(tm 23)], #[27]⟩),
  co 25 (.move (.const (.int .i64 0)))]
def r17_10 : List Co := [
  co 26 (.binOp .lss 3 (tm 25) (tm 24) 3)]
def r17_11 : List Co := [
  co 27 (.move (tm 25)),
  co 28 (.indexAddr 27 (tm 23) (tm 25)),
  co 29 (.load 3 (tm 28)),
  co 8 (.assign (tm 27)),
  co 9 (.assign (tm 29))]
def r17_12 : List Co := [
  co 30 (.move (tm 9)),
  co 31 (.move (tm 0)),
  co 32 (.indexAddr 27 (tm 31) (.const (.int .i64 0))),
  co 33 (.load 3 (tm 32)),
  co 34 (.binOp .sub 3 (tm 30) (tm 33) 3),
  co 35 (.move (tm 9)),
  co 36 (.move (tm 0)),
  co 37 (.move (tm 8)),
  co 38 (.binOp .sub 3 (tm 37) (.const (.int .i64 1)) 3),
  co 39 (.call ⟨.builtin .max, #[(.const (.int .i64 0)), (tm 38)], #[3, 3]⟩),
  co 40 (.indexAddr 27 (tm 36) (tm 39)),
  co 41 (.load 3 (tm 40)),
  co 42 (.binOp .sub 3 (tm 35) (tm 41) 3),
  co 43 (.build 32 #[(0, (tm 34)), (1, (tm 42)), (2, (.const (.int .i64 0)))]),
  co 10 (.alloc 32),
  coz (.store 32 (tm 10) (tm 43))]
def r17_13 : List Co := [
  co 44 (.move (tm 7)),
  co 45 (.binOp .geq 3 (tm 44) (.const (.int .i64 0)) 3)]
def r17_14 : List Co := [
  co 46 (.move (tm 9)),
  co 47 (.move (tm 0)),
  co 48 (.move (tm 7)),
  co 49 (.indexAddr 27 (tm 47) (tm 48)),
  co 50 (.load 3 (tm 49)),
  co 51 (.binOp .sub 3 (tm 46) (tm 50) 3),
  co 52 (.indexAddr 32 (tm 10) (.const (.int .i64 2))),
  coz (.store 3 (tm 52) (tm 51))]
def r17_15 : List Co := [
  co 53 (.move (tm 1)),
  co 54 (.move (tm 8)),
  co 55 (.indexAddr 28 (tm 53) (tm 54)),
  co 56 (.load 4 (tm 55))]
def r17_16 : List Co := [
  co 57 (.move (tm 8)),
  co 7 (.assign (tm 57))]
def r17_17 : List Co := [
  co 58 (.move (tm 6)),
  co 59 (.load 32 (tm 10)),
  coi 60 (.buildSlice 29 1 #[(0, (tm 59))]),
  co 61 (.call ⟨.builtin .append, #[(tm 58), (tm 60)], #[29, 29]⟩),
  co 6 (.assign (tm 61))]
def r17_18 : List Co := [
  co 62 (.binOp .add 3 (tm 25) (.const (.int .i64 1)) 3),
  co 25 (.move (tm 62))]
def l17_19 : Cc := (.seq (.reg r17_10) (.seq (.cond (tm 26) .skip (.exit 1)) (.seq (.block 2 (.seq (.reg r17_11) (.seq (.reg r17_12) (.seq (.seq (.reg r17_13) (.cond (tm 45) (.reg r17_14) .skip)) (.seq (.seq (.reg r17_15) (.cond (tm 56) (.reg r17_16) .skip)) (.reg r17_17)))))) (.reg r17_18))))
def r17_20 : List Co := [
  co 63 (.move (tm 6)),
  co 4 (.assign (tm 63)),
  co 5 (.assign (.const (.int .i64 0)))]
/-- wireglass/tap.Deltas -/
def c17 : Cc := (.seq (.reg r17_0) (.seq (.block 0 (.seq (.reg r17_1) (.cond (tm 11) (.seq (.reg r17_2) .ret) (.seq (.reg r17_3) (.cond (tm 17) (.seq (.reg r17_4) .ret) (.seq (.reg r17_5) (.cond (tm 20) (.seq (.reg r17_6) .ret) .skip))))))) (.seq (.reg r17_7) (.seq (.reg r17_8) (.seq (.seq (.reg r17_9) (.block 1 (.loop l17_19))) (.seq (.reg r17_20) .ret))))))
def r20_0 : List Co := [
  co 6 (.assign (.const (.int .i64 0))),
  co 7 (.assign (.const (.int .i64 0))),
  co 8 (.assign (.const (.int .i64 0)))]
def r20_1 : List Co := [
  co 16 (.move (tm 0)),
  co 17 (.call ⟨.builtin .len, #[(tm 16)], #[27]⟩),
  co 18 (.move (tm 1)),
  co 19 (.call ⟨.builtin .len, #[(tm 18)], #[27]⟩),
  co 20 (.binOp .neq 3 (tm 17) (tm 19) 3)]
def r20_2 : List Co := [
  co 6 (.assign (.const (.int .i64 0))),
  co 7 (.assign (.const (.int .i64 0))),
  co 8 (.assign (.const (.int .i64 10)))]
def r20_3 : List Co := [
  co 21 (.move (tm 0)),
  co 22 (.call ⟨.builtin .len, #[(tm 21)], #[27]⟩),
  co 23 (.binOp .gtr 3 (tm 22) (.const (.int .i64 200)) 3)]
def r20_4 : List Co := [
  co 6 (.assign (.const (.int .i64 0))),
  co 7 (.assign (.const (.int .i64 0))),
  co 8 (.assign (.const (.int .i64 3)))]
def r20_5 : List Co := [
  co 24 (.move (tm 0)),
  co 25 (.call ⟨.builtin .len, #[(tm 24)], #[27]⟩),
  co 26 (.binOp .eql 3 (tm 25) (.const (.int .i64 0)) 3)]
def r20_6 : List Co := [
  co 6 (.assign (.const (.int .i64 0))),
  co 7 (.assign (.const (.int .i64 0))),
  co 8 (.assign (.const (.int .i64 4)))]
def r20_7 : List Co := [
  co 27 (.move (tm 2)),
  co 28 (.binOp .lss 3 (tm 27) (.const (.int .i64 1)) 3)]
def r20_8 : List Co := [
  co 6 (.assign (.const (.int .i64 0))),
  co 7 (.assign (.const (.int .i64 0))),
  co 8 (.assign (.const (.int .i64 1)))]
def r20_9 : List Co := [
  co 9 (.assign (.const (.int .i64 0)))]
def r20_10 : List Co := [
  co 29 (.move (tm 9)),
  co 30 (.move (tm 0)),
  co 31 (.call ⟨.builtin .len, #[(tm 30)], #[27]⟩),
  co 32 (.binOp .lss 3 (tm 29) (tm 31) 3)]
def r20_11 : List Co := [
  co 35 (.move (tm 0)),
  co 36 (.move (tm 9)),
  co 37 (.indexAddr 27 (tm 35) (tm 36)),
  co 38 (.load 3 (tm 37)),
  co 39 (.call ⟨.value (.func 58), #[(tm 38)], #[3]⟩),
  co 40 (.unOp .not 4 (tm 39)),
  co 41 (.move (tm 40)),
  cog 42 (.move (tm 1)) 41 false,
  cog 43 (.move (tm 9)) 41 false,
  cog 44 (.indexAddr 27 (tm 42) (tm 43)) 41 false,
  cog 45 (.load 3 (tm 44)) 41 false,
  cog 46 (.binOp .lss 3 (tm 45) (.const (.int .i64 0)) 3) 41 false,
  co 47 (.pick (tm 41) (.const (.bool true)) (tm 46)),
  co 48 (.move (tm 47)),
  cog 49 (.move (tm 1)) 48 false,
  cog 50 (.move (tm 9)) 48 false,
  cog 51 (.indexAddr 27 (tm 49) (tm 50)) 48 false,
  cog 52 (.load 3 (tm 51)) 48 false,
  cog 53 (.binOp .gtr 3 (tm 52) (.const (.int .i64 1000000)) 3) 48 false,
  co 54 (.pick (tm 48) (.const (.bool true)) (tm 53))]
def r20_12 : List Co := [
  co 6 (.assign (.const (.int .i64 0))),
  co 7 (.assign (.const (.int .i64 0))),
  co 8 (.assign (.const (.int .i64 1)))]
def r20_13 : List Co := [
  co 33 (.move (tm 9)),
  co 34 (.binOp .add 3 (tm 33) (.const (.int .i64 1)) 3),
  co 9 (.assign (tm 34))]
def l20_14 : Cc := (.seq (.seq (.reg r20_10) (.cond (tm 32) .skip (.exit 0))) (.seq (.block 1 (.seq (.reg r20_11) (.cond (tm 54) (.seq (.reg r20_12) .ret) .skip))) (.reg r20_13)))
def r20_15 : List Co := [
  co 10 (.assign (.const (.int .i64 (-1)))),
  co 11 (.assign (.const (.int .i64 0)))]
def r20_16 : List Co := [
  co 12 (.assign (.const (.int .i64 0)))]
def r20_17 : List Co := [
  co 55 (.move (tm 12)),
  co 56 (.move (tm 0)),
  co 57 (.call ⟨.builtin .len, #[(tm 56)], #[27]⟩),
  co 58 (.binOp .lss 3 (tm 55) (tm 57) 3)]
def r20_18 : List Co := [
  co 13 (.assign (.const (.int .i64 0)))]
def r20_19 : List Co := [
  co 14 (.assign (.const (.int .i64 0)))]
def r20_20 : List Co := [
  co 61 (.move (tm 14)),
  co 62 (.move (tm 0)),
  co 63 (.call ⟨.builtin .len, #[(tm 62)], #[27]⟩),
  co 64 (.binOp .lss 3 (tm 61) (tm 63) 3)]
def r20_21 : List Co := [
  co 67 (.move (tm 0)),
  co 68 (.move (tm 14)),
  co 69 (.indexAddr 27 (tm 67) (tm 68)),
  co 70 (.load 3 (tm 69)),
  co 71 (.move (tm 0)),
  co 72 (.move (tm 12)),
  co 73 (.indexAddr 27 (tm 71) (tm 72)),
  co 74 (.load 3 (tm 73)),
  co 75 (.binOp .sub 3 (tm 70) (tm 74) 3),
  co 15 (.assign (tm 75))]
def r20_22 : List Co := [
  co 76 (.move (tm 15)),
  co 77 (.binOp .geq 3 (tm 76) (.const (.int .i64 0)) 3),
  co 78 (.move (tm 77)),
  cog 79 (.move (tm 15)) 78 true,
  cog 80 (.move (tm 2)) 78 true,
  cog 81 (.binOp .lss 3 (tm 79) (tm 80) 3) 78 true,
  co 82 (.pick (tm 78) (tm 81) (.const (.bool false)))]
def r20_23 : List Co := [
  co 83 (.move (tm 13)),
  co 84 (.move (tm 1)),
  co 85 (.move (tm 14)),
  co 86 (.indexAddr 27 (tm 84) (tm 85)),
  co 87 (.load 3 (tm 86)),
  co 88 (.binOp .add 3 (tm 83) (tm 87) 3),
  co 13 (.assign (tm 88))]
def r20_24 : List Co := [
  co 65 (.move (tm 14)),
  co 66 (.binOp .add 3 (tm 65) (.const (.int .i64 1)) 3),
  co 14 (.assign (tm 66))]
def l20_25 : Cc := (.seq (.seq (.reg r20_20) (.cond (tm 64) .skip (.exit 4))) (.seq (.block 5 (.seq (.reg r20_21) (.seq (.reg r20_22) (.cond (tm 82) (.reg r20_23) .skip)))) (.reg r20_24)))
def r20_26 : List Co := [
  co 89 (.move (tm 13)),
  co 90 (.move (tm 10)),
  co 91 (.binOp .gtr 3 (tm 89) (tm 90) 3),
  co 92 (.move (tm 91)),
  cog 93 (.move (tm 13)) 92 false,
  cog 94 (.move (tm 10)) 92 false,
  cog 95 (.binOp .eql 3 (tm 93) (tm 94) 3) 92 false,
  cog 96 (.move (tm 95)) 92 false,
  cog 97 (.move (tm 0)) 96 true,
  cog 98 (.move (tm 12)) 96 true,
  cog 99 (.indexAddr 27 (tm 97) (tm 98)) 96 true,
  cog 100 (.load 3 (tm 99)) 96 true,
  cog 101 (.move (tm 11)) 96 true,
  cog 102 (.binOp .lss 3 (tm 100) (tm 101) 3) 96 true,
  cog 103 (.pick (tm 96) (tm 102) (.const (.bool false))) 92 false,
  co 104 (.pick (tm 92) (.const (.bool true)) (tm 103))]
def r20_27 : List Co := [
  co 105 (.move (tm 13)),
  co 106 (.move (tm 0)),
  co 107 (.move (tm 12)),
  co 108 (.indexAddr 27 (tm 106) (tm 107)),
  co 109 (.load 3 (tm 108)),
  co 10 (.assign (tm 105)),
  co 11 (.assign (tm 109))]
def r20_28 : List Co := [
  co 59 (.move (tm 12)),
  co 60 (.binOp .add 3 (tm 59) (.const (.int .i64 1)) 3),
  co 12 (.assign (tm 60))]
def l20_29 : Cc := (.seq (.seq (.reg r20_17) (.cond (tm 58) .skip (.exit 2))) (.seq (.block 3 (.seq (.reg r20_18) (.seq (.seq (.reg r20_19) (.block 4 (.loop l20_25))) (.seq (.reg r20_26) (.cond (tm 104) (.reg r20_27) .skip))))) (.reg r20_28)))
def r20_30 : List Co := [
  co 110 (.move (tm 10)),
  co 111 (.move (tm 11)),
  co 6 (.assign (tm 110)),
  co 7 (.assign (tm 111)),
  co 8 (.assign (.const (.int .i64 0)))]
/-- wireglass/wireglassref23.Burst -/
def c20 : Cc := (.seq (.reg r20_0) (.seq (.seq (.reg r20_1) (.cond (tm 20) (.seq (.reg r20_2) .ret) .skip)) (.seq (.seq (.reg r20_3) (.cond (tm 23) (.seq (.reg r20_4) .ret) .skip)) (.seq (.seq (.reg r20_5) (.cond (tm 26) (.seq (.reg r20_6) .ret) .skip)) (.seq (.seq (.reg r20_7) (.cond (tm 28) (.seq (.reg r20_8) .ret) .skip)) (.seq (.seq (.reg r20_9) (.block 0 (.loop l20_14))) (.seq (.reg r20_15) (.seq (.seq (.reg r20_16) (.block 2 (.loop l20_29))) (.seq (.reg r20_30) .ret)))))))))
def r25_0 : List Co := [
  co 4 (.assign (.const (.bool false)))]
def r25_1 : List Co := [
  co 6 (.move (tm 0)),
  co 7 (.call ⟨.builtin .len, #[(tm 6)], #[27]⟩),
  co 8 (.move (tm 1)),
  co 9 (.call ⟨.builtin .len, #[(tm 8)], #[27]⟩),
  co 10 (.binOp .neq 3 (tm 7) (tm 9) 3)]
def r25_2 : List Co := [
  co 4 (.assign (.const (.bool false)))]
def r25_3 : List Co := [
  co 5 (.assign (.const (.int .i64 0)))]
def r25_4 : List Co := [
  co 11 (.move (tm 5)),
  co 12 (.move (tm 0)),
  co 13 (.call ⟨.builtin .len, #[(tm 12)], #[27]⟩),
  co 14 (.binOp .lss 3 (tm 11) (tm 13) 3)]
def r25_5 : List Co := [
  co 17 (.move (tm 0)),
  co 18 (.move (tm 5)),
  co 19 (.indexAddr 27 (tm 17) (tm 18)),
  co 20 (.load 3 (tm 19)),
  co 21 (.move (tm 1)),
  co 22 (.move (tm 5)),
  co 23 (.indexAddr 27 (tm 21) (tm 22)),
  co 24 (.load 3 (tm 23)),
  co 25 (.binOp .neq 3 (tm 20) (tm 24) 3)]
def r25_6 : List Co := [
  co 4 (.assign (.const (.bool false)))]
def r25_7 : List Co := [
  co 15 (.move (tm 5)),
  co 16 (.binOp .add 3 (tm 15) (.const (.int .i64 1)) 3),
  co 5 (.assign (tm 16))]
def l25_8 : Cc := (.seq (.seq (.reg r25_4) (.cond (tm 14) .skip (.exit 0))) (.seq (.block 1 (.seq (.reg r25_5) (.cond (tm 25) (.seq (.reg r25_6) .ret) .skip))) (.reg r25_7)))
def r25_9 : List Co := [
  co 4 (.assign (.const (.bool true)))]
/-- wireglass/wireglassref02.SameInts -/
def c25 : Cc := (.seq (.reg r25_0) (.seq (.seq (.reg r25_1) (.cond (tm 10) (.seq (.reg r25_2) .ret) .skip)) (.seq (.seq (.reg r25_3) (.block 0 (.loop l25_8))) (.seq (.reg r25_9) .ret))))
def r26_0 : List Co := [
  co 4 (.assign (.const (.slice none 0 0))),
  co 5 (.assign (.const (.int .i64 0)))]
def r26_1 : List Co := [
  co 11 (.move (tm 0)),
  co 12 (.call ⟨.value (.func 54), #[(tm 11)], #[27]⟩)]
def r26_2 : List Co := [
  co 4 (.assign (.const (.slice none 0 0))),
  co 5 (.assign (.const (.int .i64 3)))]
def r26_3 : List Co := [
  co 13 (.move (tm 1)),
  co 14 (.binOp .lss 3 (tm 13) (.const (.int .i64 1)) 3),
  co 15 (.move (tm 14)),
  cog 16 (.move (tm 0)) 15 false,
  cog 17 (.call ⟨.value (.func 55), #[(tm 16), (.func 73)], #[27, 80]⟩) 15 false,
  co 18 (.pick (tm 15) (.const (.bool true)) (tm 17))]
def r26_4 : List Co := [
  co 4 (.assign (.const (.slice none 0 0))),
  co 5 (.assign (.const (.int .i64 1)))]
def r26_5 : List Co := [
  coi 6 (.assign (.const (.slice none 0 0)))]
def r26_6 : List Co := [
  co 19 (.move (tm 0)),
  co 20 (.call ⟨.builtin .len, #[(tm 19)], #[27]⟩),
  co 21 (.move (.const (.int .i64 0)))]
def r26_7 : List Co := [
  co 22 (.binOp .lss 3 (tm 21) (tm 20) 3)]
def r26_8 : List Co := [
  co 23 (.move (tm 21)),
  co 7 (.assign (tm 23))]
def r26_9 : List Co := [
  co 24 (.move (tm 0)),
  co 25 (.move (tm 7)),
  co 26 (.binOp .add 3 (tm 25) (.const (.int .i64 1)) 3),
  co 27 (.move (tm 1)),
  co 28 (.move (tm 0)),
  co 29 (.call ⟨.builtin .len, #[(tm 28)], #[27]⟩),
  co 30 (.call ⟨.builtin .min, #[(tm 27), (tm 29)], #[3, 3]⟩),
  co 31 (.binOp .sub 3 (tm 26) (tm 30) 3),
  co 32 (.call ⟨.builtin .max, #[(.const (.int .i64 0)), (tm 31)], #[3, 3]⟩),
  co 33 (.move (tm 7)),
  co 34 (.binOp .add 3 (tm 33) (.const (.int .i64 1)) 3),
  co 35 (.slice 27 (tm 24) (some (tm 32)) (some (tm 34)) none),
  co 8 (.assign (tm 35))]
def r26_10 : List Co := [
  co 36 (.move (tm 8)),
  co 37 (.call ⟨.value (.func 71), #[(tm 36), (.const (.int .i64 1))], #[27, 3]⟩),
  co 9 (.assign (tm 37))]
def r26_11 : List Co := [
  co 38 (.move (tm 9)),
  co 39 (.move (tm 8)),
  co 40 (.call ⟨.builtin .len, #[(tm 39)], #[27]⟩),
  co 41 (.binOp .quo 3 (tm 38) (tm 40) 3),
  co 10 (.assign (tm 41))]
def r26_12 : List Co := [
  co 42 (.move (tm 9)),
  co 43 (.move (tm 8)),
  co 44 (.call ⟨.builtin .len, #[(tm 43)], #[27]⟩),
  co 45 (.binOp .rem 3 (tm 42) (tm 44) 3),
  co 46 (.binOp .lss 3 (tm 45) (.const (.int .i64 0)) 3)]
def r26_13 : List Co := [
  co 47 (.move (tm 10)),
  co 48 (.binOp .sub 3 (tm 47) (.const (.int .i64 1)) 3),
  co 10 (.assign (tm 48))]
def r26_14 : List Co := [
  co 49 (.move (tm 6)),
  co 50 (.move (tm 10)),
  coi 51 (.buildSlice 27 1 #[(0, (tm 50))]),
  co 52 (.call ⟨.builtin .append, #[(tm 49), (tm 51)], #[27, 27]⟩),
  co 6 (.assign (tm 52))]
def r26_15 : List Co := [
  co 53 (.binOp .add 3 (tm 21) (.const (.int .i64 1)) 3),
  co 21 (.move (tm 53))]
def l26_16 : Cc := (.seq (.reg r26_7) (.seq (.cond (tm 22) .skip (.exit 0)) (.seq (.block 1 (.seq (.reg r26_8) (.seq (.reg r26_9) (.seq (.reg r26_10) (.seq (.reg r26_11) (.seq (.seq (.reg r26_12) (.cond (tm 46) (.reg r26_13) .skip)) (.reg r26_14))))))) (.reg r26_15))))
def r26_17 : List Co := [
  co 54 (.move (tm 6)),
  co 4 (.assign (tm 54)),
  co 5 (.assign (.const (.int .i64 0)))]
/-- wireglass/tap.Smooth -/
def c26 : Cc := (.seq (.reg r26_0) (.seq (.seq (.reg r26_1) (.cond (tm 12) (.seq (.reg r26_2) .ret) .skip)) (.seq (.seq (.reg r26_3) (.cond (tm 18) (.seq (.reg r26_4) .ret) .skip)) (.seq (.reg r26_5) (.seq (.seq (.reg r26_6) (.block 0 (.loop l26_16))) (.seq (.reg r26_17) .ret))))))
def r27_0 : List Co := [
  co 4 (.assign (.const (.slice none 0 0))),
  co 5 (.assign (.const (.int .i64 0)))]
def r27_1 : List Co := [
  co 11 (.move (tm 0)),
  co 12 (.call ⟨.builtin .len, #[(tm 11)], #[27]⟩),
  co 13 (.binOp .gtr 3 (tm 12) (.const (.int .i64 200)) 3)]
def r27_2 : List Co := [
  co 4 (.assign (.const (.slice none 0 0))),
  co 5 (.assign (.const (.int .i64 3)))]
def r27_3 : List Co := [
  co 14 (.move (tm 1)),
  co 15 (.binOp .lss 3 (tm 14) (.const (.int .i64 1)) 3)]
def r27_4 : List Co := [
  co 4 (.assign (.const (.slice none 0 0))),
  co 5 (.assign (.const (.int .i64 1)))]
def r27_5 : List Co := [
  co 6 (.assign (.const (.int .i64 0)))]
def r27_6 : List Co := [
  co 16 (.move (tm 6)),
  co 17 (.move (tm 0)),
  co 18 (.call ⟨.builtin .len, #[(tm 17)], #[27]⟩),
  co 19 (.binOp .lss 3 (tm 16) (tm 18) 3)]
def r27_7 : List Co := [
  co 22 (.move (tm 0)),
  co 23 (.move (tm 6)),
  co 24 (.indexAddr 27 (tm 22) (tm 23)),
  co 25 (.load 3 (tm 24)),
  co 26 (.binOp .gtr 3 (tm 25) (.const (.int .i64 4503599627370496)) 3),
  co 27 (.move (tm 26)),
  cog 28 (.move (tm 0)) 27 false,
  cog 29 (.move (tm 6)) 27 false,
  cog 30 (.indexAddr 27 (tm 28) (tm 29)) 27 false,
  cog 31 (.load 3 (tm 30)) 27 false,
  cog 32 (.binOp .lss 3 (tm 31) (.const (.int .i64 (-4503599627370496))) 3) 27 false,
  co 33 (.pick (tm 27) (.const (.bool true)) (tm 32))]
def r27_8 : List Co := [
  co 4 (.assign (.const (.slice none 0 0))),
  co 5 (.assign (.const (.int .i64 1)))]
def r27_9 : List Co := [
  co 20 (.move (tm 6)),
  co 21 (.binOp .add 3 (tm 20) (.const (.int .i64 1)) 3),
  co 6 (.assign (tm 21))]
def l27_10 : Cc := (.seq (.seq (.reg r27_6) (.cond (tm 19) .skip (.exit 0))) (.seq (.block 1 (.seq (.reg r27_7) (.cond (tm 33) (.seq (.reg r27_8) .ret) .skip))) (.reg r27_9)))
def r27_11 : List Co := [
  coi 7 (.assign (.const (.slice none 0 0)))]
def r27_12 : List Co := [
  co 8 (.assign (.const (.int .i64 0)))]
def r27_13 : List Co := [
  co 34 (.move (tm 8)),
  co 35 (.move (tm 0)),
  co 36 (.call ⟨.builtin .len, #[(tm 35)], #[27]⟩),
  co 37 (.binOp .lss 3 (tm 34) (tm 36) 3)]
def r27_14 : List Co := [
  co 9 (.assign (.const (.int .i64 0))),
  co 10 (.assign (.const (.int .i64 0)))]
def r27_15 : List Co := [
  co 40 (.move (tm 10)),
  co 41 (.move (tm 1)),
  co 42 (.binOp .lss 3 (tm 40) (tm 41) 3),
  co 43 (.move (tm 42)),
  cog 44 (.move (tm 10)) 43 true,
  cog 45 (.move (tm 8)) 43 true,
  cog 46 (.binOp .leq 3 (tm 44) (tm 45) 3) 43 true,
  co 47 (.pick (tm 43) (tm 46) (.const (.bool false)))]
def r27_16 : List Co := [
  co 48 (.move (tm 9)),
  co 49 (.move (tm 0)),
  co 50 (.move (tm 8)),
  co 51 (.move (tm 10)),
  co 52 (.binOp .sub 3 (tm 50) (tm 51) 3),
  co 53 (.indexAddr 27 (tm 49) (tm 52)),
  co 54 (.load 3 (tm 53)),
  co 55 (.binOp .add 3 (tm 48) (tm 54) 3),
  co 9 (.assign (tm 55))]
def r27_17 : List Co := [
  co 56 (.move (tm 10)),
  co 57 (.binOp .add 3 (tm 56) (.const (.int .i64 1)) 3),
  co 10 (.assign (tm 57))]
def l27_18 : Cc := (.seq (.seq (.reg r27_15) (.cond (tm 47) .skip (.exit 4))) (.block 5 (.seq (.reg r27_16) (.reg r27_17))))
def r27_19 : List Co := [
  co 58 (.move (tm 7)),
  co 59 (.move (tm 9)),
  co 60 (.move (tm 10)),
  co 61 (.call ⟨.value (.func 74), #[(tm 59), (tm 60)], #[3, 3]⟩),
  coi 62 (.buildSlice 27 1 #[(0, (tm 61))]),
  co 63 (.call ⟨.builtin .append, #[(tm 58), (tm 62)], #[27, 27]⟩),
  co 7 (.assign (tm 63))]
def r27_20 : List Co := [
  co 38 (.move (tm 8)),
  co 39 (.binOp .add 3 (tm 38) (.const (.int .i64 1)) 3),
  co 8 (.assign (tm 39))]
def l27_21 : Cc := (.seq (.seq (.reg r27_13) (.cond (tm 37) .skip (.exit 2))) (.seq (.block 3 (.seq (.reg r27_14) (.seq (.block 4 (.loop l27_18)) (.reg r27_19)))) (.reg r27_20)))
def r27_22 : List Co := [
  co 64 (.move (tm 7)),
  co 4 (.assign (tm 64)),
  co 5 (.assign (.const (.int .i64 0)))]
/-- wireglass/wireglassref23.Smooth -/
def c27 : Cc := (.seq (.reg r27_0) (.seq (.seq (.reg r27_1) (.cond (tm 13) (.seq (.reg r27_2) .ret) .skip)) (.seq (.seq (.reg r27_3) (.cond (tm 15) (.seq (.reg r27_4) .ret) .skip)) (.seq (.seq (.reg r27_5) (.block 0 (.loop l27_10))) (.seq (.reg r27_11) (.seq (.seq (.reg r27_12) (.block 2 (.loop l27_21))) (.seq (.reg r27_22) .ret)))))))
def r28_0 : List Co := [
  co 4 (.assign (.const (.slice none 0 0))),
  co 5 (.assign (.const (.int .i64 0)))]
def r28_1 : List Co := [
  co 12 (.move (tm 0)),
  co 13 (.call ⟨.value (.func 54), #[(tm 12)], #[27]⟩),
  co 14 (.move (tm 13)),
  cog 15 (.move (tm 1)) 14 false,
  cog 16 (.call ⟨.value (.func 54), #[(tm 15)], #[27]⟩) 14 false,
  co 17 (.pick (tm 14) (.const (.bool true)) (tm 16))]
def r28_2 : List Co := [
  co 4 (.assign (.const (.slice none 0 0))),
  co 5 (.assign (.const (.int .i64 3)))]
def r28_3 : List Co := [
  co 18 (.move (tm 1)),
  co 19 (.call ⟨.builtin .len, #[(tm 18)], #[27]⟩),
  co 20 (.move (.const (.int .i64 0)))]
def r28_4 : List Co := [
  co 21 (.binOp .lss 3 (tm 20) (tm 19) 3)]
def r28_5 : List Co := [
  co 22 (.move (tm 20)),
  co 6 (.assign (tm 22))]
def r28_6 : List Co := [
  co 23 (.move (tm 6)),
  co 24 (.binOp .gtr 3 (tm 23) (.const (.int .i64 0)) 3),
  co 25 (.move (tm 24)),
  cog 26 (.move (tm 1)) 25 true,
  cog 27 (.move (tm 6)) 25 true,
  cog 28 (.binOp .sub 3 (tm 27) (.const (.int .i64 1)) 3) 25 true,
  cog 29 (.indexAddr 27 (tm 26) (tm 28)) 25 true,
  cog 30 (.load 3 (tm 29)) 25 true,
  cog 31 (.move (tm 1)) 25 true,
  cog 32 (.move (tm 6)) 25 true,
  cog 33 (.indexAddr 27 (tm 31) (tm 32)) 25 true,
  cog 34 (.load 3 (tm 33)) 25 true,
  cog 35 (.binOp .geq 3 (tm 30) (tm 34) 3) 25 true,
  co 36 (.pick (tm 25) (tm 35) (.const (.bool false)))]
def r28_7 : List Co := [
  co 4 (.assign (.const (.slice none 0 0))),
  co 5 (.assign (.const (.int .i64 1)))]
def r28_8 : List Co := [
  co 37 (.binOp .add 3 (tm 20) (.const (.int .i64 1)) 3),
  co 20 (.move (tm 37))]
def l28_9 : Cc := (.seq (.reg r28_4) (.seq (.cond (tm 21) .skip (.exit 0)) (.seq (.block 1 (.seq (.reg r28_5) (.seq (.reg r28_6) (.cond (tm 36) (.seq (.reg r28_7) .ret) .skip)))) (.reg r28_8))))
def r28_10 : List Co := [
  co 38 (.move (tm 1)),
  co 39 (.call ⟨.builtin .len, #[(tm 38)], #[27]⟩),
  co 40 (.binOp .add 3 (tm 39) (.const (.int .i64 1)) 3),
  co 41 (.makeSlice 27 (tm 40) (tm 40)),
  co 7 (.assign (tm 41))]
def r28_11 : List Co := [
  co 42 (.move (tm 0)),
  co 43 (.call ⟨.builtin .len, #[(tm 42)], #[27]⟩),
  co 44 (.move (.const (.int .i64 0)))]
def r28_12 : List Co := [
  co 45 (.binOp .lss 3 (tm 44) (tm 43) 3)]
def r28_13 : List Co := [
  co 46 (.indexAddr 27 (tm 42) (tm 44)),
  co 47 (.load 3 (tm 46)),
  co 9 (.assign (tm 47))]
def r28_14 : List Co := [
  co 49 (.move (tm 1)),
  co 50 (.move (tm 9)),
  co 51 (.call ⟨.value (.func 75), #[(tm 49), (tm 50)], #[27, 3]⟩),
  co 48 (.move (tm 51)),
  co 52 (.extract (tm 48) 0),
  co 53 (.extract (tm 48) 1),
  co 10 (.assign (tm 52)),
  co 11 (.assign (tm 53))]
def r28_15 : List Co := [
  co 54 (.move (tm 11))]
def r28_16 : List Co := [
  co 55 (.move (tm 10)),
  co 56 (.binOp .add 3 (tm 55) (.const (.int .i64 1)) 3),
  co 10 (.assign (tm 56))]
def r28_17 : List Co := [
  co 57 (.move (tm 7)),
  co 58 (.move (tm 10)),
  co 59 (.indexAddr 27 (tm 57) (tm 58)),
  co 60 (.load 3 (tm 59)),
  co 61 (.binOp .add 3 (tm 60) (.const (.int .i64 1)) 3),
  co 62 (.indexAddr 27 (tm 57) (tm 58)),
  coz (.store 3 (tm 62) (tm 61))]
def r28_18 : List Co := [
  co 63 (.binOp .add 3 (tm 44) (.const (.int .i64 1)) 3),
  co 44 (.move (tm 63))]
def l28_19 : Cc := (.seq (.reg r28_12) (.seq (.cond (tm 45) .skip (.exit 2)) (.seq (.block 3 (.seq (.reg r28_13) (.seq (.reg r28_14) (.seq (.seq (.reg r28_15) (.cond (tm 54) (.reg r28_16) .skip)) (.reg r28_17))))) (.reg r28_18))))
def r28_20 : List Co := [
  co 64 (.move (tm 7)),
  co 4 (.assign (tm 64)),
  co 5 (.assign (.const (.int .i64 0)))]
/-- wireglass/tap.Histogram -/
def c28 : Cc := (.seq (.reg r28_0) (.seq (.seq (.reg r28_1) (.cond (tm 17) (.seq (.reg r28_2) .ret) .skip)) (.seq (.seq (.reg r28_3) (.block 0 (.loop l28_9))) (.seq (.reg r28_10) (.seq (.seq (.reg r28_11) (.block 2 (.loop l28_19))) (.seq (.reg r28_20) .ret))))))
def r29_0 : List Co := [
  co 4 (.assign (.const (.slice none 0 0))),
  co 5 (.assign (.const (.int .i64 0)))]
def r29_1 : List Co := [
  co 10 (.move (tm 0)),
  co 11 (.call ⟨.builtin .len, #[(tm 10)], #[27]⟩),
  co 12 (.binOp .gtr 3 (tm 11) (.const (.int .i64 200)) 3),
  co 13 (.move (tm 12)),
  cog 14 (.move (tm 1)) 13 false,
  cog 15 (.call ⟨.builtin .len, #[(tm 14)], #[27]⟩) 13 false,
  cog 16 (.binOp .gtr 3 (tm 15) (.const (.int .i64 200)) 3) 13 false,
  co 17 (.pick (tm 13) (.const (.bool true)) (tm 16))]
def r29_2 : List Co := [
  co 4 (.assign (.const (.slice none 0 0))),
  co 5 (.assign (.const (.int .i64 3)))]
def r29_3 : List Co := [
  co 6 (.assign (.const (.int .i64 1)))]
def r29_4 : List Co := [
  co 18 (.move (tm 6)),
  co 19 (.move (tm 1)),
  co 20 (.call ⟨.builtin .len, #[(tm 19)], #[27]⟩),
  co 21 (.binOp .lss 3 (tm 18) (tm 20) 3)]
def r29_5 : List Co := [
  co 24 (.move (tm 1)),
  co 25 (.move (tm 6)),
  co 26 (.indexAddr 27 (tm 24) (tm 25)),
  co 27 (.load 3 (tm 26)),
  co 28 (.move (tm 1)),
  co 29 (.move (tm 6)),
  co 30 (.binOp .sub 3 (tm 29) (.const (.int .i64 1)) 3),
  co 31 (.indexAddr 27 (tm 28) (tm 30)),
  co 32 (.load 3 (tm 31)),
  co 33 (.binOp .leq 3 (tm 27) (tm 32) 3)]
def r29_6 : List Co := [
  co 4 (.assign (.const (.slice none 0 0))),
  co 5 (.assign (.const (.int .i64 1)))]
def r29_7 : List Co := [
  co 22 (.move (tm 6)),
  co 23 (.binOp .add 3 (tm 22) (.const (.int .i64 1)) 3),
  co 6 (.assign (tm 23))]
def l29_8 : Cc := (.seq (.seq (.reg r29_4) (.cond (tm 21) .skip (.exit 0))) (.seq (.block 1 (.seq (.reg r29_5) (.cond (tm 33) (.seq (.reg r29_6) .ret) .skip))) (.reg r29_7)))
def r29_9 : List Co := [
  co 34 (.move (tm 1)),
  co 35 (.call ⟨.builtin .len, #[(tm 34)], #[27]⟩),
  co 36 (.binOp .add 3 (tm 35) (.const (.int .i64 1)) 3),
  co 37 (.makeSlice 27 (tm 36) (tm 36)),
  co 7 (.assign (tm 37))]
def r29_10 : List Co := [
  co 8 (.assign (.const (.int .i64 0)))]
def r29_11 : List Co := [
  co 38 (.move (tm 8)),
  co 39 (.move (tm 0)),
  co 40 (.call ⟨.builtin .len, #[(tm 39)], #[27]⟩),
  co 41 (.binOp .lss 3 (tm 38) (tm 40) 3)]
def r29_12 : List Co := [
  co 9 (.assign (.const (.int .i64 0)))]
def r29_13 : List Co := [
  co 44 (.move (tm 9)),
  co 45 (.move (tm 1)),
  co 46 (.call ⟨.builtin .len, #[(tm 45)], #[27]⟩),
  co 47 (.binOp .lss 3 (tm 44) (tm 46) 3),
  co 48 (.move (tm 47)),
  cog 49 (.move (tm 0)) 48 true,
  cog 50 (.move (tm 8)) 48 true,
  cog 51 (.indexAddr 27 (tm 49) (tm 50)) 48 true,
  cog 52 (.load 3 (tm 51)) 48 true,
  cog 53 (.move (tm 1)) 48 true,
  cog 54 (.move (tm 9)) 48 true,
  cog 55 (.indexAddr 27 (tm 53) (tm 54)) 48 true,
  cog 56 (.load 3 (tm 55)) 48 true,
  cog 57 (.binOp .geq 3 (tm 52) (tm 56) 3) 48 true,
  co 58 (.pick (tm 48) (tm 57) (.const (.bool false)))]
def r29_14 : List Co := [
  co 59 (.move (tm 9)),
  co 60 (.binOp .add 3 (tm 59) (.const (.int .i64 1)) 3),
  co 9 (.assign (tm 60))]
def l29_15 : Cc := (.seq (.seq (.reg r29_13) (.cond (tm 58) .skip (.exit 4))) (.block 5 (.reg r29_14)))
def r29_16 : List Co := [
  co 61 (.move (tm 7)),
  co 62 (.move (tm 9)),
  co 63 (.indexAddr 27 (tm 61) (tm 62)),
  co 64 (.load 3 (tm 63)),
  co 65 (.binOp .add 3 (tm 64) (.const (.int .i64 1)) 3),
  co 66 (.indexAddr 27 (tm 61) (tm 62)),
  coz (.store 3 (tm 66) (tm 65))]
def r29_17 : List Co := [
  co 42 (.move (tm 8)),
  co 43 (.binOp .add 3 (tm 42) (.const (.int .i64 1)) 3),
  co 8 (.assign (tm 43))]
def l29_18 : Cc := (.seq (.seq (.reg r29_11) (.cond (tm 41) .skip (.exit 2))) (.seq (.block 3 (.seq (.reg r29_12) (.seq (.block 4 (.loop l29_15)) (.reg r29_16)))) (.reg r29_17)))
def r29_19 : List Co := [
  co 67 (.move (tm 7)),
  co 4 (.assign (tm 67)),
  co 5 (.assign (.const (.int .i64 0)))]
/-- wireglass/wireglassref23.Histogram -/
def c29 : Cc := (.seq (.reg r29_0) (.seq (.seq (.reg r29_1) (.cond (tm 17) (.seq (.reg r29_2) .ret) .skip)) (.seq (.seq (.reg r29_3) (.block 0 (.loop l29_8))) (.seq (.reg r29_9) (.seq (.seq (.reg r29_10) (.block 2 (.loop l29_18))) (.seq (.reg r29_19) .ret))))))
def r30_0 : List Co := [
  co 6 (.assign (.const (.int .i64 0))),
  co 7 (.assign (.const (.int .i64 0)))]
def r30_1 : List Co := [
  co 11 (.move (tm 0)),
  co 12 (.call ⟨.builtin .len, #[(tm 11)], #[27]⟩),
  co 13 (.binOp .eql 3 (tm 12) (.const (.int .i64 0)) 3),
  co 10 (.assign (tm 13))]
def r30_2 : List Co := [
  co 6 (.assign (.const (.int .i64 0))),
  co 7 (.assign (.const (.int .i64 4)))]
def r30_3 : List Co := [
  co 15 (.move (tm 1)),
  co 16 (.binOp .lss 3 (tm 15) (.const (.int .i64 1)) 3),
  co 17 (.move (tm 16)),
  cog 18 (.move (tm 1)) 17 false,
  cog 19 (.move (tm 2)) 17 false,
  cog 20 (.binOp .gtr 3 (tm 18) (tm 19) 3) 17 false,
  co 21 (.pick (tm 17) (.const (.bool true)) (tm 20)),
  co 22 (.move (tm 21)),
  cog 23 (.move (tm 2)) 22 false,
  cog 24 (.binOp .gtr 3 (tm 23) (.const (.int .i64 1000000)) 3) 22 false,
  co 25 (.pick (tm 22) (.const (.bool true)) (tm 24)),
  co 14 (.assign (tm 25))]
def r30_4 : List Co := [
  co 6 (.assign (.const (.int .i64 0))),
  co 7 (.assign (.const (.int .i64 1)))]
def r30_5 : List Co := [
  co 27 (.move (tm 0)),
  co 28 (.call ⟨.value (.func 54), #[(tm 27)], #[27]⟩),
  co 26 (.assign (tm 28))]
def r30_6 : List Co := [
  co 6 (.assign (.const (.int .i64 0))),
  co 7 (.assign (.const (.int .i64 3)))]
def r30_7 : List Co := [
  co 29 (.move (tm 0)),
  co 30 (.call ⟨.value (.func 62), #[(tm 29)], #[27]⟩),
  co 31 (.call ⟨.value (.func 61), #[(tm 30)], #[83]⟩),
  co 8 (.assign (tm 31))]
def r30_8 : List Co := [
  co 32 (.move (tm 1)),
  co 33 (.move (tm 8)),
  co 34 (.call ⟨.builtin .len, #[(tm 33)], #[27]⟩),
  co 35 (.binOp .mul 3 (tm 32) (tm 34) 3),
  co 36 (.move (tm 2)),
  co 37 (.binOp .add 3 (tm 35) (tm 36) 3),
  co 38 (.binOp .sub 3 (tm 37) (.const (.int .i64 1)) 3),
  co 39 (.move (tm 2)),
  co 40 (.binOp .quo 3 (tm 38) (tm 39) 3),
  co 9 (.assign (tm 40))]
def r30_9 : List Co := [
  co 41 (.move (tm 8)),
  co 42 (.move (tm 9)),
  co 43 (.binOp .sub 3 (tm 42) (.const (.int .i64 1)) 3),
  co 44 (.indexAddr 27 (tm 41) (tm 43)),
  co 45 (.load 3 (tm 44)),
  co 6 (.assign (tm 45)),
  co 7 (.assign (.const (.int .i64 0)))]
/-- wireglass/tap.Quantile -/
def c30 : Cc := (.seq (.reg r30_0) (.seq (.block 0 (.seq (.reg r30_1) (.cond (tm 10) (.seq (.reg r30_2) .ret) (.seq (.reg r30_3) (.cond (tm 14) (.seq (.reg r30_4) .ret) (.seq (.reg r30_5) (.cond (tm 26) (.seq (.reg r30_6) .ret) .skip))))))) (.seq (.reg r30_7) (.seq (.reg r30_8) (.seq (.reg r30_9) .ret)))))
def r31_0 : List Co := [
  co 6 (.assign (.const (.int .i64 0))),
  co 7 (.assign (.const (.int .i64 0)))]
def r31_1 : List Co := [
  co 13 (.move (tm 0)),
  co 14 (.call ⟨.builtin .len, #[(tm 13)], #[27]⟩),
  co 15 (.binOp .eql 3 (tm 14) (.const (.int .i64 0)) 3)]
def r31_2 : List Co := [
  co 6 (.assign (.const (.int .i64 0))),
  co 7 (.assign (.const (.int .i64 4)))]
def r31_3 : List Co := [
  co 16 (.move (tm 1)),
  co 17 (.binOp .lss 3 (tm 16) (.const (.int .i64 1)) 3),
  co 18 (.move (tm 17)),
  cog 19 (.move (tm 1)) 18 false,
  cog 20 (.move (tm 2)) 18 false,
  cog 21 (.binOp .gtr 3 (tm 19) (tm 20) 3) 18 false,
  co 22 (.pick (tm 18) (.const (.bool true)) (tm 21)),
  co 23 (.move (tm 22)),
  cog 24 (.move (tm 2)) 23 false,
  cog 25 (.binOp .gtr 3 (tm 24) (.const (.int .i64 1000000)) 3) 23 false,
  co 26 (.pick (tm 23) (.const (.bool true)) (tm 25))]
def r31_4 : List Co := [
  co 6 (.assign (.const (.int .i64 0))),
  co 7 (.assign (.const (.int .i64 1)))]
def r31_5 : List Co := [
  co 27 (.move (tm 0)),
  co 28 (.call ⟨.builtin .len, #[(tm 27)], #[27]⟩),
  co 29 (.binOp .gtr 3 (tm 28) (.const (.int .i64 200)) 3)]
def r31_6 : List Co := [
  co 6 (.assign (.const (.int .i64 0))),
  co 7 (.assign (.const (.int .i64 3)))]
def r31_7 : List Co := [
  co 8 (.assign (.const (.int .i64 0))),
  co 9 (.assign (.const (.bool false)))]
def r31_8 : List Co := [
  co 10 (.assign (.const (.int .i64 0)))]
def r31_9 : List Co := [
  co 30 (.move (tm 10)),
  co 31 (.move (tm 0)),
  co 32 (.call ⟨.builtin .len, #[(tm 31)], #[27]⟩),
  co 33 (.binOp .lss 3 (tm 30) (tm 32) 3)]
def r31_10 : List Co := [
  co 11 (.assign (.const (.int .i64 0)))]
def r31_11 : List Co := [
  co 12 (.assign (.const (.int .i64 0)))]
def r31_12 : List Co := [
  co 36 (.move (tm 12)),
  co 37 (.move (tm 0)),
  co 38 (.call ⟨.builtin .len, #[(tm 37)], #[27]⟩),
  co 39 (.binOp .lss 3 (tm 36) (tm 38) 3)]
def r31_13 : List Co := [
  co 42 (.move (tm 0)),
  co 43 (.move (tm 12)),
  co 44 (.indexAddr 27 (tm 42) (tm 43)),
  co 45 (.load 3 (tm 44)),
  co 46 (.move (tm 0)),
  co 47 (.move (tm 10)),
  co 48 (.indexAddr 27 (tm 46) (tm 47)),
  co 49 (.load 3 (tm 48)),
  co 50 (.binOp .leq 3 (tm 45) (tm 49) 3)]
def r31_14 : List Co := [
  co 51 (.move (tm 11)),
  co 52 (.binOp .add 3 (tm 51) (.const (.int .i64 1)) 3),
  co 11 (.assign (tm 52))]
def r31_15 : List Co := [
  co 40 (.move (tm 12)),
  co 41 (.binOp .add 3 (tm 40) (.const (.int .i64 1)) 3),
  co 12 (.assign (tm 41))]
def l31_16 : Cc := (.seq (.seq (.reg r31_12) (.cond (tm 39) .skip (.exit 2))) (.seq (.block 3 (.seq (.reg r31_13) (.cond (tm 50) (.reg r31_14) .skip))) (.reg r31_15)))
def r31_17 : List Co := [
  co 53 (.move (tm 11)),
  co 54 (.move (tm 2)),
  co 55 (.binOp .mul 3 (tm 53) (tm 54) 3),
  co 56 (.move (tm 1)),
  co 57 (.move (tm 0)),
  co 58 (.call ⟨.builtin .len, #[(tm 57)], #[27]⟩),
  co 59 (.binOp .mul 3 (tm 56) (tm 58) 3),
  co 60 (.binOp .geq 3 (tm 55) (tm 59) 3),
  co 61 (.move (tm 60)),
  cog 62 (.move (tm 9)) 61 true,
  cog 63 (.unOp .not 4 (tm 62)) 61 true,
  cog 64 (.move (tm 63)) 61 true,
  cog 65 (.move (tm 0)) 64 false,
  cog 66 (.move (tm 10)) 64 false,
  cog 67 (.indexAddr 27 (tm 65) (tm 66)) 64 false,
  cog 68 (.load 3 (tm 67)) 64 false,
  cog 69 (.move (tm 8)) 64 false,
  cog 70 (.binOp .lss 3 (tm 68) (tm 69) 3) 64 false,
  cog 71 (.pick (tm 64) (.const (.bool true)) (tm 70)) 61 true,
  co 72 (.pick (tm 61) (tm 71) (.const (.bool false)))]
def r31_18 : List Co := [
  co 73 (.move (tm 0)),
  co 74 (.move (tm 10)),
  co 75 (.indexAddr 27 (tm 73) (tm 74)),
  co 76 (.load 3 (tm 75)),
  co 8 (.assign (tm 76)),
  co 9 (.assign (.const (.bool true)))]
def r31_19 : List Co := [
  co 34 (.move (tm 10)),
  co 35 (.binOp .add 3 (tm 34) (.const (.int .i64 1)) 3),
  co 10 (.assign (tm 35))]
def l31_20 : Cc := (.seq (.seq (.reg r31_9) (.cond (tm 33) .skip (.exit 0))) (.seq (.block 1 (.seq (.reg r31_10) (.seq (.seq (.reg r31_11) (.block 2 (.loop l31_16))) (.seq (.reg r31_17) (.cond (tm 72) (.reg r31_18) .skip))))) (.reg r31_19)))
def r31_21 : List Co := [
  co 77 (.move (tm 8)),
  co 6 (.assign (tm 77)),
  co 7 (.assign (.const (.int .i64 0)))]
/-- wireglass/wireglassref23.Quantile -/
def c31 : Cc := (.seq (.reg r31_0) (.seq (.seq (.reg r31_1) (.cond (tm 15) (.seq (.reg r31_2) .ret) .skip)) (.seq (.seq (.reg r31_3) (.cond (tm 26) (.seq (.reg r31_4) .ret) .skip)) (.seq (.seq (.reg r31_5) (.cond (tm 29) (.seq (.reg r31_6) .ret) .skip)) (.seq (.reg r31_7) (.seq (.seq (.reg r31_8) (.block 0 (.loop l31_20))) (.seq (.reg r31_21) .ret)))))))
def r54_0 : List Co := [
  co 2 (.assign (.const (.bool false)))]
def r54_1 : List Co := [
  co 3 (.move (tm 0)),
  co 4 (.call ⟨.builtin .len, #[(tm 3)], #[27]⟩),
  co 5 (.binOp .gtr 3 (tm 4) (.const (.int .i64 200)) 3),
  co 2 (.assign (tm 5))]
/-- wireglass/tap.isLarge[int] -/
def c54 : Cc := (.seq (.reg r54_0) (.seq (.reg r54_1) .ret))
def r55_0 : List Co := [
  co 4 (.assign (.const (.bool false)))]
def r55_1 : List Co := [
  co 5 (.move (tm 0)),
  co 6 (.move (tm 1)),
  co 7 (.call ⟨.value (.func 110), #[(tm 5), (tm 6)], #[27, 80]⟩),
  co 8 (.binOp .geq 3 (tm 7) (.const (.int .i64 0)) 3),
  co 4 (.assign (tm 8))]
/-- slices.ContainsFunc[[]int,int] -/
def c55 : Cc := (.seq (.reg r55_0) (.seq (.reg r55_1) .ret))
def r56_0 : List Co := [
  co 2 (.assign (.const (.bool false)))]
def r56_1 : List Co := [
  co 3 (.move (tm 0)),
  co 4 (.call ⟨.value (.func 57), #[(tm 3)], #[3]⟩),
  co 5 (.unOp .not 4 (tm 4)),
  co 2 (.assign (tm 5))]
/-- wireglass/tap.Deltas$1 -/
def c56 : Cc := (.seq (.reg r56_0) (.seq (.reg r56_1) .ret))
def r57_0 : List Co := [
  co 2 (.assign (.const (.bool false)))]
def r57_1 : List Co := [
  co 3 (.move (tm 0)),
  co 4 (.binOp .geq 3 (tm 3) (.const (.int .i64 0)) 3),
  co 5 (.move (tm 4)),
  cog 6 (.move (tm 0)) 5 true,
  cog 7 (.binOp .leq 3 (tm 6) (.const (.int .i64 1000000000000000)) 3) 5 true,
  co 8 (.pick (tm 5) (tm 7) (.const (.bool false))),
  co 2 (.assign (tm 8))]
/-- wireglass/tap.isTime -/
def c57 : Cc := (.seq (.reg r57_0) (.seq (.reg r57_1) .ret))
def r58_0 : List Co := [
  co 2 (.assign (.const (.bool false)))]
def r58_1 : List Co := [
  co 3 (.move (tm 0)),
  co 4 (.binOp .geq 3 (tm 3) (.const (.int .i64 0)) 3),
  co 5 (.move (tm 4)),
  cog 6 (.move (tm 0)) 5 true,
  cog 7 (.binOp .leq 3 (tm 6) (.const (.int .i64 1000000000000000)) 3) 5 true,
  co 8 (.pick (tm 5) (tm 7) (.const (.bool false))),
  co 2 (.assign (tm 8))]
/-- wireglass/wireglassref23.isTime -/
def c58 : Cc := (.seq (.reg r58_0) (.seq (.reg r58_1) .ret))
def r59_0 : List Co := [
  co 2 (.assign (.const (.bool false)))]
def r59_1 : List Co := [
  co 3 (.move (tm 0)),
  co 4 (.call ⟨.value (.func 57), #[(tm 3)], #[3]⟩),
  co 5 (.unOp .not 4 (tm 4)),
  co 2 (.assign (tm 5))]
/-- wireglass/tap.Burst$1 -/
def c59 : Cc := (.seq (.reg r59_0) (.seq (.reg r59_1) .ret))
def r60_0 : List Co := [
  co 2 (.assign (.const (.bool false)))]
def r60_1 : List Co := [
  co 3 (.move (tm 0)),
  co 4 (.binOp .lss 3 (tm 3) (.const (.int .i64 0)) 3),
  co 5 (.move (tm 4)),
  cog 6 (.move (tm 0)) 5 false,
  cog 7 (.binOp .gtr 3 (tm 6) (.const (.int .i64 1000000)) 3) 5 false,
  co 8 (.pick (tm 5) (.const (.bool true)) (tm 7)),
  co 2 (.assign (tm 8))]
/-- wireglass/tap.Burst$2 -/
def c60 : Cc := (.seq (.reg r60_0) (.seq (.reg r60_1) .ret))
def r61_0 : List Co := [
  co 2 (.assign (.const (.slice none 0 0)))]
def r61_1 : List Co := [
  co 4 (.move (tm 0)),
  co 5 (.call ⟨.value (.func 111), #[(tm 4)], #[83]⟩),
  co 3 (.assign (tm 5))]
def r61_2 : List Co := [
  co 6 (.move (tm 3)),
  co 7 (.call ⟨.value (.func 112), #[(tm 6)], #[27]⟩)]
def r61_3 : List Co := [
  co 8 (.move (tm 3)),
  co 2 (.assign (tm 8))]
/-- slices.Sorted[int] -/
def c61 : Cc := (.seq (.reg r61_0) (.seq (.reg r61_1) (.seq (.reg r61_2) (.seq (.reg r61_3) .ret))))
def r62_0 : List Co := [
  coi 1 (.box 27 (tm 0)),
  co 2 (.assign (.const .nilFunc))]
def r62_1 : List Co := [
  co 3 (.makeFunc (.func 113) #[] #[(tm 1)]),
  co 2 (.assign (tm 3))]
/-- slices.Values[[]int,int] -/
def c62 : Cc := (.seq (.reg r62_0) (.seq (.reg r62_1) .ret))
def r70_0 : List Co := [
  co 2 (.assign (.const (.int .i64 0)))]
def r70_1 : List Co := [
  co 5 (.move (tm 0)),
  co 6 (.call ⟨.builtin .len, #[(tm 5)], #[27]⟩),
  co 7 (.binOp .lss 3 (tm 6) (.const (.int .i64 1)) 3)]
def r70_2 : List Co := [
  co 8 (.makeInterface 9 (.const (.string ⟨#[115, 108, 105, 99, 101, 115, 46, 77, 97, 120, 58, 32, 101, 109, 112, 116, 121, 32, 108, 105, 115, 116]⟩))),
  coz (.panic (tm 8))]
def r70_3 : List Co := [
  co 9 (.move (tm 0)),
  co 10 (.indexAddr 27 (tm 9) (.const (.int .i64 0))),
  co 11 (.load 3 (tm 10)),
  co 3 (.assign (tm 11))]
def r70_4 : List Co := [
  co 4 (.assign (.const (.int .i64 1)))]
def r70_5 : List Co := [
  co 12 (.move (tm 4)),
  co 13 (.move (tm 0)),
  co 14 (.call ⟨.builtin .len, #[(tm 13)], #[27]⟩),
  co 15 (.binOp .lss 3 (tm 12) (tm 14) 3)]
def r70_6 : List Co := [
  co 18 (.move (tm 3)),
  co 19 (.move (tm 0)),
  co 20 (.move (tm 4)),
  co 21 (.indexAddr 27 (tm 19) (tm 20)),
  co 22 (.load 3 (tm 21)),
  co 23 (.call ⟨.builtin .max, #[(tm 18), (tm 22)], #[3, 3]⟩),
  co 3 (.assign (tm 23))]
def r70_7 : List Co := [
  co 16 (.move (tm 4)),
  co 17 (.binOp .add 3 (tm 16) (.const (.int .i64 1)) 3),
  co 4 (.assign (tm 17))]
def l70_8 : Cc := (.seq (.seq (.reg r70_5) (.cond (tm 15) .skip (.exit 0))) (.seq (.block 1 (.reg r70_6)) (.reg r70_7)))
def r70_9 : List Co := [
  co 24 (.move (tm 3)),
  co 2 (.assign (tm 24))]
/-- slices.Max[[]int,int] -/
def c70 : Cc := (.seq (.reg r70_0) (.seq (.seq (.reg r70_1) (.cond (tm 7) (.reg r70_2) .skip)) (.seq (.reg r70_3) (.seq (.seq (.reg r70_4) (.block 0 (.loop l70_8))) (.seq (.reg r70_9) .ret)))))
def r71_0 : List Co := [
  co 4 (.assign (.const (.int .i64 0)))]
def r71_1 : List Co := [
  co 8 (.move (tm 0)),
  co 9 (.call ⟨.builtin .len, #[(tm 8)], #[27]⟩),
  co 10 (.binOp .eql 3 (tm 9) (.const (.int .i64 0)) 3)]
def r71_2 : List Co := [
  co 4 (.assign (.const (.int .i64 0)))]
def r71_3 : List Co := [
  co 5 (.assign (.const (.int .i64 0)))]
def r71_4 : List Co := [
  co 11 (.move (tm 0)),
  co 12 (.call ⟨.builtin .len, #[(tm 11)], #[27]⟩),
  co 13 (.move (.const (.int .i64 0)))]
def r71_5 : List Co := [
  co 14 (.binOp .lss 3 (tm 13) (tm 12) 3)]
def r71_6 : List Co := [
  co 15 (.indexAddr 27 (tm 11) (tm 13)),
  co 16 (.load 3 (tm 15)),
  co 7 (.assign (tm 16))]
def r71_7 : List Co := [
  co 17 (.move (tm 5)),
  co 18 (.move (tm 7)),
  co 19 (.binOp .add 3 (tm 17) (tm 18) 3),
  co 5 (.assign (tm 19))]
def r71_8 : List Co := [
  co 20 (.binOp .add 3 (tm 13) (.const (.int .i64 1)) 3),
  co 13 (.move (tm 20))]
def l71_9 : Cc := (.seq (.reg r71_5) (.seq (.cond (tm 14) .skip (.exit 0)) (.seq (.block 1 (.seq (.reg r71_6) (.reg r71_7))) (.reg r71_8))))
def r71_10 : List Co := [
  co 21 (.move (tm 1))]
def r71_11 : List Co := [
  co 23 (.binOp .eql 3 (tm 21) (.const (.int .i64 0)) 3),
  co 22 (.assign (tm 23))]
def r71_12 : List Co := [
  co 24 (.move (tm 0)),
  co 25 (.call ⟨.builtin .len, #[(tm 24)], #[27]⟩),
  co 4 (.assign (tm 25))]
def r71_13 : List Co := [
  co 27 (.binOp .eql 3 (tm 21) (.const (.int .i64 2)) 3),
  co 26 (.assign (tm 27))]
def r71_14 : List Co := [
  co 28 (.move (tm 0)),
  co 29 (.call ⟨.value (.func 117), #[(tm 28)], #[27]⟩),
  co 4 (.assign (tm 29))]
def r71_15 : List Co := [
  co 31 (.binOp .eql 3 (tm 21) (.const (.int .i64 3)) 3),
  co 30 (.assign (tm 31))]
def r71_16 : List Co := [
  co 32 (.move (tm 0)),
  co 33 (.call ⟨.value (.func 70), #[(tm 32)], #[27]⟩),
  co 4 (.assign (tm 33))]
def r71_17 : List Co := [
  co 35 (.binOp .eql 3 (tm 21) (.const (.int .i64 4)) 3),
  co 34 (.assign (tm 35))]
def r71_18 : List Co := [
  co 36 (.move (tm 5)),
  co 37 (.move (tm 0)),
  co 38 (.call ⟨.builtin .len, #[(tm 37)], #[27]⟩),
  co 39 (.call ⟨.value (.func 118), #[(tm 36), (tm 38)], #[3, 3]⟩),
  co 4 (.assign (tm 39))]
def r71_19 : List Co := [
  co 40 (.move (tm 5)),
  co 4 (.assign (tm 40))]
/-- wireglass/tap.summed -/
def c71 : Cc := (.seq (.reg r71_0) (.seq (.seq (.reg r71_1) (.cond (tm 10) (.seq (.reg r71_2) .ret) .skip)) (.seq (.reg r71_3) (.seq (.seq (.reg r71_4) (.block 0 (.loop l71_9))) (.seq (.seq (.reg r71_10) (.block 2 (.seq (.reg r71_11) (.cond (tm 22) (.seq (.reg r71_12) .ret) (.seq (.reg r71_13) (.cond (tm 26) (.seq (.reg r71_14) .ret) (.seq (.reg r71_15) (.cond (tm 30) (.seq (.reg r71_16) .ret) (.seq (.reg r71_17) (.cond (tm 34) (.seq (.reg r71_18) .ret) .skip)))))))))) (.seq (.reg r71_19) .ret))))))
def r73_0 : List Co := [
  co 2 (.assign (.const (.bool false)))]
def r73_1 : List Co := [
  co 3 (.move (tm 0)),
  co 4 (.binOp .gtr 3 (tm 3) (.const (.int .i64 4503599627370496)) 3),
  co 5 (.move (tm 4)),
  cog 6 (.move (tm 0)) 5 false,
  cog 7 (.binOp .lss 3 (tm 6) (.const (.int .i64 (-4503599627370496))) 3) 5 false,
  co 8 (.pick (tm 5) (.const (.bool true)) (tm 7)),
  co 2 (.assign (tm 8))]
/-- wireglass/tap.Smooth$1 -/
def c73 : Cc := (.seq (.reg r73_0) (.seq (.reg r73_1) .ret))
def r74_0 : List Co := [
  co 4 (.assign (.const (.int .i64 0)))]
def r74_1 : List Co := [
  co 6 (.move (tm 0)),
  co 7 (.move (tm 1)),
  co 8 (.binOp .quo 3 (tm 6) (tm 7) 3),
  co 5 (.assign (tm 8))]
def r74_2 : List Co := [
  co 9 (.move (tm 5)),
  co 10 (.move (tm 1)),
  co 11 (.binOp .mul 3 (tm 9) (tm 10) 3),
  co 12 (.move (tm 0)),
  co 13 (.binOp .gtr 3 (tm 11) (tm 12) 3)]
def r74_3 : List Co := [
  co 14 (.move (tm 5)),
  co 15 (.binOp .sub 3 (tm 14) (.const (.int .i64 1)) 3),
  co 5 (.assign (tm 15))]
def r74_4 : List Co := [
  co 16 (.move (tm 5)),
  co 4 (.assign (tm 16))]
/-- wireglass/wireglassref23.floor -/
def c74 : Cc := (.seq (.reg r74_0) (.seq (.reg r74_1) (.seq (.seq (.reg r74_2) (.cond (tm 13) (.reg r74_3) .skip)) (.seq (.reg r74_4) .ret))))
def r75_0 : List Co := [
  co 4 (.assign (.const (.int .i64 0))),
  co 5 (.assign (.const (.bool false)))]
def r75_1 : List Co := [
  co 10 (.move (tm 0)),
  co 11 (.call ⟨.builtin .len, #[(tm 10)], #[27]⟩),
  co 6 (.assign (tm 11))]
def r75_2 : List Co := [
  co 12 (.move (tm 6)),
  co 7 (.assign (.const (.int .i64 0))),
  co 8 (.assign (tm 12))]
def r75_3 : List Co := [
  co 13 (.move (tm 7)),
  co 14 (.move (tm 8)),
  co 15 (.binOp .lss 3 (tm 13) (tm 14) 3)]
def r75_4 : List Co := [
  co 16 (.move (tm 7)),
  co 17 (.move (tm 8)),
  co 18 (.binOp .add 3 (tm 16) (tm 17) 3),
  co 19 (.convert 3 160 (tm 18)),
  co 20 (.binOp .shr 160 (tm 19) (.const (.int .u64 1)) 160),
  co 21 (.convert 160 3 (tm 20)),
  co 9 (.assign (tm 21))]
def r75_5 : List Co := [
  co 22 (.move (tm 0)),
  co 23 (.move (tm 9)),
  co 24 (.indexAddr 27 (tm 22) (tm 23)),
  co 25 (.load 3 (tm 24)),
  co 26 (.move (tm 1)),
  co 27 (.call ⟨.value (.func 119), #[(tm 25), (tm 26)], #[3, 3]⟩)]
def r75_6 : List Co := [
  co 28 (.move (tm 9)),
  co 29 (.binOp .add 3 (tm 28) (.const (.int .i64 1)) 3),
  co 7 (.assign (tm 29))]
def r75_7 : List Co := [
  co 30 (.move (tm 9)),
  co 8 (.assign (tm 30))]
def l75_8 : Cc := (.seq (.seq (.reg r75_3) (.cond (tm 15) .skip (.exit 0))) (.block 1 (.seq (.reg r75_4) (.seq (.reg r75_5) (.cond (tm 27) (.reg r75_6) (.reg r75_7))))))
def r75_9 : List Co := [
  co 31 (.move (tm 7)),
  co 32 (.move (tm 7)),
  co 33 (.move (tm 6)),
  co 34 (.binOp .lss 3 (tm 32) (tm 33) 3),
  co 35 (.move (tm 34)),
  cog 36 (.move (tm 0)) 35 true,
  cog 37 (.move (tm 7)) 35 true,
  cog 38 (.indexAddr 27 (tm 36) (tm 37)) 35 true,
  cog 39 (.load 3 (tm 38)) 35 true,
  cog 40 (.move (tm 1)) 35 true,
  cog 41 (.binOp .eql 3 (tm 39) (tm 40) 3) 35 true,
  cog 42 (.move (tm 41)) 35 true,
  cog 43 (.move (tm 0)) 42 false,
  cog 44 (.move (tm 7)) 42 false,
  cog 45 (.indexAddr 27 (tm 43) (tm 44)) 42 false,
  cog 46 (.load 3 (tm 45)) 42 false,
  cog 47 (.call ⟨.value (.func 120), #[(tm 46)], #[3]⟩) 42 false,
  cog 48 (.move (tm 47)) 42 false,
  cog 49 (.move (tm 1)) 48 true,
  cog 50 (.call ⟨.value (.func 120), #[(tm 49)], #[3]⟩) 48 true,
  cog 51 (.pick (tm 48) (tm 50) (.const (.bool false))) 42 false,
  cog 52 (.pick (tm 42) (.const (.bool true)) (tm 51)) 35 true,
  co 53 (.pick (tm 35) (tm 52) (.const (.bool false))),
  co 4 (.assign (tm 31)),
  co 5 (.assign (tm 53))]
/-- slices.BinarySearch[[]int,int] -/
def c75 : Cc := (.seq (.reg r75_0) (.seq (.reg r75_1) (.seq (.reg r75_2) (.seq (.block 0 (.loop l75_8)) (.seq (.reg r75_9) .ret)))))
def r105_0 : List Co := [
  co 2 (.assign (.const (.bool false)))]
def r105_1 : List Co := [
  co 3 (.move (tm 0)),
  co 4 (.move (tm 0)),
  co 5 (.binOp .neq 3 (tm 3) (tm 4) 3),
  co 2 (.assign (tm 5))]
/-- cmp.isNaN[int] -/
def c105 : Cc := (.seq (.reg r105_0) (.seq (.reg r105_1) .ret))
def r110_0 : List Co := [
  co 4 (.assign (.const (.int .i64 0)))]
def r110_1 : List Co := [
  co 6 (.move (tm 0)),
  co 7 (.call ⟨.builtin .len, #[(tm 6)], #[27]⟩),
  co 8 (.move (.const (.int .i64 0)))]
def r110_2 : List Co := [
  co 9 (.binOp .lss 3 (tm 8) (tm 7) 3)]
def r110_3 : List Co := [
  co 10 (.move (tm 8)),
  co 5 (.assign (tm 10))]
def r110_4 : List Co := [
  co 11 (.move (tm 1)),
  co 12 (.move (tm 0)),
  co 13 (.move (tm 5)),
  co 14 (.indexAddr 27 (tm 12) (tm 13)),
  co 15 (.load 3 (tm 14)),
  co 16 (.call ⟨.value (tm 11), #[(tm 15)], #[3]⟩)]
def r110_5 : List Co := [
  co 17 (.move (tm 5)),
  co 4 (.assign (tm 17))]
def r110_6 : List Co := [
  co 18 (.binOp .add 3 (tm 8) (.const (.int .i64 1)) 3),
  co 8 (.move (tm 18))]
def l110_7 : Cc := (.seq (.reg r110_2) (.seq (.cond (tm 9) .skip (.exit 0)) (.seq (.block 1 (.seq (.reg r110_3) (.seq (.reg r110_4) (.cond (tm 16) (.seq (.reg r110_5) .ret) .skip)))) (.reg r110_6))))
def r110_8 : List Co := [
  co 4 (.assign (.const (.int .i64 (-1))))]
/-- slices.IndexFunc[[]int,int] -/
def c110 : Cc := (.seq (.reg r110_0) (.seq (.seq (.reg r110_1) (.block 0 (.loop l110_7))) (.seq (.reg r110_8) .ret)))
def r111_0 : List Co := [
  co 2 (.assign (.const (.slice none 0 0)))]
def r111_1 : List Co := [
  co 3 (.move (tm 0)),
  co 4 (.call ⟨.value (.func 160), #[(.const (.slice none 0 0)), (tm 3)], #[27, 83]⟩),
  co 2 (.assign (tm 4))]
/-- slices.Collect[int] -/
def c111 : Cc := (.seq (.reg r111_0) (.seq (.reg r111_1) .ret))
def r113_0 : List Co := [
  co 5 (.load 27 (tm 1)),
  co 6 (.call ⟨.builtin .len, #[(tm 5)], #[27]⟩),
  co 7 (.move (.const (.int .i64 0)))]
def r113_1 : List Co := [
  co 8 (.binOp .lss 3 (tm 7) (tm 6) 3)]
def r113_2 : List Co := [
  co 9 (.indexAddr 27 (tm 5) (tm 7)),
  co 10 (.load 3 (tm 9)),
  co 4 (.assign (tm 10))]
def r113_3 : List Co := [
  co 11 (.move (tm 0)),
  co 12 (.move (tm 4)),
  co 13 (.call ⟨.value (tm 11), #[(tm 12)], #[3]⟩),
  co 14 (.unOp .not 4 (tm 13))]
def r113_4 : List Co := [
  co 15 (.binOp .add 3 (tm 7) (.const (.int .i64 1)) 3),
  co 7 (.move (tm 15))]
def l113_5 : Cc := (.seq (.reg r113_1) (.seq (.cond (tm 8) .skip (.exit 0)) (.seq (.block 1 (.seq (.reg r113_2) (.seq (.reg r113_3) (.cond (tm 14) .ret .skip)))) (.reg r113_4))))
/-- slices.Values[[]int,int]$1 -/
def c113 : Cc := (.seq (.reg r113_0) (.block 0 (.loop l113_5)))
def r117_0 : List Co := [
  co 2 (.assign (.const (.int .i64 0)))]
def r117_1 : List Co := [
  co 5 (.move (tm 0)),
  co 6 (.call ⟨.builtin .len, #[(tm 5)], #[27]⟩),
  co 7 (.binOp .lss 3 (tm 6) (.const (.int .i64 1)) 3)]
def r117_2 : List Co := [
  co 8 (.makeInterface 9 (.const (.string ⟨#[115, 108, 105, 99, 101, 115, 46, 77, 105, 110, 58, 32, 101, 109, 112, 116, 121, 32, 108, 105, 115, 116]⟩))),
  coz (.panic (tm 8))]
def r117_3 : List Co := [
  co 9 (.move (tm 0)),
  co 10 (.indexAddr 27 (tm 9) (.const (.int .i64 0))),
  co 11 (.load 3 (tm 10)),
  co 3 (.assign (tm 11))]
def r117_4 : List Co := [
  co 4 (.assign (.const (.int .i64 1)))]
def r117_5 : List Co := [
  co 12 (.move (tm 4)),
  co 13 (.move (tm 0)),
  co 14 (.call ⟨.builtin .len, #[(tm 13)], #[27]⟩),
  co 15 (.binOp .lss 3 (tm 12) (tm 14) 3)]
def r117_6 : List Co := [
  co 18 (.move (tm 3)),
  co 19 (.move (tm 0)),
  co 20 (.move (tm 4)),
  co 21 (.indexAddr 27 (tm 19) (tm 20)),
  co 22 (.load 3 (tm 21)),
  co 23 (.call ⟨.builtin .min, #[(tm 18), (tm 22)], #[3, 3]⟩),
  co 3 (.assign (tm 23))]
def r117_7 : List Co := [
  co 16 (.move (tm 4)),
  co 17 (.binOp .add 3 (tm 16) (.const (.int .i64 1)) 3),
  co 4 (.assign (tm 17))]
def l117_8 : Cc := (.seq (.seq (.reg r117_5) (.cond (tm 15) .skip (.exit 0))) (.seq (.block 1 (.reg r117_6)) (.reg r117_7)))
def r117_9 : List Co := [
  co 24 (.move (tm 3)),
  co 2 (.assign (tm 24))]
/-- slices.Min[[]int,int] -/
def c117 : Cc := (.seq (.reg r117_0) (.seq (.seq (.reg r117_1) (.cond (tm 7) (.reg r117_2) .skip)) (.seq (.reg r117_3) (.seq (.seq (.reg r117_4) (.block 0 (.loop l117_8))) (.seq (.reg r117_9) .ret)))))
def r118_0 : List Co := [
  co 4 (.assign (.const (.int .i64 0)))]
def r118_1 : List Co := [
  co 7 (.move (tm 0)),
  co 8 (.binOp .mul 3 (.const (.int .i64 2)) (tm 7) 3),
  co 9 (.move (tm 1)),
  co 10 (.binOp .add 3 (tm 8) (tm 9) 3),
  co 5 (.assign (tm 10))]
def r118_2 : List Co := [
  co 11 (.move (tm 5)),
  co 12 (.move (tm 1)),
  co 13 (.binOp .mul 3 (.const (.int .i64 2)) (tm 12) 3),
  co 14 (.binOp .quo 3 (tm 11) (tm 13) 3),
  co 6 (.assign (tm 14))]
def r118_3 : List Co := [
  co 15 (.move (tm 5)),
  co 16 (.move (tm 1)),
  co 17 (.binOp .mul 3 (.const (.int .i64 2)) (tm 16) 3),
  co 18 (.binOp .rem 3 (tm 15) (tm 17) 3),
  co 19 (.binOp .lss 3 (tm 18) (.const (.int .i64 0)) 3)]
def r118_4 : List Co := [
  co 20 (.move (tm 6)),
  co 21 (.binOp .sub 3 (tm 20) (.const (.int .i64 1)) 3),
  co 6 (.assign (tm 21))]
def r118_5 : List Co := [
  co 22 (.move (tm 6)),
  co 4 (.assign (tm 22))]
/-- wireglass/tap.rounded -/
def c118 : Cc := (.seq (.reg r118_0) (.seq (.reg r118_1) (.seq (.reg r118_2) (.seq (.seq (.reg r118_3) (.cond (tm 19) (.reg r118_4) .skip)) (.seq (.reg r118_5) .ret)))))
def r119_0 : List Co := [
  co 4 (.assign (.const (.bool false)))]
def r119_1 : List Co := [
  co 5 (.move (tm 0)),
  co 6 (.call ⟨.value (.func 105), #[(tm 5)], #[3]⟩),
  co 7 (.move (tm 6)),
  cog 8 (.move (tm 1)) 7 true,
  cog 9 (.call ⟨.value (.func 105), #[(tm 8)], #[3]⟩) 7 true,
  cog 10 (.unOp .not 4 (tm 9)) 7 true,
  co 11 (.pick (tm 7) (tm 10) (.const (.bool false))),
  co 12 (.move (tm 11)),
  cog 13 (.move (tm 0)) 12 false,
  cog 14 (.move (tm 1)) 12 false,
  cog 15 (.binOp .lss 3 (tm 13) (tm 14) 3) 12 false,
  co 16 (.pick (tm 12) (.const (.bool true)) (tm 15)),
  co 4 (.assign (tm 16))]
/-- cmp.Less[int] -/
def c119 : Cc := (.seq (.reg r119_0) (.seq (.reg r119_1) .ret))
def r120_0 : List Co := [
  co 2 (.assign (.const (.bool false)))]
def r120_1 : List Co := [
  co 3 (.move (tm 0)),
  co 4 (.move (tm 0)),
  co 5 (.binOp .neq 3 (tm 3) (tm 4) 3),
  co 2 (.assign (tm 5))]
/-- slices.isNaN[int] -/
def c120 : Cc := (.seq (.reg r120_0) (.seq (.reg r120_1) .ret))
def r160_0 : List Co := [
  co 2 (.box 27 (tm 0)),
  co 4 (.assign (.const (.slice none 0 0)))]
def r160_1 : List Co := [
  co 6 (.move (tm 1))]
def r160_2 : List Co := [
  co 5 (.assign (tm 7))]
def r160_3 : List Co := [
  co 8 (.load 27 (tm 2)),
  co 9 (.move (tm 5)),
  coi 10 (.buildSlice 27 1 #[(0, (tm 9))]),
  co 11 (.call ⟨.builtin .append, #[(tm 8), (tm 10)], #[27, 27]⟩),
  coz (.store 27 (tm 2) (tm 11))]
noncomputable def a160_0 : Code := ((rngs (Tryz.f160.body.getD .skip)).getD 0 (.skip, .skip)).1
noncomputable def b160_0 : Code := ((rngs (Tryz.f160.body.getD .skip)).getD 0 (.skip, .skip)).2
def ca160_0 : Cc := (.reg r160_2)
def cb160_0 : Cc := (.block 1 (.reg r160_3))
set_option maxRecDepth 100000 in
theorem ha160_0 : compC Tryz.prog 13 a160_0 = some ca160_0 := by kernel_rfl
set_option maxRecDepth 100000 in
theorem hb160_0 : compC Tryz.prog 13 b160_0 = some cb160_0 := by kernel_rfl
def r160_4 : List Co := [
  co 12 (.load 27 (tm 2)),
  co 4 (.assign (tm 12))]
/-- slices.AppendSeq[[]int,int] -/
def c160 : Cc := (.seq (.reg r160_0) (.seq (.seq (.reg r160_1) (.block 0 (.rng (tm 6) [7] a160_0 b160_0))) (.seq (.reg r160_4) .ret)))
@[go_sem] theorem kp9 (v : V) : demK 9 v = v.dem := rfl
def rs9 : List ResultVar := [.tmp 6]
theorem gc9 (H : Hp) (r : V × Hp) : pr.gc 9 H r = gcF H r := gcOne rfl H r
set_option maxRecDepth 100000 in
theorem ex9 : ExP 9 101 c9 rs9 := @fun _ _ _ ha h => call_ex (fn := Tryz.f9) rfl Tryz.func9 rfl (by kernel_rfl) rfl (Nat.max_eq_right ha) h
theorem run9 : RunP 9 101 c9 rs9 := @fun _ _ _ ha h => run_of ex9 ha h
@[go_sem] theorem kp17 (v : V) : demK 17 v = v.dem := rfl
def rs17 : List ResultVar := [.tmp 4, .tmp 5]
theorem gc17 (H : Hp) (r : V × Hp) : pr.gc 17 H r = gcF H r := gcOne rfl H r
set_option maxRecDepth 100000 in
theorem ex17 : ExP 17 64 c17 rs17 := @fun _ _ _ ha h => call_ex (fn := Tryz.f17) rfl Tryz.func17 rfl (by kernel_rfl) rfl (Nat.max_eq_right ha) h
theorem run17 : RunP 17 64 c17 rs17 := @fun _ _ _ ha h => run_of ex17 ha h
@[go_sem] theorem kp20 (v : V) : demK 20 v = v.dem := rfl
def rs20 : List ResultVar := [.tmp 6, .tmp 7, .tmp 8]
theorem gc20 (H : Hp) (r : V × Hp) : pr.gc 20 H r = gcF H r := gcOne rfl H r
set_option maxRecDepth 100000 in
theorem ex20 : ExP 20 112 c20 rs20 := @fun _ _ _ ha h => call_ex (fn := Tryz.f20) rfl Tryz.func20 rfl (by kernel_rfl) rfl (Nat.max_eq_right ha) h
theorem run20 : RunP 20 112 c20 rs20 := @fun _ _ _ ha h => run_of ex20 ha h
@[go_sem] theorem kp25 (v : V) : demK 25 v = v.dem := rfl
def rs25 : List ResultVar := [.tmp 4]
theorem gc25 (H : Hp) (r : V × Hp) : pr.gc 25 H r = gcF H r := gcOne rfl H r
set_option maxRecDepth 100000 in
theorem ex25 : ExP 25 26 c25 rs25 := @fun _ _ _ ha h => call_ex (fn := Tryz.f25) rfl Tryz.func25 rfl (by kernel_rfl) rfl (Nat.max_eq_right ha) h
theorem run25 : RunP 25 26 c25 rs25 := @fun _ _ _ ha h => run_of ex25 ha h
@[go_sem] theorem kp26 (v : V) : demK 26 v = v.dem := rfl
def rs26 : List ResultVar := [.tmp 4, .tmp 5]
theorem gc26 (H : Hp) (r : V × Hp) : pr.gc 26 H r = gcF H r := gcOne rfl H r
set_option maxRecDepth 100000 in
theorem ex26 : ExP 26 55 c26 rs26 := @fun _ _ _ ha h => call_ex (fn := Tryz.f26) rfl Tryz.func26 rfl (by kernel_rfl) rfl (Nat.max_eq_right ha) h
theorem run26 : RunP 26 55 c26 rs26 := @fun _ _ _ ha h => run_of ex26 ha h
@[go_sem] theorem kp27 (v : V) : demK 27 v = v.dem := rfl
def rs27 : List ResultVar := [.tmp 4, .tmp 5]
theorem gc27 (H : Hp) (r : V × Hp) : pr.gc 27 H r = gcF H r := gcOne rfl H r
set_option maxRecDepth 100000 in
theorem ex27 : ExP 27 65 c27 rs27 := @fun _ _ _ ha h => call_ex (fn := Tryz.f27) rfl Tryz.func27 rfl (by kernel_rfl) rfl (Nat.max_eq_right ha) h
theorem run27 : RunP 27 65 c27 rs27 := @fun _ _ _ ha h => run_of ex27 ha h
@[go_sem] theorem kp28 (v : V) : demK 28 v = v.dem := rfl
def rs28 : List ResultVar := [.tmp 4, .tmp 5]
theorem gc28 (H : Hp) (r : V × Hp) : pr.gc 28 H r = gcF H r := gcOne rfl H r
set_option maxRecDepth 100000 in
theorem ex28 : ExP 28 65 c28 rs28 := @fun _ _ _ ha h => call_ex (fn := Tryz.f28) rfl Tryz.func28 rfl (by kernel_rfl) rfl (Nat.max_eq_right ha) h
theorem run28 : RunP 28 65 c28 rs28 := @fun _ _ _ ha h => run_of ex28 ha h
@[go_sem] theorem kp29 (v : V) : demK 29 v = v.dem := rfl
def rs29 : List ResultVar := [.tmp 4, .tmp 5]
theorem gc29 (H : Hp) (r : V × Hp) : pr.gc 29 H r = gcF H r := gcOne rfl H r
set_option maxRecDepth 100000 in
theorem ex29 : ExP 29 68 c29 rs29 := @fun _ _ _ ha h => call_ex (fn := Tryz.f29) rfl Tryz.func29 rfl (by kernel_rfl) rfl (Nat.max_eq_right ha) h
theorem run29 : RunP 29 68 c29 rs29 := @fun _ _ _ ha h => run_of ex29 ha h
@[go_sem] theorem kp30 (v : V) : demK 30 v = v.dem := rfl
def rs30 : List ResultVar := [.tmp 6, .tmp 7]
theorem gc30 (H : Hp) (r : V × Hp) : pr.gc 30 H r = gcF H r := gcOne rfl H r
set_option maxRecDepth 100000 in
theorem ex30 : ExP 30 46 c30 rs30 := @fun _ _ _ ha h => call_ex (fn := Tryz.f30) rfl Tryz.func30 rfl (by kernel_rfl) rfl (Nat.max_eq_right ha) h
theorem run30 : RunP 30 46 c30 rs30 := @fun _ _ _ ha h => run_of ex30 ha h
@[go_sem] theorem kp31 (v : V) : demK 31 v = v.dem := rfl
def rs31 : List ResultVar := [.tmp 6, .tmp 7]
theorem gc31 (H : Hp) (r : V × Hp) : pr.gc 31 H r = gcF H r := gcOne rfl H r
set_option maxRecDepth 100000 in
theorem ex31 : ExP 31 78 c31 rs31 := @fun _ _ _ ha h => call_ex (fn := Tryz.f31) rfl Tryz.func31 rfl (by kernel_rfl) rfl (Nat.max_eq_right ha) h
theorem run31 : RunP 31 78 c31 rs31 := @fun _ _ _ ha h => run_of ex31 ha h
@[go_sem] theorem kp54 (v : V) : demK 54 v = v.dem := rfl
def rs54 : List ResultVar := [.tmp 2]
theorem gc54 (H : Hp) (r : V × Hp) : pr.gc 54 H r = gcF H r := gcOne rfl H r
set_option maxRecDepth 100000 in
theorem ex54 : ExP 54 6 c54 rs54 := @fun _ _ _ ha h => call_ex (fn := Tryz.f54) rfl Tryz.func54 rfl (by kernel_rfl) rfl (Nat.max_eq_right ha) h
theorem run54 : RunP 54 6 c54 rs54 := @fun _ _ _ ha h => run_of ex54 ha h
@[go_sem] theorem kp55 (v : V) : demK 55 v = v.dem := rfl
def rs55 : List ResultVar := [.tmp 4]
theorem gc55 (H : Hp) (r : V × Hp) : pr.gc 55 H r = gcF H r := gcOne rfl H r
set_option maxRecDepth 100000 in
theorem ex55 : ExP 55 9 c55 rs55 := @fun _ _ _ ha h => call_ex (fn := Tryz.f55) rfl Tryz.func55 rfl (by kernel_rfl) rfl (Nat.max_eq_right ha) h
theorem run55 : RunP 55 9 c55 rs55 := @fun _ _ _ ha h => run_of ex55 ha h
@[go_sem] theorem kp56 (v : V) : demK 56 v = v.dem := rfl
def rs56 : List ResultVar := [.tmp 2]
theorem gc56 (H : Hp) (r : V × Hp) : pr.gc 56 H r = gcF H r := gcOne rfl H r
set_option maxRecDepth 100000 in
theorem ex56 : ExP 56 6 c56 rs56 := @fun _ _ _ ha h => call_ex (fn := Tryz.f56) rfl Tryz.func56 rfl (by kernel_rfl) rfl (Nat.max_eq_right ha) h
theorem run56 : RunP 56 6 c56 rs56 := @fun _ _ _ ha h => run_of ex56 ha h
@[go_sem] theorem kp57 (v : V) : demK 57 v = v.dem := rfl
def rs57 : List ResultVar := [.tmp 2]
theorem gc57 (H : Hp) (r : V × Hp) : pr.gc 57 H r = gcF H r := gcOne rfl H r
set_option maxRecDepth 100000 in
theorem ex57 : ExP 57 9 c57 rs57 := @fun _ _ _ ha h => call_ex (fn := Tryz.f57) rfl Tryz.func57 rfl (by kernel_rfl) rfl (Nat.max_eq_right ha) h
theorem run57 : RunP 57 9 c57 rs57 := @fun _ _ _ ha h => run_of ex57 ha h
@[go_sem] theorem kp58 (v : V) : demK 58 v = v.dem := rfl
def rs58 : List ResultVar := [.tmp 2]
theorem gc58 (H : Hp) (r : V × Hp) : pr.gc 58 H r = gcF H r := gcOne rfl H r
set_option maxRecDepth 100000 in
theorem ex58 : ExP 58 9 c58 rs58 := @fun _ _ _ ha h => call_ex (fn := Tryz.f58) rfl Tryz.func58 rfl (by kernel_rfl) rfl (Nat.max_eq_right ha) h
theorem run58 : RunP 58 9 c58 rs58 := @fun _ _ _ ha h => run_of ex58 ha h
@[go_sem] theorem kp59 (v : V) : demK 59 v = v.dem := rfl
def rs59 : List ResultVar := [.tmp 2]
theorem gc59 (H : Hp) (r : V × Hp) : pr.gc 59 H r = gcF H r := gcOne rfl H r
set_option maxRecDepth 100000 in
theorem ex59 : ExP 59 6 c59 rs59 := @fun _ _ _ ha h => call_ex (fn := Tryz.f59) rfl Tryz.func59 rfl (by kernel_rfl) rfl (Nat.max_eq_right ha) h
theorem run59 : RunP 59 6 c59 rs59 := @fun _ _ _ ha h => run_of ex59 ha h
@[go_sem] theorem kp60 (v : V) : demK 60 v = v.dem := rfl
def rs60 : List ResultVar := [.tmp 2]
theorem gc60 (H : Hp) (r : V × Hp) : pr.gc 60 H r = gcF H r := gcOne rfl H r
set_option maxRecDepth 100000 in
theorem ex60 : ExP 60 9 c60 rs60 := @fun _ _ _ ha h => call_ex (fn := Tryz.f60) rfl Tryz.func60 rfl (by kernel_rfl) rfl (Nat.max_eq_right ha) h
theorem run60 : RunP 60 9 c60 rs60 := @fun _ _ _ ha h => run_of ex60 ha h
@[go_sem] theorem kp61 (v : V) : demK 61 v = v.dem := rfl
def rs61 : List ResultVar := [.tmp 2]
theorem gc61 (H : Hp) (r : V × Hp) : pr.gc 61 H r = gcF H r := gcOne rfl H r
set_option maxRecDepth 100000 in
theorem ex61 : ExP 61 9 c61 rs61 := @fun _ _ _ ha h => call_ex (fn := Tryz.f61) rfl Tryz.func61 rfl (by kernel_rfl) rfl (Nat.max_eq_right ha) h
theorem run61 : RunP 61 9 c61 rs61 := @fun _ _ _ ha h => run_of ex61 ha h
@[go_sem] theorem kp62 (v : V) : demK 62 v = v.dem := rfl
def rs62 : List ResultVar := [.tmp 2]
theorem gc62 (H : Hp) (r : V × Hp) : pr.gc 62 H r = gcF H r := gcOne rfl H r
set_option maxRecDepth 100000 in
theorem ex62 : ExP 62 4 c62 rs62 := @fun _ _ _ ha h => call_ex (fn := Tryz.f62) rfl Tryz.func62 rfl (by kernel_rfl) rfl (Nat.max_eq_right ha) h
theorem run62 : RunP 62 4 c62 rs62 := @fun _ _ _ ha h => run_of ex62 ha h
@[go_sem] theorem kp70 (v : V) : demK 70 v = v.dem := rfl
def rs70 : List ResultVar := [.tmp 2]
theorem gc70 (H : Hp) (r : V × Hp) : pr.gc 70 H r = gcF H r := gcOne rfl H r
set_option maxRecDepth 100000 in
theorem ex70 : ExP 70 25 c70 rs70 := @fun _ _ _ ha h => call_ex (fn := Tryz.f70) rfl Tryz.func70 rfl (by kernel_rfl) rfl (Nat.max_eq_right ha) h
theorem run70 : RunP 70 25 c70 rs70 := @fun _ _ _ ha h => run_of ex70 ha h
@[go_sem] theorem kp71 (v : V) : demK 71 v = v.dem := rfl
def rs71 : List ResultVar := [.tmp 4]
theorem gc71 (H : Hp) (r : V × Hp) : pr.gc 71 H r = gcF H r := gcOne rfl H r
set_option maxRecDepth 100000 in
theorem ex71 : ExP 71 41 c71 rs71 := @fun _ _ _ ha h => call_ex (fn := Tryz.f71) rfl Tryz.func71 rfl (by kernel_rfl) rfl (Nat.max_eq_right ha) h
theorem run71 : RunP 71 41 c71 rs71 := @fun _ _ _ ha h => run_of ex71 ha h
@[go_sem] theorem kp73 (v : V) : demK 73 v = v.dem := rfl
def rs73 : List ResultVar := [.tmp 2]
theorem gc73 (H : Hp) (r : V × Hp) : pr.gc 73 H r = gcF H r := gcOne rfl H r
set_option maxRecDepth 100000 in
theorem ex73 : ExP 73 9 c73 rs73 := @fun _ _ _ ha h => call_ex (fn := Tryz.f73) rfl Tryz.func73 rfl (by kernel_rfl) rfl (Nat.max_eq_right ha) h
theorem run73 : RunP 73 9 c73 rs73 := @fun _ _ _ ha h => run_of ex73 ha h
@[go_sem] theorem kp74 (v : V) : demK 74 v = v.dem := rfl
def rs74 : List ResultVar := [.tmp 4]
theorem gc74 (H : Hp) (r : V × Hp) : pr.gc 74 H r = gcF H r := gcOne rfl H r
set_option maxRecDepth 100000 in
theorem ex74 : ExP 74 17 c74 rs74 := @fun _ _ _ ha h => call_ex (fn := Tryz.f74) rfl Tryz.func74 rfl (by kernel_rfl) rfl (Nat.max_eq_right ha) h
theorem run74 : RunP 74 17 c74 rs74 := @fun _ _ _ ha h => run_of ex74 ha h
@[go_sem] theorem kp75 (v : V) : demK 75 v = v.dem := rfl
def rs75 : List ResultVar := [.tmp 4, .tmp 5]
theorem gc75 (H : Hp) (r : V × Hp) : pr.gc 75 H r = gcF H r := gcOne rfl H r
set_option maxRecDepth 100000 in
theorem ex75 : ExP 75 54 c75 rs75 := @fun _ _ _ ha h => call_ex (fn := Tryz.f75) rfl Tryz.func75 rfl (by kernel_rfl) rfl (Nat.max_eq_right ha) h
theorem run75 : RunP 75 54 c75 rs75 := @fun _ _ _ ha h => run_of ex75 ha h
@[go_sem] theorem kp105 (v : V) : demK 105 v = v.dem := rfl
def rs105 : List ResultVar := [.tmp 2]
theorem gc105 (H : Hp) (r : V × Hp) : pr.gc 105 H r = gcF H r := gcOne rfl H r
set_option maxRecDepth 100000 in
theorem ex105 : ExP 105 6 c105 rs105 := @fun _ _ _ ha h => call_ex (fn := Tryz.f105) rfl Tryz.func105 rfl (by kernel_rfl) rfl (Nat.max_eq_right ha) h
theorem run105 : RunP 105 6 c105 rs105 := @fun _ _ _ ha h => run_of ex105 ha h
@[go_sem] theorem kp110 (v : V) : demK 110 v = v.dem := rfl
def rs110 : List ResultVar := [.tmp 4]
theorem gc110 (H : Hp) (r : V × Hp) : pr.gc 110 H r = gcF H r := gcOne rfl H r
set_option maxRecDepth 100000 in
theorem ex110 : ExP 110 19 c110 rs110 := @fun _ _ _ ha h => call_ex (fn := Tryz.f110) rfl Tryz.func110 rfl (by kernel_rfl) rfl (Nat.max_eq_right ha) h
theorem run110 : RunP 110 19 c110 rs110 := @fun _ _ _ ha h => run_of ex110 ha h
@[go_sem] theorem kp111 (v : V) : demK 111 v = v.dem := rfl
def rs111 : List ResultVar := [.tmp 2]
theorem gc111 (H : Hp) (r : V × Hp) : pr.gc 111 H r = gcC H r := gcTwo rfl H r
set_option maxRecDepth 100000 in
theorem ex111 : ExP 111 5 c111 rs111 := @fun _ _ _ ha h => call_ex (fn := Tryz.f111) rfl Tryz.func111 rfl (by kernel_rfl) rfl (Nat.max_eq_right ha) h
theorem run111 : RunP 111 5 c111 rs111 := @fun _ _ _ ha h => run_of ex111 ha h
@[go_sem] theorem kp113 (v : V) : demK 113 v = v.dem := rfl
def rs113 : List ResultVar := []
@[go_sem] theorem gc113 (H : Hp) (r : V × Hp) : pr.gc 113 H r = r := gcZero rfl H r
set_option maxRecDepth 100000 in
theorem ex113 : ExP 113 16 c113 rs113 := @fun _ _ _ ha h => call_ex (fn := Tryz.f113) rfl Tryz.func113 rfl (by kernel_rfl) rfl (Nat.max_eq_right ha) h
theorem run113 : RunP 113 16 c113 rs113 := @fun _ _ _ ha h => run_of ex113 ha h
@[go_sem] theorem kp117 (v : V) : demK 117 v = v.dem := rfl
def rs117 : List ResultVar := [.tmp 2]
theorem gc117 (H : Hp) (r : V × Hp) : pr.gc 117 H r = gcF H r := gcOne rfl H r
set_option maxRecDepth 100000 in
theorem ex117 : ExP 117 25 c117 rs117 := @fun _ _ _ ha h => call_ex (fn := Tryz.f117) rfl Tryz.func117 rfl (by kernel_rfl) rfl (Nat.max_eq_right ha) h
theorem run117 : RunP 117 25 c117 rs117 := @fun _ _ _ ha h => run_of ex117 ha h
@[go_sem] theorem kp118 (v : V) : demK 118 v = v.dem := rfl
def rs118 : List ResultVar := [.tmp 4]
theorem gc118 (H : Hp) (r : V × Hp) : pr.gc 118 H r = gcF H r := gcOne rfl H r
set_option maxRecDepth 100000 in
theorem ex118 : ExP 118 23 c118 rs118 := @fun _ _ _ ha h => call_ex (fn := Tryz.f118) rfl Tryz.func118 rfl (by kernel_rfl) rfl (Nat.max_eq_right ha) h
theorem run118 : RunP 118 23 c118 rs118 := @fun _ _ _ ha h => run_of ex118 ha h
@[go_sem] theorem kp119 (v : V) : demK 119 v = v.dem := rfl
def rs119 : List ResultVar := [.tmp 4]
theorem gc119 (H : Hp) (r : V × Hp) : pr.gc 119 H r = gcF H r := gcOne rfl H r
set_option maxRecDepth 100000 in
theorem ex119 : ExP 119 17 c119 rs119 := @fun _ _ _ ha h => call_ex (fn := Tryz.f119) rfl Tryz.func119 rfl (by kernel_rfl) rfl (Nat.max_eq_right ha) h
theorem run119 : RunP 119 17 c119 rs119 := @fun _ _ _ ha h => run_of ex119 ha h
@[go_sem] theorem kp120 (v : V) : demK 120 v = v.dem := rfl
def rs120 : List ResultVar := [.tmp 2]
theorem gc120 (H : Hp) (r : V × Hp) : pr.gc 120 H r = gcF H r := gcOne rfl H r
set_option maxRecDepth 100000 in
theorem ex120 : ExP 120 6 c120 rs120 := @fun _ _ _ ha h => call_ex (fn := Tryz.f120) rfl Tryz.func120 rfl (by kernel_rfl) rfl (Nat.max_eq_right ha) h
theorem run120 : RunP 120 6 c120 rs120 := @fun _ _ _ ha h => run_of ex120 ha h
@[go_sem] theorem kp160 (v : V) : demK 160 v = v.dem := rfl
def rs160 : List ResultVar := [.tmp 4]
theorem gc160 (H : Hp) (r : V × Hp) : pr.gc 160 H r = gcC H r := gcTwo rfl H r
set_option maxRecDepth 100000 in
theorem ex160 : ExPD 160 13 c160 rs160 := @fun _ _ _ ha h => call_exD (fn := Tryz.f160) rfl Tryz.func160 rfl (by kernel_rfl) rfl (Nat.max_eq_right ha) h
theorem run160 : RunPD 160 13 c160 rs160 := @fun _ _ _ ha h => run_ofD ex160 ha h
end
end Go.Proofs.YteeofpgnjekeaaaGreatDoor
/-
  Times, and the functions that look for one in a list; walked. No statement of the seat stands here.
-/
namespace Go.Proofs.YteeofpgnjekeaaaGreatDoor
open Go Go.An
set_option maxRecDepth 4000
set_option linter.unusedSimpArgs false
set_option linter.unusedVariables false

def okT (n : Int) : Bool := decide (0 ≤ n) && decide (n ≤ 1000000000000000)
theorem fn57 (n : Int) (H : Hp) : callL Tryz.prog pr 57 [.int .i64 n] H = some (.bool (okT n), H) := by
  refine run57 (Nat.le_of_ble_eq_true rfl) ?_
  unfold okT
  simp (disch := first | rfl | omega | exact lt_new _ | assumption | decide | (simp [tk_here, tk_app, tk_0, tk_S, gr_here, gr_app, gr_0, gr_S] <;> omega) | fail) only [r57_0, r57_1, c57, rs57, gc57, go_sem, ↓reduceIte, Nat.reduceLT, Nat.reduceEqDiff, Nat.reduceAdd, Nat.reduceMul, Nat.reduceSub, Int.reduceAdd, Int.reduceSub, Nat.reduceLeDiff, Int.reduceLT, Int.reduceLE, Int.reduceEq, Int.reduceNeg, Int.reduceToNat]
  repeat' ((first | refine guardB_dec (fun hy => ?_) (fun hy => ?_) | refine guardB_bool (fun hy => ?_) (fun hy => ?_) | refine guardQ_ite (fun hy => ?_) (fun hy => ?_) | refine brQ_dec (fun hy => ?_) (fun hy => ?_) | refine brQ_bool (fun hy => ?_) (fun hy => ?_)) <;> (try simp only [Bool.not_eq_true', Bool.not_eq_false', Bool.and_eq_true, Bool.or_eq_false_iff, decide_eq_true_eq, decide_eq_false_iff_not] at hy) <;> simp (disch := first | rfl | omega | exact lt_new _ | assumption | decide | (simp [tk_here, tk_app, tk_0, tk_S, gr_here, gr_app, gr_0, gr_S] <;> omega) | fail) only [r57_0, r57_1, c57, rs57, gc57, go_sem, ↓reduceIte, Nat.reduceLT, Nat.reduceEqDiff, Nat.reduceAdd, Nat.reduceMul, Nat.reduceSub, Int.reduceAdd, Int.reduceSub, Nat.reduceLeDiff, Int.reduceLT, Int.reduceLE, Int.reduceEq, Int.reduceNeg, Int.reduceToNat, hy])
  all_goals (try ((first | refine finQ_same ?_ | refine finQ_app ?_ | (rw [List.append_assoc]; refine finQ_app ?_)) <;> simp (disch := first | rfl | omega | exact lt_new _ | assumption | decide | (simp [tk_here, tk_app, tk_0, tk_S, gr_here, gr_app, gr_0, gr_S] <;> omega) | fail) only [go_sem, ↓reduceIte, Nat.reduceLT, Nat.reduceEqDiff, Nat.reduceAdd, Nat.reduceMul, Nat.reduceSub, Int.reduceAdd, Int.reduceSub, Nat.reduceLeDiff, Int.reduceLT, Int.reduceLE, Int.reduceEq, Int.reduceNeg, Int.reduceToNat, List.append_assoc, List.cons_append, List.nil_append, *]))
  all_goals (try first | rfl | (simp [*]; done) | grind)
theorem fn58 (n : Int) (H : Hp) : callL Tryz.prog pr 58 [.int .i64 n] H = some (.bool (okT n), H) := by
  refine run58 (Nat.le_of_ble_eq_true rfl) ?_
  unfold okT
  simp (disch := first | rfl | omega | exact lt_new _ | assumption | decide | (simp [tk_here, tk_app, tk_0, tk_S, gr_here, gr_app, gr_0, gr_S] <;> omega) | fail) only [r58_0, r58_1, c58, rs58, gc58, go_sem, ↓reduceIte, Nat.reduceLT, Nat.reduceEqDiff, Nat.reduceAdd, Nat.reduceMul, Nat.reduceSub, Int.reduceAdd, Int.reduceSub, Nat.reduceLeDiff, Int.reduceLT, Int.reduceLE, Int.reduceEq, Int.reduceNeg, Int.reduceToNat]
  repeat' ((first | refine guardB_dec (fun hy => ?_) (fun hy => ?_) | refine guardB_bool (fun hy => ?_) (fun hy => ?_) | refine guardQ_ite (fun hy => ?_) (fun hy => ?_) | refine brQ_dec (fun hy => ?_) (fun hy => ?_) | refine brQ_bool (fun hy => ?_) (fun hy => ?_)) <;> (try simp only [Bool.not_eq_true', Bool.not_eq_false', Bool.and_eq_true, Bool.or_eq_false_iff, decide_eq_true_eq, decide_eq_false_iff_not] at hy) <;> simp (disch := first | rfl | omega | exact lt_new _ | assumption | decide | (simp [tk_here, tk_app, tk_0, tk_S, gr_here, gr_app, gr_0, gr_S] <;> omega) | fail) only [r58_0, r58_1, c58, rs58, gc58, go_sem, ↓reduceIte, Nat.reduceLT, Nat.reduceEqDiff, Nat.reduceAdd, Nat.reduceMul, Nat.reduceSub, Int.reduceAdd, Int.reduceSub, Nat.reduceLeDiff, Int.reduceLT, Int.reduceLE, Int.reduceEq, Int.reduceNeg, Int.reduceToNat, hy])
  all_goals (try ((first | refine finQ_same ?_ | refine finQ_app ?_ | (rw [List.append_assoc]; refine finQ_app ?_)) <;> simp (disch := first | rfl | omega | exact lt_new _ | assumption | decide | (simp [tk_here, tk_app, tk_0, tk_S, gr_here, gr_app, gr_0, gr_S] <;> omega) | fail) only [go_sem, ↓reduceIte, Nat.reduceLT, Nat.reduceEqDiff, Nat.reduceAdd, Nat.reduceMul, Nat.reduceSub, Int.reduceAdd, Int.reduceSub, Nat.reduceLeDiff, Int.reduceLT, Int.reduceLE, Int.reduceEq, Int.reduceNeg, Int.reduceToNat, List.append_assoc, List.cons_append, List.nil_append, *]))
  all_goals (try first | rfl | (simp [*]; done) | grind)
theorem fn56 (n : Int) (H : Hp) : callL Tryz.prog pr 56 [.int .i64 n] H = some (.bool (!okT n), H) := by
  have h57 := fn57
  refine run56 (Nat.le_of_ble_eq_true rfl) ?_
  simp (disch := first | rfl | omega | exact lt_new _ | assumption | decide | (simp [tk_here, tk_app, tk_0, tk_S, gr_here, gr_app, gr_0, gr_S] <;> omega) | fail) only [r56_0, r56_1, c56, rs56, gc56, h57, go_sem, ↓reduceIte, Nat.reduceLT, Nat.reduceEqDiff, Nat.reduceAdd, Nat.reduceMul, Nat.reduceSub, Int.reduceAdd, Int.reduceSub, Nat.reduceLeDiff, Int.reduceLT, Int.reduceLE, Int.reduceEq, Int.reduceNeg, Int.reduceToNat]
  repeat' ((first | refine guardB_dec (fun hy => ?_) (fun hy => ?_) | refine guardB_bool (fun hy => ?_) (fun hy => ?_) | refine guardQ_ite (fun hy => ?_) (fun hy => ?_) | refine brQ_dec (fun hy => ?_) (fun hy => ?_) | refine brQ_bool (fun hy => ?_) (fun hy => ?_)) <;> (try simp only [Bool.not_eq_true', Bool.not_eq_false', Bool.and_eq_true, Bool.or_eq_false_iff, decide_eq_true_eq, decide_eq_false_iff_not] at hy) <;> simp (disch := first | rfl | omega | exact lt_new _ | assumption | decide | (simp [tk_here, tk_app, tk_0, tk_S, gr_here, gr_app, gr_0, gr_S] <;> omega) | fail) only [r56_0, r56_1, c56, rs56, gc56, h57, go_sem, ↓reduceIte, Nat.reduceLT, Nat.reduceEqDiff, Nat.reduceAdd, Nat.reduceMul, Nat.reduceSub, Int.reduceAdd, Int.reduceSub, Nat.reduceLeDiff, Int.reduceLT, Int.reduceLE, Int.reduceEq, Int.reduceNeg, Int.reduceToNat, hy])
  all_goals (try ((first | refine finQ_same ?_ | refine finQ_app ?_ | (rw [List.append_assoc]; refine finQ_app ?_)) <;> simp (disch := first | rfl | omega | exact lt_new _ | assumption | decide | (simp [tk_here, tk_app, tk_0, tk_S, gr_here, gr_app, gr_0, gr_S] <;> omega) | fail) only [go_sem, ↓reduceIte, Nat.reduceLT, Nat.reduceEqDiff, Nat.reduceAdd, Nat.reduceMul, Nat.reduceSub, Int.reduceAdd, Int.reduceSub, Nat.reduceLeDiff, Int.reduceLT, Int.reduceLE, Int.reduceEq, Int.reduceNeg, Int.reduceToNat, List.append_assoc, List.cons_append, List.nil_append, *]))
  all_goals (try first | rfl | (simp [*]; done) | grind)
theorem fn54 {b : Bool} {l : List Int} (H : Hp) : callL Tryz.prog pr 54 [slV b inE l] H = some (.bool (decide ((200 : Int) < l.length)), H) := by
  refine run54 (Nat.le_of_ble_eq_true rfl) ?_
  simp (disch := first | rfl | omega | exact lt_new _ | assumption | decide | (simp [tk_here, tk_app, tk_0, tk_S, gr_here, gr_app, gr_0, gr_S] <;> omega) | fail) only [r54_0, r54_1, c54, rs54, gc54, go_sem, ↓reduceIte, Nat.reduceLT, Nat.reduceEqDiff, Nat.reduceAdd, Nat.reduceMul, Nat.reduceSub, Int.reduceAdd, Int.reduceSub, Nat.reduceLeDiff, Int.reduceLT, Int.reduceLE, Int.reduceEq, Int.reduceNeg, Int.reduceToNat]
  repeat' ((first | refine guardB_dec (fun hy => ?_) (fun hy => ?_) | refine guardB_bool (fun hy => ?_) (fun hy => ?_) | refine guardQ_ite (fun hy => ?_) (fun hy => ?_) | refine brQ_dec (fun hy => ?_) (fun hy => ?_) | refine brQ_bool (fun hy => ?_) (fun hy => ?_)) <;> (try simp only [Bool.not_eq_true', Bool.not_eq_false', Bool.and_eq_true, Bool.or_eq_false_iff, decide_eq_true_eq, decide_eq_false_iff_not] at hy) <;> simp (disch := first | rfl | omega | exact lt_new _ | assumption | decide | (simp [tk_here, tk_app, tk_0, tk_S, gr_here, gr_app, gr_0, gr_S] <;> omega) | fail) only [r54_0, r54_1, c54, rs54, gc54, go_sem, ↓reduceIte, Nat.reduceLT, Nat.reduceEqDiff, Nat.reduceAdd, Nat.reduceMul, Nat.reduceSub, Int.reduceAdd, Int.reduceSub, Nat.reduceLeDiff, Int.reduceLT, Int.reduceLE, Int.reduceEq, Int.reduceNeg, Int.reduceToNat, hy])
  all_goals (try ((first | refine finQ_same ?_ | refine finQ_app ?_ | (rw [List.append_assoc]; refine finQ_app ?_)) <;> simp (disch := first | rfl | omega | exact lt_new _ | assumption | decide | (simp [tk_here, tk_app, tk_0, tk_S, gr_here, gr_app, gr_0, gr_S] <;> omega) | fail) only [go_sem, ↓reduceIte, Nat.reduceLT, Nat.reduceEqDiff, Nat.reduceAdd, Nat.reduceMul, Nat.reduceSub, Int.reduceAdd, Int.reduceSub, Nat.reduceLeDiff, Int.reduceLT, Int.reduceLE, Int.reduceEq, Int.reduceNeg, Int.reduceToNat, List.append_assoc, List.cons_append, List.nil_append, *]))
  all_goals (try first | rfl | (simp [*]; done) | grind)
theorem fn110L {b : Bool} {l : List Int} {H : Hp} (hlen : l.length < 2 ^ 62) (p : Int → Bool) (f : Nat) (ca cb : List V) (hk : ∀ v, demK f v = v.dem) (hf : ∀ x ∈ l, callL Tryz.prog pr f (ca ++ [.int .i64 x] ++ cb) H = some (.bool (p x), H)) : callL Tryz.prog pr 110 [slV b inE l, .fn f ca cb] H = some (.int .i64 (findI p l 0), H) := by
  have hfy := ne_demK hk
  refine run110 (Nat.le_of_ble_eq_true rfl) ?_
  simp (disch := first | rfl | omega | exact lt_new _ | assumption | decide | (simp [tk_here, tk_app, tk_0, tk_S, gr_here, gr_app, gr_0, gr_S] <;> omega) | fail) only [r110_0, r110_1, r110_2, r110_3, r110_4, r110_5, r110_6, r110_8, c110, rs110, gc110, go_sem, ↓reduceIte, Nat.reduceLT, Nat.reduceEqDiff, Nat.reduceAdd, Nat.reduceMul, Nat.reduceSub, Int.reduceAdd, Int.reduceSub, Nat.reduceLeDiff, Int.reduceLT, Int.reduceLE, Int.reduceEq, Int.reduceNeg, Int.reduceToNat]
  refine Wp_loop (fun m T D H' => ∃ i, m = l.length - i ∧ i ≤ l.length ∧ D = [] ∧ H' = H ∧ get T 0 = slV b inE l ∧ get T 1 = .fn f ca cb ∧ get T 7 = .int .i64 l.length ∧ get T 8 = .int .i64 i ∧ findI p l 0 = findI p (l.drop i) i) ?_ l.length _ _ _ ?_
  · rintro m T D H' ⟨i, rfl, hi, rfl, rfl, h0, h1, h7, h8, hp⟩
    by_cases hlt : i < l.length
    · have hlt' : (i : Int) < l.length := by omega
      have hpi := findI_drop p (inE.at_some hlt) i
      have hfi := hf _ (inE.at_mem hlt)
      have hld := fun H => @ld_cell0 _ Tryz.prog H _ inE l 3 1 i g3 rfl hlt
      simp (disch := first | rfl | omega | exact lt_new _ | assumption | decide | (simp [tk_here, tk_app, tk_0, tk_S, gr_here, gr_app, gr_0, gr_S] <;> omega) | fail) only [r110_0, r110_1, r110_2, r110_3, r110_4, r110_5, r110_6, l110_7, r110_8, c110, rs110, gc110, go_sem, ↓reduceIte, Nat.reduceLT, Nat.reduceEqDiff, Nat.reduceAdd, Nat.reduceMul, Nat.reduceSub, Int.reduceAdd, Int.reduceSub, Nat.reduceLeDiff, Int.reduceLT, Int.reduceLE, Int.reduceEq, Int.reduceNeg, Int.reduceToNat, h0, h1, h7, h8, hld, hk, hfi, hlt', decide_true]
      refine brQ_bool (fun hy => ?_) (fun hy => ?_)
      · rw [if_pos hy] at hpi
        simp (disch := first | rfl | omega | exact lt_new _ | assumption | decide | (simp [tk_here, tk_app, tk_0, tk_S, gr_here, gr_app, gr_0, gr_S] <;> omega) | fail) only [r110_0, r110_1, r110_2, r110_3, r110_4, r110_5, r110_6, l110_7, r110_8, c110, rs110, gc110, go_sem, ↓reduceIte, Nat.reduceLT, Nat.reduceEqDiff, Nat.reduceAdd, Nat.reduceMul, Nat.reduceSub, Int.reduceAdd, Int.reduceSub, Nat.reduceLeDiff, Int.reduceLT, Int.reduceLE, Int.reduceEq, Int.reduceNeg, Int.reduceToNat, h0, h1, h7, h8]
        refine finQ_same ?_
        simp (disch := first | rfl | omega | exact lt_new _ | assumption | decide | (simp [tk_here, tk_app, tk_0, tk_S, gr_here, gr_app, gr_0, gr_S] <;> omega) | fail) only [go_sem, ↓reduceIte, Nat.reduceLT, Nat.reduceEqDiff, Nat.reduceAdd, Nat.reduceMul, Nat.reduceSub, Int.reduceAdd, Int.reduceSub, Nat.reduceLeDiff, Int.reduceLT, Int.reduceLE, Int.reduceEq, Int.reduceNeg, Int.reduceToNat, hp, hpi]
      · rw [if_neg (by simp [hy])] at hpi
        simp (disch := first | rfl | omega | exact lt_new _ | assumption | decide | (simp [tk_here, tk_app, tk_0, tk_S, gr_here, gr_app, gr_0, gr_S] <;> omega) | fail) only [r110_0, r110_1, r110_2, r110_3, r110_4, r110_5, r110_6, l110_7, r110_8, c110, rs110, gc110, go_sem, ↓reduceIte, Nat.reduceLT, Nat.reduceEqDiff, Nat.reduceAdd, Nat.reduceMul, Nat.reduceSub, Int.reduceAdd, Int.reduceSub, Nat.reduceLeDiff, Int.reduceLT, Int.reduceLE, Int.reduceEq, Int.reduceNeg, Int.reduceToNat, h0, h1, h7, h8]
        exact ⟨_, by omega, i + 1, rfl, hlt, rfl, by rw [hp, hpi]; rfl⟩
    · obtain rfl : i = l.length := by omega
      simp (disch := first | rfl | omega | exact lt_new _ | assumption | decide | (simp [tk_here, tk_app, tk_0, tk_S, gr_here, gr_app, gr_0, gr_S] <;> omega) | fail) only [r110_0, r110_1, r110_2, r110_3, r110_4, r110_5, r110_6, l110_7, r110_8, c110, rs110, gc110, go_sem, ↓reduceIte, Nat.reduceLT, Nat.reduceEqDiff, Nat.reduceAdd, Nat.reduceMul, Nat.reduceSub, Int.reduceAdd, Int.reduceSub, Nat.reduceLeDiff, Int.reduceLT, Int.reduceLE, Int.reduceEq, Int.reduceNeg, Int.reduceToNat, h0, h1, h7, h8, Int.lt_irrefl, decide_false]
      refine finQ_same ?_
      rw [hp, List.drop_length]
      simp (disch := first | rfl | omega | exact lt_new _ | assumption | decide | (simp [tk_here, tk_app, tk_0, tk_S, gr_here, gr_app, gr_0, gr_S] <;> omega) | fail) only [go_sem, ↓reduceIte, Nat.reduceLT, Nat.reduceEqDiff, Nat.reduceAdd, Nat.reduceMul, Nat.reduceSub, Int.reduceAdd, Int.reduceSub, Nat.reduceLeDiff, Int.reduceLT, Int.reduceLE, Int.reduceEq, Int.reduceNeg, Int.reduceToNat, findI]
  · exact ⟨0, by simp [go_sem]⟩

theorem fn55L {b : Bool} {l : List Int} {H : Hp} (hlen : l.length < 2 ^ 62) (p : Int → Bool) (f : Nat) (ca cb : List V) (hk : ∀ v, demK f v = v.dem) (hf : ∀ x ∈ l, callL Tryz.prog pr f (ca ++ [.int .i64 x] ++ cb) H = some (.bool (p x), H)) : callL Tryz.prog pr 55 [slV b inE l, .fn f ca cb] H = some (.bool (l.any p), H) := by
  refine run55 (Nat.le_of_ble_eq_true rfl) ?_
  simp (disch := first | rfl | omega | exact lt_new _ | assumption | decide | (simp [tk_here, tk_app, tk_0, tk_S, gr_here, gr_app, gr_0, gr_S] <;> omega) | fail) only [r55_0, r55_1, c55, rs55, gc55, go_sem, ↓reduceIte, Nat.reduceLT, Nat.reduceEqDiff, Nat.reduceAdd, Nat.reduceMul, Nat.reduceSub, Int.reduceAdd, Int.reduceSub, Nat.reduceLeDiff, Int.reduceLT, Int.reduceLE, Int.reduceEq, Int.reduceNeg, Int.reduceToNat, fn110L hlen p f ca cb hk hf]
  refine finQ_same ?_
  simp (disch := first | rfl | omega | exact lt_new _ | assumption | decide | (simp [tk_here, tk_app, tk_0, tk_S, gr_here, gr_app, gr_0, gr_S] <;> omega) | fail) only [go_sem, ↓reduceIte, Nat.reduceLT, Nat.reduceEqDiff, Nat.reduceAdd, Nat.reduceMul, Nat.reduceSub, Int.reduceAdd, Int.reduceSub, Nat.reduceLeDiff, Int.reduceLT, Int.reduceLE, Int.reduceEq, Int.reduceNeg, Int.reduceToNat, findI_any p l 0 (by omega)]

@[go_sem] theorem ld_in {l : List Int} {i : Nat} {H : Hp} (h : i < l.length) : loadV Tryz.prog 3 H (.ipt (flatE inE l) (i * 1)) = some (.int .i64 (inE.at l i)) := ld_cell0 g3 rfl h
@[go_sem] theorem ld_in0 {l : List Int} {H : Hp} (h : 0 < l.length) : loadV Tryz.prog 3 H (.ipt (flatE inE l) 0) = some (.int .i64 (inE.at l 0)) := ld_in (i := 0) h
@[go_sem] theorem ld_bo {l : List Bool} {i : Nat} {H : Hp} (h : i < l.length) : loadV Tryz.prog 4 H (.ipt (flatE boE l) (i * 1)) = some (.bool (boE.at l i)) := ld_cell0 g4 rfl h
/-- A law's three numbers. -/
structure Tr where
  a : Int
  b : Int
  c : Int
  deriving DecidableEq
def trE : Enc Tr := ⟨fun p => [.int .i64 p.a, .int .i64 p.b, .int .i64 p.c], 3, ⟨0, 0, 0⟩, fun _ => rfl, by decide, fun p => by simp only [immL, slV_imm]; rfl⟩
theorem trE_f (p : Tr) : trE.f p = [.int .i64 p.a, .int .i64 p.b, .int .i64 p.c] := rfl
@[go_sem] theorem trE_w : trE.w = 3 := rfl
@[go_sem] theorem trE_l (p : Tr) : (trE.f p).length = 3 := rfl
@[go_sem] theorem trE_t (p : Tr) : (trE.f p).take 3 = trE.f p := rfl
@[go_sem] theorem trE_sa (p : Tr) : setAt [.int .i64 0, .int .i64 0, .int .i64 0] 0 (trE.f p) = trE.f p := rfl
@[go_sem] theorem trE_pa (p : Tr) : partK (some true) (some 3) (trE.f p) 0 = some (.agg (trE.f p)) := rfl
@[go_sem] theorem trE_0 (p : Tr) : (trE.f p)[0]? = some (.int .i64 p.a) := rfl
@[go_sem] theorem trE_1 (p : Tr) : (trE.f p)[1]? = some (.int .i64 p.b) := rfl
@[go_sem] theorem trE_2 (p : Tr) : (trE.f p)[2]? = some (.int .i64 p.c) := rfl
@[go_sem] theorem ld_trE {l : List Tr} {i : Nat} {H : Hp} (h : i < l.length) : loadV Tryz.prog 32 H (.ipt (flatE trE l) (i * 3)) = some (.agg (trE.f (trE.at l i))) := ld_agg g32 z32 rfl h
@[go_sem] theorem ld_trE_0 {l : List Tr} {i : Nat} {H : Hp} (h : i < l.length) : loadV Tryz.prog 3 H (.ipt (flatE trE l) (i * 3)) = some (.int .i64 (trE.at l i).a) := ld_cell0 g3 rfl h
@[go_sem] theorem ld_trE_1 {l : List Tr} {i : Nat} {H : Hp} (h : i < l.length) : loadV Tryz.prog 3 H (.ipt (flatE trE l) (i * 3 + 1)) = some (.int .i64 (trE.at l i).b) := ld_cell (j := 1) g3 rfl h (by omega)
@[go_sem] theorem ld_trE_2 {l : List Tr} {i : Nat} {H : Hp} (h : i < l.length) : loadV Tryz.prog 3 H (.ipt (flatE trE l) (i * 3 + 2)) = some (.int .i64 (trE.at l i).c) := ld_cell (j := 2) g3 rfl h (by omega)
def TrOk (p : Tr) : Prop := Inx p.a ∧ Inx p.b ∧ Inx p.c
theorem trE_3 (a b c : Int) : ([.int .i64 a, .int .i64 b, .int .i64 c] : List V) = trE.f ⟨a, b, c⟩ := rfl
@[go_sem] theorem ck_trE (x : Tr) : ckOks [.int .i64, .int .i64, .int .i64] (trE.f x) = true := rfl
@[go_sem] theorem eq_trE (x y : Tr) : eqCells (trE.f x) (trE.f y) = decide (x = y) := by
  obtain ⟨a, b, c⟩ := x
  obtain ⟨a', b', c'⟩ := y
  simp only [trE_f, eqCells_cons, eqCells_nil, eqCell_int, Tr.mk.injEq, Bool.decide_and, Bool.and_true]
@[go_sem] theorem pa3 (a b c : V) : partK (some true) (some 3) [a, b, c] 0 = some (.agg [a, b, c]) := rfl
@[go_sem] theorem sa3 (x y z a b c : V) : setAt [x, y, z] 0 [a, b, c] = [a, b, c] := rfl
@[go_sem] theorem sa3_1 (x y z a : V) : setAt [x, y, z] 1 [a] = [x, a, z] := rfl
@[go_sem] theorem sa3_2 (x y z a : V) : setAt [x, y, z] 2 [a] = [x, y, a] := rfl
/-- The last one that is shown ahead of a place. -/
def lastS (s : List Bool) : Nat → Int
  | 0 => -1
  | k + 1 => if boE.at s k = true then (k : Int) else lastS s k
theorem lastS_lt (s : List Bool) : ∀ k, -1 ≤ lastS s k ∧ lastS s k < k
  | 0 => by simp [lastS]
  | k + 1 => by
    have := lastS_lt s k
    unfold lastS
    split <;> omega
def delR (t : List Int) (s : List Bool) (k : Nat) : Tr := ⟨inE.at t k - inE.at t 0, inE.at t k - inE.at t (k - 1), if 0 ≤ lastS s k then inE.at t k - inE.at t (lastS s k).toNat else 0⟩
def dels (t : List Int) (s : List Bool) : Nat → List Tr
  | 0 => []
  | k + 1 => dels t s k ++ [delR t s k]
theorem dels_len (t : List Int) (s : List Bool) : ∀ k, (dels t s k).length = k
  | 0 => rfl
  | k + 1 => by simp [dels, dels_len t s k]
def delF (t : List Int) (s : List Bool) : List Tr × Int := if t.length ≠ s.length then ([], 10) else if 200 < t.length then ([], 3) else if (t.any fun n => !okT n) = true then ([], 1) else (dels t s t.length, 0)
theorem okT_at {t : List Int} (h : ¬ (t.any fun n => !okT n) = true) {i : Nat} (hi : i < t.length) : 0 ≤ inE.at t i ∧ inE.at t i ≤ 1000000000000000 := by
  simp only [List.any_eq_true, not_exists, not_and, Bool.not_eq_true', Bool.not_eq_false] at h
  have := h _ (inE.at_mem hi)
  simpa [okT] using this
theorem lo_max {k : Nat} : (if (k : Int) - 1 > 0 then (k : Int) - 1 else 0) = ((k - 1 : Nat) : Int) := by
  split <;> omega
set_option maxHeartbeats 4000000 in
theorem fn17 (bt bs : Bool) (t : List Int) (s : List Bool) (h1 : t.length ≤ 2 ^ 48) (h2 : s.length ≤ 2 ^ 48) (H : Hp) : callL Tryz.prog pr 17 [slV bt inE t, slV bs boE s] H = some (.tup [slV true trE (delF t s).1, .int .i64 (delF t s).2], H) := by
  have h54 := fn54 (b := bt) (l := t)
  have h55 := fun H => fn55L (b := bt) (l := t) (H := H) (by omega) (fun n => !okT n) 56 [] [] kp56 (fun x _ => fn56 x H)
  refine run17 (Nat.le_of_ble_eq_true rfl) ?_
  unfold delF
  by_cases ha : t.length = s.length
  case neg =>
    rw [if_pos ha]
    have ha2 : ¬ ((t.length : Int) = s.length) := by omega
    simp (disch := first | rfl | omega | exact lt_new _ | assumption | decide | (simp [tk_here, tk_app, tk_0, tk_S, gr_here, gr_app, gr_0, gr_S] <;> omega) | fail) only [r17_0, r17_1, r17_2, r17_3, r17_4, r17_5, r17_6, r17_7, r17_8, r17_9, r17_10, r17_11, r17_12, r17_13, r17_14, r17_15, r17_16, r17_17, r17_18, r17_20, c17, rs17, gc17, ha2, slV_nil, go_sem, ↓reduceIte, Nat.reduceLT, Nat.reduceEqDiff, Nat.reduceAdd, Nat.reduceMul, Nat.reduceSub, Int.reduceAdd, Int.reduceSub, Nat.reduceLeDiff, Int.reduceLT, Int.reduceLE, Int.reduceEq, Int.reduceNeg, Int.reduceToNat]
    repeat' ((first | refine guardB_dec (fun hy => ?_) (fun hy => ?_) | refine guardB_bool (fun hy => ?_) (fun hy => ?_) | refine guardQ_ite (fun hy => ?_) (fun hy => ?_) | refine brQ_dec (fun hy => ?_) (fun hy => ?_) | refine brQ_bool (fun hy => ?_) (fun hy => ?_)) <;> (try simp only [Bool.not_eq_true', Bool.not_eq_false', Bool.and_eq_true, Bool.or_eq_false_iff, decide_eq_true_eq, decide_eq_false_iff_not] at hy) <;> simp (disch := first | rfl | omega | exact lt_new _ | assumption | decide | (simp [tk_here, tk_app, tk_0, tk_S, gr_here, gr_app, gr_0, gr_S] <;> omega) | fail) only [r17_0, r17_1, r17_2, r17_3, r17_4, r17_5, r17_6, r17_7, r17_8, r17_9, r17_10, r17_11, r17_12, r17_13, r17_14, r17_15, r17_16, r17_17, r17_18, r17_20, c17, rs17, gc17, ha2, slV_nil, go_sem, ↓reduceIte, Nat.reduceLT, Nat.reduceEqDiff, Nat.reduceAdd, Nat.reduceMul, Nat.reduceSub, Int.reduceAdd, Int.reduceSub, Nat.reduceLeDiff, Int.reduceLT, Int.reduceLE, Int.reduceEq, Int.reduceNeg, Int.reduceToNat, hy])
    all_goals (try ((first | refine finQ_same ?_ | refine finQ_app ?_ | (rw [List.append_assoc]; refine finQ_app ?_)) <;> simp (disch := first | rfl | omega | exact lt_new _ | assumption | decide | (simp [tk_here, tk_app, tk_0, tk_S, gr_here, gr_app, gr_0, gr_S] <;> omega) | fail) only [go_sem, ↓reduceIte, Nat.reduceLT, Nat.reduceEqDiff, Nat.reduceAdd, Nat.reduceMul, Nat.reduceSub, Int.reduceAdd, Int.reduceSub, Nat.reduceLeDiff, Int.reduceLT, Int.reduceLE, Int.reduceEq, Int.reduceNeg, Int.reduceToNat, List.append_assoc, List.cons_append, List.nil_append, *]))
    all_goals (try first | rfl | (simp [*]; done) | grind)
  rw [if_neg (fun h => h ha)]
  have ha2 : (t.length : Int) = s.length := by omega
  by_cases hb : 200 < t.length
  case pos =>
    rw [if_pos hb]
    have hb2 : (200 : Int) < s.length := by omega
    simp (disch := first | rfl | omega | exact lt_new _ | assumption | decide | (simp [tk_here, tk_app, tk_0, tk_S, gr_here, gr_app, gr_0, gr_S] <;> omega) | fail) only [r17_0, r17_1, r17_2, r17_3, r17_4, r17_5, r17_6, r17_7, r17_8, r17_9, r17_10, r17_11, r17_12, r17_13, r17_14, r17_15, r17_16, r17_17, r17_18, r17_20, c17, rs17, gc17, ha2, h54, hb2, slV_nil, go_sem, ↓reduceIte, Nat.reduceLT, Nat.reduceEqDiff, Nat.reduceAdd, Nat.reduceMul, Nat.reduceSub, Int.reduceAdd, Int.reduceSub, Nat.reduceLeDiff, Int.reduceLT, Int.reduceLE, Int.reduceEq, Int.reduceNeg, Int.reduceToNat]
    repeat' ((first | refine guardB_dec (fun hy => ?_) (fun hy => ?_) | refine guardB_bool (fun hy => ?_) (fun hy => ?_) | refine guardQ_ite (fun hy => ?_) (fun hy => ?_) | refine brQ_dec (fun hy => ?_) (fun hy => ?_) | refine brQ_bool (fun hy => ?_) (fun hy => ?_)) <;> (try simp only [Bool.not_eq_true', Bool.not_eq_false', Bool.and_eq_true, Bool.or_eq_false_iff, decide_eq_true_eq, decide_eq_false_iff_not] at hy) <;> simp (disch := first | rfl | omega | exact lt_new _ | assumption | decide | (simp [tk_here, tk_app, tk_0, tk_S, gr_here, gr_app, gr_0, gr_S] <;> omega) | fail) only [r17_0, r17_1, r17_2, r17_3, r17_4, r17_5, r17_6, r17_7, r17_8, r17_9, r17_10, r17_11, r17_12, r17_13, r17_14, r17_15, r17_16, r17_17, r17_18, r17_20, c17, rs17, gc17, ha2, h54, hb2, slV_nil, go_sem, ↓reduceIte, Nat.reduceLT, Nat.reduceEqDiff, Nat.reduceAdd, Nat.reduceMul, Nat.reduceSub, Int.reduceAdd, Int.reduceSub, Nat.reduceLeDiff, Int.reduceLT, Int.reduceLE, Int.reduceEq, Int.reduceNeg, Int.reduceToNat, hy])
    all_goals (try ((first | refine finQ_same ?_ | refine finQ_app ?_ | (rw [List.append_assoc]; refine finQ_app ?_)) <;> simp (disch := first | rfl | omega | exact lt_new _ | assumption | decide | (simp [tk_here, tk_app, tk_0, tk_S, gr_here, gr_app, gr_0, gr_S] <;> omega) | fail) only [go_sem, ↓reduceIte, Nat.reduceLT, Nat.reduceEqDiff, Nat.reduceAdd, Nat.reduceMul, Nat.reduceSub, Int.reduceAdd, Int.reduceSub, Nat.reduceLeDiff, Int.reduceLT, Int.reduceLE, Int.reduceEq, Int.reduceNeg, Int.reduceToNat, List.append_assoc, List.cons_append, List.nil_append, *]))
    all_goals (try first | rfl | (simp [*]; done) | grind)
  rw [if_neg hb]
  have hb2 : ¬ (200 : Int) < s.length := by omega
  by_cases hc : (t.any fun n => !okT n) = true
  case pos =>
    rw [if_pos hc]
    simp (disch := first | rfl | omega | exact lt_new _ | assumption | decide | (simp [tk_here, tk_app, tk_0, tk_S, gr_here, gr_app, gr_0, gr_S] <;> omega) | fail) only [r17_0, r17_1, r17_2, r17_3, r17_4, r17_5, r17_6, r17_7, r17_8, r17_9, r17_10, r17_11, r17_12, r17_13, r17_14, r17_15, r17_16, r17_17, r17_18, r17_20, c17, rs17, gc17, ha2, h54, hb2, h55, hc, slV_nil, go_sem, ↓reduceIte, Nat.reduceLT, Nat.reduceEqDiff, Nat.reduceAdd, Nat.reduceMul, Nat.reduceSub, Int.reduceAdd, Int.reduceSub, Nat.reduceLeDiff, Int.reduceLT, Int.reduceLE, Int.reduceEq, Int.reduceNeg, Int.reduceToNat]
    repeat' ((first | refine guardB_dec (fun hy => ?_) (fun hy => ?_) | refine guardB_bool (fun hy => ?_) (fun hy => ?_) | refine guardQ_ite (fun hy => ?_) (fun hy => ?_) | refine brQ_dec (fun hy => ?_) (fun hy => ?_) | refine brQ_bool (fun hy => ?_) (fun hy => ?_)) <;> (try simp only [Bool.not_eq_true', Bool.not_eq_false', Bool.and_eq_true, Bool.or_eq_false_iff, decide_eq_true_eq, decide_eq_false_iff_not] at hy) <;> simp (disch := first | rfl | omega | exact lt_new _ | assumption | decide | (simp [tk_here, tk_app, tk_0, tk_S, gr_here, gr_app, gr_0, gr_S] <;> omega) | fail) only [r17_0, r17_1, r17_2, r17_3, r17_4, r17_5, r17_6, r17_7, r17_8, r17_9, r17_10, r17_11, r17_12, r17_13, r17_14, r17_15, r17_16, r17_17, r17_18, r17_20, c17, rs17, gc17, ha2, h54, hb2, h55, hc, slV_nil, go_sem, ↓reduceIte, Nat.reduceLT, Nat.reduceEqDiff, Nat.reduceAdd, Nat.reduceMul, Nat.reduceSub, Int.reduceAdd, Int.reduceSub, Nat.reduceLeDiff, Int.reduceLT, Int.reduceLE, Int.reduceEq, Int.reduceNeg, Int.reduceToNat, hy])
    all_goals (try ((first | refine finQ_same ?_ | refine finQ_app ?_ | (rw [List.append_assoc]; refine finQ_app ?_)) <;> simp (disch := first | rfl | omega | exact lt_new _ | assumption | decide | (simp [tk_here, tk_app, tk_0, tk_S, gr_here, gr_app, gr_0, gr_S] <;> omega) | fail) only [go_sem, ↓reduceIte, Nat.reduceLT, Nat.reduceEqDiff, Nat.reduceAdd, Nat.reduceMul, Nat.reduceSub, Int.reduceAdd, Int.reduceSub, Nat.reduceLeDiff, Int.reduceLT, Int.reduceLE, Int.reduceEq, Int.reduceNeg, Int.reduceToNat, List.append_assoc, List.cons_append, List.nil_append, *]))
    all_goals (try first | rfl | (simp [*]; done) | grind)
  rw [if_neg hc]
  have hc2 := Bool.not_eq_true _ ▸ hc
  simp (disch := first | rfl | omega | exact lt_new _ | assumption | decide | (simp [tk_here, tk_app, tk_0, tk_S, gr_here, gr_app, gr_0, gr_S] <;> omega) | fail) only [r17_0, r17_1, r17_2, r17_3, r17_4, r17_5, r17_6, r17_7, r17_8, r17_9, r17_10, r17_11, r17_12, r17_13, r17_14, r17_15, r17_16, r17_17, r17_18, r17_20, c17, rs17, gc17, ha2, h54, hb2, h55, hc2, go_sem, ↓reduceIte, Nat.reduceLT, Nat.reduceEqDiff, Nat.reduceAdd, Nat.reduceMul, Nat.reduceSub, Int.reduceAdd, Int.reduceSub, Nat.reduceLeDiff, Int.reduceLT, Int.reduceLE, Int.reduceEq, Int.reduceNeg, Int.reduceToNat]
  repeat' ((first | refine guardB_dec (fun hy => ?_) (fun hy => ?_) | refine guardB_bool (fun hy => ?_) (fun hy => ?_) | refine guardQ_ite (fun hy => ?_) (fun hy => ?_) | refine brQ_dec (fun hy => ?_) (fun hy => ?_) | refine brQ_bool (fun hy => ?_) (fun hy => ?_)) <;> (try simp only [Bool.not_eq_true', Bool.not_eq_false', Bool.and_eq_true, Bool.or_eq_false_iff, decide_eq_true_eq, decide_eq_false_iff_not] at hy) <;> simp (disch := first | rfl | omega | exact lt_new _ | assumption | decide | (simp [tk_here, tk_app, tk_0, tk_S, gr_here, gr_app, gr_0, gr_S] <;> omega) | fail) only [r17_0, r17_1, r17_2, r17_3, r17_4, r17_5, r17_6, r17_7, r17_8, r17_9, r17_10, r17_11, r17_12, r17_13, r17_14, r17_15, r17_16, r17_17, r17_18, r17_20, c17, rs17, gc17, ha2, h54, hb2, h55, hc2, go_sem, ↓reduceIte, Nat.reduceLT, Nat.reduceEqDiff, Nat.reduceAdd, Nat.reduceMul, Nat.reduceSub, Int.reduceAdd, Int.reduceSub, Nat.reduceLeDiff, Int.reduceLT, Int.reduceLE, Int.reduceEq, Int.reduceNeg, Int.reduceToNat, hy])
  refine Wp_loop (fun m T D H' => ∃ k G, m = t.length - k ∧ k ≤ t.length ∧ D = [] ∧ H' = H ++ .tok ((dels t s k).length * 3) :: G ∧ get T 0 = slV bt inE t ∧ get T 1 = slV bs boE s ∧ get T 6 = osV H.length trE (dels t s k) ∧ get T 7 = .int .i64 (lastS s k) ∧ get T 23 = slV bt inE t ∧ get T 24 = .int .i64 t.length ∧ get T 25 = .int .i64 k) ?_ t.length _ _ _ ?_
  case refine_2 => exact ⟨0, [], by simp (disch := first | rfl | omega | exact lt_new _ | assumption | decide | (simp [tk_here, tk_app, tk_0, tk_S, gr_here, gr_app, gr_0, gr_S] <;> omega) | fail) only [go_sem, ↓reduceIte, Nat.reduceLT, Nat.reduceEqDiff, Nat.reduceAdd, Nat.reduceMul, Nat.reduceSub, Int.reduceAdd, Int.reduceSub, Nat.reduceLeDiff, Int.reduceLT, Int.reduceLE, Int.reduceEq, Int.reduceNeg, Int.reduceToNat]; simp [dels, lastS, osV_nil, ha2]⟩
  rintro m T D H' ⟨k, G, rfl, hk, rfl, rfl, t0, t1, t6, t7, t23, t24, t25⟩
  have hdl := dels_len t s k
  by_cases hlt : k < t.length
  · have hlt' : (k : Int) < t.length := by omega
    have hls' : (k : Int) < s.length := by omega
    have hmx := lo_max (k := k)
    obtain ⟨a1, a2⟩ := okT_at hc hlt
    obtain ⟨b1, b2⟩ := okT_at hc (i := 0) (by omega)
    obtain ⟨c1, c2⟩ := okT_at hc (i := k - 1) (by omega)
    obtain ⟨d1, d2⟩ := lastS_lt s k
    have hdn : dels t s (k + 1) = dels t s k ++ [delR t s k] := rfl
    have hln : lastS s (k + 1) = if boE.at s k = true then (k : Int) else lastS s k := rfl
    by_cases hq : 0 ≤ lastS s k
    · obtain ⟨j, hj⟩ : ∃ j : Nat, lastS s k = j := ⟨(lastS s k).toNat, by omega⟩
      obtain ⟨e1, e2⟩ := okT_at hc (i := j) (by omega)
      have hr : ([.int .i64 (inE.at t k - inE.at t 0), .int .i64 (inE.at t k - inE.at t (k - 1)), .int .i64 (inE.at t k - inE.at t j)] : List V) = trE.f (delR t s k) := by
        unfold delR; rw [if_pos hq, hj]; rfl
      rw [hj] at t7 d1 d2
      have hj0 : (0 : Int) ≤ j := by omega
      simp (disch := first | rfl | omega | exact lt_new _ | assumption | decide | (simp [tk_here, tk_app, tk_0, tk_S, gr_here, gr_app, gr_0, gr_S] <;> omega) | fail) only [r17_0, r17_1, r17_2, r17_3, r17_4, r17_5, r17_6, r17_7, r17_8, r17_9, r17_10, r17_11, r17_12, r17_13, r17_14, r17_15, r17_16, r17_17, r17_18, l17_19, r17_20, c17, rs17, gc17, loadV_ptr, storeV_ptr, List.append_assoc, List.length_append, List.length_cons, List.length_nil, List.set_cons_zero, List.set_cons_succ, tk_here, tk_app, gr_here, gr_app, st_here, st_app, t0, t1, t6, t7, t23, t24, t25, hlt', hls', hmx, hr, hj0, go_sem, ↓reduceIte, Nat.reduceLT, Nat.reduceEqDiff, Nat.reduceAdd, Nat.reduceMul, Nat.reduceSub, Int.reduceAdd, Int.reduceSub, Nat.reduceLeDiff, Int.reduceLT, Int.reduceLE, Int.reduceEq, Int.reduceNeg, Int.reduceToNat]
      repeat' ((first | refine guardB_dec (fun hy => ?_) (fun hy => ?_) | refine guardB_bool (fun hy => ?_) (fun hy => ?_) | refine guardQ_ite (fun hy => ?_) (fun hy => ?_) | refine brQ_dec (fun hy => ?_) (fun hy => ?_) | refine brQ_bool (fun hy => ?_) (fun hy => ?_)) <;> (try simp only [Bool.not_eq_true', Bool.not_eq_false', Bool.and_eq_true, Bool.or_eq_false_iff, decide_eq_true_eq, decide_eq_false_iff_not] at hy) <;> simp (disch := first | rfl | omega | exact lt_new _ | assumption | decide | (simp [tk_here, tk_app, tk_0, tk_S, gr_here, gr_app, gr_0, gr_S] <;> omega) | fail) only [r17_0, r17_1, r17_2, r17_3, r17_4, r17_5, r17_6, r17_7, r17_8, r17_9, r17_10, r17_11, r17_12, r17_13, r17_14, r17_15, r17_16, r17_17, r17_18, l17_19, r17_20, c17, rs17, gc17, loadV_ptr, storeV_ptr, List.append_assoc, List.length_append, List.length_cons, List.length_nil, List.set_cons_zero, List.set_cons_succ, tk_here, tk_app, gr_here, gr_app, st_here, st_app, t0, t1, t6, t7, t23, t24, t25, hlt', hls', hmx, hr, hj0, go_sem, ↓reduceIte, Nat.reduceLT, Nat.reduceEqDiff, Nat.reduceAdd, Nat.reduceMul, Nat.reduceSub, Int.reduceAdd, Int.reduceSub, Nat.reduceLeDiff, Int.reduceLT, Int.reduceLE, Int.reduceEq, Int.reduceNeg, Int.reduceToNat, hy])
      all_goals exact ⟨_, by omega, k + 1, _, rfl, hlt, by rw [hdn, List.length_append]; rfl, by rw [hdn], by rw [hln]; simp [*], rfl⟩
    · have hr : ([.int .i64 (inE.at t k - inE.at t 0), .int .i64 (inE.at t k - inE.at t (k - 1)), .int .i64 0] : List V) = trE.f (delR t s k) := by
        unfold delR; rw [if_neg hq]; rfl
      have hr2 : setAt (trE.f (delR t s k)) 2 [.int .i64 0] = trE.f (delR t s k) := by rw [← hr]; rfl
      simp (disch := first | rfl | omega | exact lt_new _ | assumption | decide | (simp [tk_here, tk_app, tk_0, tk_S, gr_here, gr_app, gr_0, gr_S] <;> omega) | fail) only [r17_0, r17_1, r17_2, r17_3, r17_4, r17_5, r17_6, r17_7, r17_8, r17_9, r17_10, r17_11, r17_12, r17_13, r17_14, r17_15, r17_16, r17_17, r17_18, l17_19, r17_20, c17, rs17, gc17, loadV_ptr, storeV_ptr, List.append_assoc, List.length_append, List.length_cons, List.length_nil, List.set_cons_zero, List.set_cons_succ, tk_here, tk_app, gr_here, gr_app, st_here, st_app, t0, t1, t6, t7, t23, t24, t25, hlt', hls', hmx, hr, hr2, hq, go_sem, ↓reduceIte, Nat.reduceLT, Nat.reduceEqDiff, Nat.reduceAdd, Nat.reduceMul, Nat.reduceSub, Int.reduceAdd, Int.reduceSub, Nat.reduceLeDiff, Int.reduceLT, Int.reduceLE, Int.reduceEq, Int.reduceNeg, Int.reduceToNat]
      repeat' ((first | refine guardB_dec (fun hy => ?_) (fun hy => ?_) | refine guardB_bool (fun hy => ?_) (fun hy => ?_) | refine guardQ_ite (fun hy => ?_) (fun hy => ?_) | refine brQ_dec (fun hy => ?_) (fun hy => ?_) | refine brQ_bool (fun hy => ?_) (fun hy => ?_)) <;> (try simp only [Bool.not_eq_true', Bool.not_eq_false', Bool.and_eq_true, Bool.or_eq_false_iff, decide_eq_true_eq, decide_eq_false_iff_not] at hy) <;> simp (disch := first | rfl | omega | exact lt_new _ | assumption | decide | (simp [tk_here, tk_app, tk_0, tk_S, gr_here, gr_app, gr_0, gr_S] <;> omega) | fail) only [r17_0, r17_1, r17_2, r17_3, r17_4, r17_5, r17_6, r17_7, r17_8, r17_9, r17_10, r17_11, r17_12, r17_13, r17_14, r17_15, r17_16, r17_17, r17_18, l17_19, r17_20, c17, rs17, gc17, loadV_ptr, storeV_ptr, List.append_assoc, List.length_append, List.length_cons, List.length_nil, List.set_cons_zero, List.set_cons_succ, tk_here, tk_app, gr_here, gr_app, st_here, st_app, t0, t1, t6, t7, t23, t24, t25, hlt', hls', hmx, hr, hr2, hq, go_sem, ↓reduceIte, Nat.reduceLT, Nat.reduceEqDiff, Nat.reduceAdd, Nat.reduceMul, Nat.reduceSub, Int.reduceAdd, Int.reduceSub, Nat.reduceLeDiff, Int.reduceLT, Int.reduceLE, Int.reduceEq, Int.reduceNeg, Int.reduceToNat, hy])
      all_goals exact ⟨_, by omega, k + 1, _, rfl, hlt, by rw [hdn, List.length_append]; rfl, by rw [hdn], by rw [hln]; simp [*], rfl⟩
  · obtain rfl : k = t.length := by omega
    simp (disch := first | rfl | omega | exact lt_new _ | assumption | decide | (simp [tk_here, tk_app, tk_0, tk_S, gr_here, gr_app, gr_0, gr_S] <;> omega) | fail) only [r17_0, r17_1, r17_2, r17_3, r17_4, r17_5, r17_6, r17_7, r17_8, r17_9, r17_10, r17_11, r17_12, r17_13, r17_14, r17_15, r17_16, r17_17, r17_18, l17_19, r17_20, c17, rs17, gc17, loadV_ptr, storeV_ptr, List.append_assoc, List.length_append, List.length_cons, List.length_nil, List.set_cons_zero, List.set_cons_succ, tk_here, tk_app, gr_here, gr_app, st_here, st_app, t0, t1, t6, t7, t23, t24, t25, Int.lt_irrefl, go_sem, ↓reduceIte, Nat.reduceLT, Nat.reduceEqDiff, Nat.reduceAdd, Nat.reduceMul, Nat.reduceSub, Int.reduceAdd, Int.reduceSub, Nat.reduceLeDiff, Int.reduceLT, Int.reduceLE, Int.reduceEq, Int.reduceNeg, Int.reduceToNat]
    repeat' ((first | refine guardB_dec (fun hy => ?_) (fun hy => ?_) | refine guardB_bool (fun hy => ?_) (fun hy => ?_) | refine guardQ_ite (fun hy => ?_) (fun hy => ?_) | refine brQ_dec (fun hy => ?_) (fun hy => ?_) | refine brQ_bool (fun hy => ?_) (fun hy => ?_)) <;> (try simp only [Bool.not_eq_true', Bool.not_eq_false', Bool.and_eq_true, Bool.or_eq_false_iff, decide_eq_true_eq, decide_eq_false_iff_not] at hy) <;> simp (disch := first | rfl | omega | exact lt_new _ | assumption | decide | (simp [tk_here, tk_app, tk_0, tk_S, gr_here, gr_app, gr_0, gr_S] <;> omega) | fail) only [r17_0, r17_1, r17_2, r17_3, r17_4, r17_5, r17_6, r17_7, r17_8, r17_9, r17_10, r17_11, r17_12, r17_13, r17_14, r17_15, r17_16, r17_17, r17_18, l17_19, r17_20, c17, rs17, gc17, loadV_ptr, storeV_ptr, List.append_assoc, List.length_append, List.length_cons, List.length_nil, List.set_cons_zero, List.set_cons_succ, tk_here, tk_app, gr_here, gr_app, st_here, st_app, t0, t1, t6, t7, t23, t24, t25, Int.lt_irrefl, go_sem, ↓reduceIte, Nat.reduceLT, Nat.reduceEqDiff, Nat.reduceAdd, Nat.reduceMul, Nat.reduceSub, Int.reduceAdd, Int.reduceSub, Nat.reduceLeDiff, Int.reduceLT, Int.reduceLE, Int.reduceEq, Int.reduceNeg, Int.reduceToNat, hy])
    refine finQ_app ?_
    simp (disch := first | rfl | omega | exact lt_new _ | assumption | decide | (simp [tk_here, tk_app, tk_0, tk_S, gr_here, gr_app, gr_0, gr_S] <;> omega) | fail) only [go_sem, ↓reduceIte, Nat.reduceLT, Nat.reduceEqDiff, Nat.reduceAdd, Nat.reduceMul, Nat.reduceSub, Int.reduceAdd, Int.reduceSub, Nat.reduceLeDiff, Int.reduceLT, Int.reduceLE, Int.reduceEq, Int.reduceNeg, Int.reduceToNat]
end Go.Proofs.YteeofpgnjekeaaaGreatDoor
/-
  Rows whose cells are set one by one. No statement of the seat stands here.
-/
namespace Go.An
open Go
variable {α : Type}
theorem setAt_set {cs : List V} {j : Nat} (h : j < cs.length) (v : V) : setAt cs j [v] = cs.set j v := by
  rw [List.set_eq_take_append_cons_drop, if_pos h]
  simp [setAt]
theorem flatE_cons (E : Enc α) (a : α) (l : List α) : flatE E (a :: l) = E.f a ++ flatE E l := by simp [flatE]
theorem flatE_setc {E : Enc α} {j : Nat} {v : V} {x : α} (hj : j < E.w) : ∀ {l : List α} {i : Nat}, i < l.length → (E.f (E.at l i)).set j v = E.f x → (flatE E l).set (i * E.w + j) v = flatE E (l.set i x)
  | [], _, h, _ => by cases h
  | y :: ys, 0, _, h => by
    have e : E.at (y :: ys) 0 = y := by simp [Enc.at]
    rw [e] at h
    rw [flatE_cons, List.set_cons_zero, flatE_cons, List.set_append_left _ _ (by rw [E.len]; omega), Nat.zero_mul, Nat.zero_add, h]
  | y :: ys, i + 1, hi, h => by
    have e : E.at (y :: ys) (i + 1) = E.at ys i := by simp [Enc.at]
    rw [e] at h
    have ih := flatE_setc (E := E) (v := v) (x := x) hj (l := ys) (i := i) (by simpa using hi) h
    rw [flatE_cons, List.set_cons_succ, flatE_cons, List.set_append_right _ _ (by rw [E.len, Nat.add_mul]; omega), E.len, show (i + 1) * E.w + j - E.w = i * E.w + j by rw [Nat.add_mul]; omega, ih]
/-- One cell of one element of a row is set. -/
theorem flatE_at_set [Orc] {E : Enc α} {l : List α} {i j : Nat} {v : V} {x : α} (hi : i < l.length) (hj : j < E.w) (h : (E.f (E.at l i)).set j v = E.f x) : setAt (flatE E l) (i * E.w + j) [v] = flatE E (l.set i x) := by
  rw [setAt_set (by rw [flatE_len]; have : i * E.w + E.w ≤ l.length * E.w := by rw [← Nat.succ_mul]; exact Nat.mul_le_mul_right _ hi
                    omega), flatE_setc hj hi h]
/-- A list whose first elements are changed. -/
def mix (g : α → α) (l : List α) (i : Nat) : List α := (l.take i).map g ++ l.drop i
theorem mix_0 (g : α → α) (l : List α) : mix g l 0 = l := by simp [mix]
theorem mix_len (g : α → α) (l : List α) (i : Nat) : (mix g l i).length = l.length := by simp [mix]; omega
theorem mix_all (g : α → α) (l : List α) : mix g l l.length = l.map g := by simp [mix]
theorem mix_get (g : α → α) {l : List α} {i : Nat} (h : i < l.length) : (mix g l i)[i]? = l[i]? := by
  have : ((l.take i).map g).length = i := by simp; omega
  rw [mix, List.getElem?_append_right (by omega), this, Nat.sub_self]
  simp
theorem mix_at (E : Enc α) (g : α → α) {l : List α} {i : Nat} (h : i < l.length) : E.at (mix g l i) i = E.at l i := by
  have h1 := E.at_some (l := mix g l i) (i := i) (by rw [mix_len]; exact h)
  rw [mix_get g h, E.at_some h] at h1
  exact (Option.some.inj h1).symm
theorem mix_set (E : Enc α) (g : α → α) {l : List α} {i : Nat} (h : i < l.length) : (mix g l i).set i (g (E.at l i)) = mix g l (i + 1) := by
  have h0 : ((l.take i).map g).length = i := by simp; omega
  have h1 : l.drop i = E.at l i :: l.drop (i + 1) := by
    rw [List.drop_eq_getElem_cons h]
    have h2 := E.at_some h
    rw [List.getElem?_eq_getElem h] at h2
    rw [Option.some.inj h2]
  have h3 : (l.take (i + 1)).map g = (l.take i).map g ++ [g (E.at l i)] := by
    rw [List.take_add_one, E.at_some h]; simp
  unfold mix
  rw [List.set_append_right _ _ (by omega), h0, Nat.sub_self, h1, List.set_cons_zero, h3]
  simp
end Go.An
/-
  The abstract machine, part EJ: memory in the middle of a range over a function: a box in which a slice grows, and the marks of ranges. No statement of the seat stands here.
-/
namespace Go.An
open Go
set_option linter.unusedSectionVars false
set_option linter.unusedVariables false

section
variable [Orc] {P : Program} {Pr : Prims} {α : Type} {E : Enc α}
theorem callL_roundE {id : Nat} {H : Hp} {L : LoopA} {vs : List V} {T : Fr} {cca ccb : Cc} {R : V × Hp → Prop} (h1 : getLoopA H id = some L) (h2 : L.st = 0) (h3 : L.ps.all (fun p => p < L.N) = true) (h4 : putL L.T L.ps vs = some T) (h5 : compC P L.N L.ca = some cca) (h6 : compC P L.N L.cb = some ccb)
    (h : Wp P (callL P Pr) L.N cca T [(Y0, [])] H fun e T D H1 => e = .nor ∧ ∃ L1, getLoopA H1 id = some L1 ∧ L1.st = 0 ∧ Wp P (callL P Pr) L.N ccb T D (H1.set id (.loop { L1 with st := 1 })) fun e _ _ H2 => ∃ L2, getLoopA H2 id = some L2 ∧ R (match e with | .nor => (.bool true, H2.set id (.loop { L2 with st := 0, pend := .nor })) | e => (.bool false, H2.set id (.loop { L2 with st := 2, pend := e })))) : ∃ r, callL P Pr Y0 (.yld id :: vs) H = some r ∧ R r := by
  obtain ⟨e1, s1, b1, rfl, L1, g1, g2, e2, s2, b2, L2, g3, hr⟩ := h
  exact ⟨_, callL_round h1 h2 h3 h4 h5 h6 ⟨_, _, b1, rfl, L1, g1, g2, _, _, b2, L2, g3, rfl⟩, hr⟩

/-- What was there, the box of what grows, the marks of the ranges. -/
structure MidE (E : Enc α) (H0 H : Hp) (v : V) (out : List α) (ds : List Nat) : Prop where
  old : ∀ i, i < H0.length → H[i]? = H0[i]?
  box : H[H0.length]? = some (.row 0 [v] true)
  own : OwnE E H v out
  at_ : ∀ id, At v id → H0.length < id
  dfr : ∀ i ∈ ds, H0.length < i ∧ H[i]? = some (.dfr true)
  nd : ds.Nodup
variable {H0 H H' : Hp} {v : V} {out : List α} {ds : List Nat}
theorem MidE.lt (h : MidE E H0 H v out ds) : H0.length < H.length := (List.getElem?_eq_some_iff.1 h.box).1
theorem OwnE.isRow {l : List α} (h : OwnE E H v l) {id : Nat} (ha : At v id) : ∃ g cs, H[id]? = some (.row g cs true) := by
  obtain ⟨g, o, n, z, cp, e⟩ := ha
  rcases h with ⟨rfl, _⟩ | ⟨id', g', rfl, _, h2⟩
  · cases e
  · injection e with e1; subst e1; exact ⟨_, _, h2⟩
theorem MidE.nil (E : Enc α) (H0 : Hp) : MidE E H0 (H0 ++ [.row 0 [.nilslice] true]) .nilslice [] [] :=
  ⟨fun i hi => List.getElem?_append_left hi, by simp, ownE_nil _ _, fun id hid => (by obtain ⟨g, o, n, z, cp, e⟩ := hid; cases e), fun i hi => (by cases hi), List.nodup_nil⟩
/-- A block that is no row and no mark changes, and others come. -/
theorem MidE.loop (h : MidE E H0 H v out ds) {id : Nat} {L : LoopA} (hid : H[id]? = some (.loop L)) (hlt : H0.length < id) (hf : ∀ i, i < H.length → i ≠ id → H'[i]? = H[i]?) : MidE E H0 H' v out ds := by
  have hb := h.lt
  refine ⟨fun i hi => (hf i (by omega) (by omega)).trans (h.old i hi), (hf _ hb (by omega)).trans h.box, h.own.frame fun i hi => hf i (h.own.lt hi) ?_, h.at_, fun i hi => ⟨(h.dfr i hi).1, (hf i ?_ ?_).trans (h.dfr i hi).2⟩, h.nd⟩
  · rintro rfl
    obtain ⟨g, cs, e⟩ := h.own.isRow hi
    rw [hid] at e
    cases e
  · exact (List.getElem?_eq_some_iff.1 (h.dfr i hi).2).1
  · rintro rfl
    have := (h.dfr i hi).2
    rw [hid] at this
    cases this
theorem MidE.app (h : MidE E H0 H v out ds) (L : Hp) : MidE E H0 (H ++ L) v out ds :=
  ⟨fun i hi => (List.getElem?_append_left (by have := h.lt; omega)).trans (h.old i hi), (List.getElem?_append_left h.lt).trans h.box, h.own.app L, h.at_, fun i hi => ⟨(h.dfr i hi).1, (List.getElem?_append_left (List.getElem?_eq_some_iff.1 (h.dfr i hi).2).1).trans (h.dfr i hi).2⟩, h.nd⟩
theorem MidE.mark (h : MidE E H0 H v out ds) {i : Nat} (hn : i ∉ ds) (hi : H0.length < i) (hd : H[i]? = some (.dfr true)) : MidE E H0 H v out (i :: ds) :=
  ⟨h.old, h.box, h.own, h.at_, fun j hj => by
    rcases List.mem_cons.1 hj with rfl | hj
    · exact ⟨hi, hd⟩
    · exact h.dfr j hj, List.nodup_cons.2 ⟨hn, h.nd⟩⟩
/-- What comes out is put behind. -/
theorem MidE.push (h : MidE E H0 H v out ds) (a : α) {w by_ : Nat} {t : TypeId} (hw : E.w = w) (hb : (out.length + 1) * by_ ≤ 2 ^ 40) (hb2 : out.length + 1 ≤ 2 ^ 40) (ht : szOf P t = some 1) :
    ∃ v' H1, appOf w by_ H v (.isl (E.f a) 1 w) = some (v', H1) ∧ H.length ≤ H1.length ∧ storeV P t H1 (.ptr H0.length 0 0) v' = some (H1.set H0.length (.row 0 [v'] true)) ∧ MidE E H0 (H1.set H0.length (.row 0 [v'] true)) v' (out ++ [a]) ds ∧
    (∀ (i : Nat) (L : LoopA), H[i]? = some (.loop L) → (H1.set H0.length (.row 0 [v'] true))[i]? = some (.loop L)) ∧ v'.dem = v' := by
  obtain ⟨v', H1, e1, e2, e3, e4, e5⟩ := h.own.push (w := w) (by_ := by_) a hw hb hb2
  have hlt := h.lt
  have hnb : ¬ At v H0.length := fun x => by have := h.at_ _ x; omega
  have hbx : H1[H0.length]? = some (.row 0 [v] true) := (e3 _ hlt hnb).trans h.box
  have hns : ∀ i, i ≠ H0.length → (H1.set H0.length (.row 0 [v'] true))[i]? = H1[i]? := fun i hi => List.getElem?_set_ne (Ne.symm hi)
  have hat : ∀ id, At v' id → H0.length < id := fun id hid => by
    rcases e5 id hid with x | x
    · exact h.at_ id x
    · omega
  have hst : storeV P t H1 (.ptr H0.length 0 0) v' = some (H1.set H0.length (.row 0 [v'] true)) := by
    obtain ⟨c1, c2, _⟩ := e2.cell
    unfold storeV
    simp only [getRow_of hbx, Option.bind_some, c2, ht]
    rw [if_pos ⟨trivial, rfl, by simp, by simp [c1]⟩]
    rfl
  have hdm : v'.dem = v' := by
    rcases e2 with ⟨rfl, _⟩ | ⟨_, _, rfl, _⟩ <;> rfl
  refine ⟨v', H1, e1, e4, hst, ⟨fun i hi => ?_, ?_, ?_, hat, fun i hi => ⟨(h.dfr i hi).1, ?_⟩, h.nd⟩, fun i L hL => ?_, hdm⟩
  · rw [hns i (by omega), e3 i (by omega) (fun x => by have := h.at_ _ x; omega)]
    exact h.old i hi
  · rw [List.getElem?_set_self (by omega)]
  · exact e2.frame fun id hid => hns id (by have := hat id hid; omega)
  · rw [hns i (by have := (h.dfr i hi).1; omega), e3 i (List.getElem?_eq_some_iff.1 (h.dfr i hi).2).1 ?_]
    · exact (h.dfr i hi).2
    · intro x
      obtain ⟨g, cs, e⟩ := h.own.isRow x
      rw [(h.dfr i hi).2] at e
      cases e
  · rw [hns i ?_, e3 i (List.getElem?_eq_some_iff.1 hL).1 ?_]
    · exact hL
    · intro x
      obtain ⟨g, cs, e⟩ := h.own.isRow x
      rw [hL] at e
      cases e
    · rintro rfl
      rw [h.box] at hL
      cases hL
/-- The marks are taken away. -/
theorem MidE.marks : ∀ {ds : List Nat} {H : Hp}, MidE E H0 H v out ds → ∃ H1, dfrs Pr (ds.map fun i => (Y0, [V.ptr i 0 0])) H = some H1 ∧ MidE E H0 H1 v out []
  | [], H, h => ⟨H, rfl, h⟩
  | d :: ds, H, h => by
    obtain ⟨h1, h2⟩ := h.dfr d (by simp)
    have hm : markV [V.ptr d 0 0] H = some (H.set d (.dfr false)) := by
      unfold markV
      simp only [h2]
    have hnd := h.nd
    rw [List.nodup_cons] at hnd
    have hdl := (List.getElem?_eq_some_iff.1 h2).1
    have hns : ∀ i, i ≠ d → (H.set d (.dfr false))[i]? = H[i]? := fun i hi => List.getElem?_set_ne (Ne.symm hi)
    have hM : MidE E H0 (H.set d (.dfr false)) v out ds := by
      refine ⟨fun i hi => (hns i (by omega)).trans (h.old i hi), (hns _ (by omega)).trans h.box, h.own.frame fun id hid => hns id ?_, h.at_, fun i hi => ⟨(h.dfr i (by simp [hi])).1, (hns i ?_).trans (h.dfr i (by simp [hi])).2⟩, hnd.2⟩
      · rintro rfl
        obtain ⟨g, cs, e⟩ := h.own.isRow hid
        rw [h2] at e
        cases e
      · rintro rfl
        exact hnd.1 hi
    obtain ⟨H1, e1, e2⟩ := hM.marks
    exact ⟨H1, by rw [List.map_cons, dfrs_mark, hm]; exact e1, e2⟩
theorem inR_map (ds : List Nat) : inRound (ds.map fun i => (Y0, [V.ptr i 0 0])) = false := by
  cases ds with
  | nil => rfl
  | cons d ds => cases ds <;> rfl
/-- A list that a call has made: a row behind all, or nil. -/
def rowV (H : Hp) (E : Enc α) (l : List α) : V × Hp := if l = [] then (.nilslice, H) else (.slice H.length 0 0 l.length E.w .full, H ++ [.row 0 (flatE E l) true])
theorem gc2_own (ho : ∀ i, i < H0.length → H[i]? = H0[i]?) (hl : H0.length ≤ H.length) (hv : OwnE E H v out) (ha : ∀ id, At v id → H0.length ≤ id) : gcC H0 (v, H) = rowV H0 E out := by
  have hpre : H.take H0.length = H0 := by
    apply List.ext_getElem?
    intro i
    rw [List.getElem?_take]
    split
    · rw [ho i (by assumption)]
    · rw [List.getElem?_eq_none (by omega)]
  unfold rowV
  rcases hv with ⟨rfl, rfl⟩ | ⟨id, g, rfl, h1, h2⟩
  · rw [if_pos rfl]
    exact gc_old hpre rfl (by simp [refR, refA, refB])
  · rw [if_neg (by intro e; rw [e] at h1; simp at h1)]
    have hid := ha id ⟨_, _, _, _, _, rfl⟩
    have hL : fresh H0.length (refR (.slice id g 0 out.length E.w .full)) = [(id, g)] := by
      simp [refR, refA, refB, fresh, List.eraseDups_cons, hid]
    rw [gc_one hpre rfl hid h2 flatE_imm hL]
    have hid2 : ¬ id < H0.length := by omega
    simp [renR, renA, renB, moveTo, hid2]
theorem MidE.gc2 (h : MidE E H0 H v out ds) : gcC H0 (v, H) = rowV H0 E out :=
  gc2_own h.old (Nat.le_of_lt h.lt) h.own fun id hid => Nat.le_of_lt (h.at_ id hid)
theorem MidE.inl (h : MidE E H0 H v out ds) {f : Nat} : inlA H0.length H (f + 2) v = some (slV true E out) := by
  have hi := h.own.inl (n := H0.length) (f := f) fun id hid => by have := h.at_ id hid; omega
  rcases h.own with ⟨rfl, _⟩ | ⟨_, _, rfl, _⟩ <;> exact hi
end
end Go.An
/-
  A list's values, collected and sorted, by the library; walked. No statement of the seat stands here.
-/
namespace Go.Proofs.YteeofpgnjekeaaaGreatDoor
open Go Go.An
set_option maxRecDepth 4000
set_option linter.unusedSimpArgs false
set_option linter.unusedVariables false

theorem fn62 (b : Bool) (s : List Int) (H : Hp) : callL Tryz.prog pr 62 [slV b inE s] H = some (.fn 113 [] [.ipt [slV b inE s] 0], H) := by
  refine run62 (Nat.le_of_ble_eq_true rfl) ?_
  simp (disch := first | rfl | omega | exact lt_new _ | assumption | decide | (simp [tk_here, tk_app, tk_0, tk_S, gr_here, gr_app, gr_0, gr_S] <;> omega) | fail) only [r62_0, r62_1, c62, rs62, gc62, go_sem, ↓reduceIte, Nat.reduceLT, Nat.reduceEqDiff, Nat.reduceAdd, Nat.reduceMul, Nat.reduceSub, Int.reduceAdd, Int.reduceSub, Nat.reduceLeDiff, Int.reduceLT, Int.reduceLE, Int.reduceEq, Int.reduceNeg, Int.reduceToNat]
  repeat' ((first | refine guardB_dec (fun hy => ?_) (fun hy => ?_) | refine guardB_bool (fun hy => ?_) (fun hy => ?_) | refine guardQ_ite (fun hy => ?_) (fun hy => ?_) | refine brQ_dec (fun hy => ?_) (fun hy => ?_) | refine brQ_bool (fun hy => ?_) (fun hy => ?_)) <;> (try simp only [Bool.not_eq_true', Bool.not_eq_false', Bool.and_eq_true, Bool.or_eq_false_iff, decide_eq_true_eq, decide_eq_false_iff_not] at hy) <;> simp (disch := first | rfl | omega | exact lt_new _ | assumption | decide | (simp [tk_here, tk_app, tk_0, tk_S, gr_here, gr_app, gr_0, gr_S] <;> omega) | fail) only [r62_0, r62_1, c62, rs62, gc62, go_sem, ↓reduceIte, Nat.reduceLT, Nat.reduceEqDiff, Nat.reduceAdd, Nat.reduceMul, Nat.reduceSub, Int.reduceAdd, Int.reduceSub, Nat.reduceLeDiff, Int.reduceLT, Int.reduceLE, Int.reduceEq, Int.reduceNeg, Int.reduceToNat, hy])
  all_goals (try ((first | refine finQ_same ?_ | refine finQ_app ?_ | (rw [List.append_assoc]; refine finQ_app ?_)) <;> simp (disch := first | rfl | omega | exact lt_new _ | assumption | decide | (simp [tk_here, tk_app, tk_0, tk_S, gr_here, gr_app, gr_0, gr_S] <;> omega) | fail) only [go_sem, ↓reduceIte, Nat.reduceLT, Nat.reduceEqDiff, Nat.reduceAdd, Nat.reduceMul, Nat.reduceSub, Int.reduceAdd, Int.reduceSub, Nat.reduceLeDiff, Int.reduceLT, Int.reduceLE, Int.reduceEq, Int.reduceNeg, Int.reduceToNat, List.append_assoc, List.cons_append, List.nil_append, *]))
  all_goals (try first | rfl | (simp [*]; done) | grind)
theorem ld27_1 (b : Bool) (s : List Int) (H : Hp) : loadV Tryz.prog 27 H (.ipt [slV b inE s] 0) = some (slV b inE s) := by
  have hg : aggT Tryz.prog 27 = some false := by kernel_rfl
  rw [loadV_ipt]; unfold partV; rw [hg]; rfl
theorem fn113 {id : Nat} {b : Bool} {l : List Int} {H : Hp} (hl : l.length ≤ 2 ^ 48) (J : Nat → Hp → Prop) (E : Hp → Prop) (h0 : J 0 H)
    (hs : ∀ j < l.length, ∀ H, J j H → ∃ c H', callL Tryz.prog pr Y0 [.yld id, .int .i64 (inE.at l j)] H = some (.bool c, H') ∧ (c = true → J (j + 1) H') ∧ (c = false → E H')) :
    ∃ H', callL Tryz.prog pr 113 [.yld id, .ipt [slV b inE l] 0] H = some (.tup [], H') ∧ (J l.length H' ∨ E H') := by
  suffices h : ∃ r, callL Tryz.prog pr 113 [.yld id, .ipt [slV b inE l] 0] H = some r ∧ ∃ H', r = (.tup [], H') ∧ (J l.length H' ∨ E H') by
    obtain ⟨_, e, H', rfl, h⟩ := h
    exact ⟨H', e, h⟩
  have hld := ld27_1 b l
  refine ex113 (Nat.le_of_ble_eq_true rfl) ?_
  simp (disch := first | rfl | omega | exact lt_new _ | assumption | decide | (simp [tk_here, tk_app, tk_0, tk_S, gr_here, gr_app, gr_0, gr_S] <;> omega) | fail) only [r113_0, r113_1, r113_2, r113_3, r113_4, c113, rs113, gc113, hld, go_sem, ↓reduceIte, Nat.reduceLT, Nat.reduceEqDiff, Nat.reduceAdd, Nat.reduceMul, Nat.reduceSub, Int.reduceAdd, Int.reduceSub, Nat.reduceLeDiff, Int.reduceLT, Int.reduceLE, Int.reduceEq, Int.reduceNeg, Int.reduceToNat]
  repeat' ((first | refine guardB_dec (fun hy => ?_) (fun hy => ?_) | refine guardB_bool (fun hy => ?_) (fun hy => ?_) | refine guardQ_ite (fun hy => ?_) (fun hy => ?_) | refine brQ_dec (fun hy => ?_) (fun hy => ?_) | refine brQ_bool (fun hy => ?_) (fun hy => ?_)) <;> (try simp only [Bool.not_eq_true', Bool.not_eq_false', Bool.and_eq_true, Bool.or_eq_false_iff, decide_eq_true_eq, decide_eq_false_iff_not] at hy) <;> simp (disch := first | rfl | omega | exact lt_new _ | assumption | decide | (simp [tk_here, tk_app, tk_0, tk_S, gr_here, gr_app, gr_0, gr_S] <;> omega) | fail) only [r113_0, r113_1, r113_2, r113_3, r113_4, c113, rs113, gc113, hld, go_sem, ↓reduceIte, Nat.reduceLT, Nat.reduceEqDiff, Nat.reduceAdd, Nat.reduceMul, Nat.reduceSub, Int.reduceAdd, Int.reduceSub, Nat.reduceLeDiff, Int.reduceLT, Int.reduceLE, Int.reduceEq, Int.reduceNeg, Int.reduceToNat, hy])
  refine Wp_loop (fun m T D H1 => ∃ j, m = l.length - j ∧ j ≤ l.length ∧ D = [] ∧ J j H1 ∧ get T 0 = .yld id ∧ get T 5 = slV b inE l ∧ get T 6 = .int .i64 l.length ∧ get T 7 = .int .i64 j) ?_ l.length _ _ _ ?_
  case refine_2 => exact ⟨0, rfl, Nat.zero_le _, by simp (disch := first | rfl | omega | exact lt_new _ | assumption | decide | (simp [tk_here, tk_app, tk_0, tk_S, gr_here, gr_app, gr_0, gr_S] <;> omega) | fail) only [go_sem, ↓reduceIte, Nat.reduceLT, Nat.reduceEqDiff, Nat.reduceAdd, Nat.reduceMul, Nat.reduceSub, Int.reduceAdd, Int.reduceSub, Nat.reduceLeDiff, Int.reduceLT, Int.reduceLE, Int.reduceEq, Int.reduceNeg, Int.reduceToNat, h0]⟩
  rintro m T D H1 ⟨j, rfl, hj, rfl, hJ, t0, t5, t6, t7⟩
  by_cases hlt : j < l.length
  · have hlt' : (j : Int) < l.length := by omega
    obtain ⟨c, H2, hc, hc1, hc2⟩ := hs j hlt H1 hJ
    cases c with
    | true =>
      simp (disch := first | rfl | omega | exact lt_new _ | assumption | decide | (simp [tk_here, tk_app, tk_0, tk_S, gr_here, gr_app, gr_0, gr_S] <;> omega) | fail) only [r113_0, r113_1, r113_2, r113_3, r113_4, l113_5, c113, rs113, gc113, t0, t5, t6, t7, hlt', hc, go_sem, ↓reduceIte, Nat.reduceLT, Nat.reduceEqDiff, Nat.reduceAdd, Nat.reduceMul, Nat.reduceSub, Int.reduceAdd, Int.reduceSub, Nat.reduceLeDiff, Int.reduceLT, Int.reduceLE, Int.reduceEq, Int.reduceNeg, Int.reduceToNat]
      repeat' ((first | refine guardB_dec (fun hy => ?_) (fun hy => ?_) | refine guardB_bool (fun hy => ?_) (fun hy => ?_) | refine guardQ_ite (fun hy => ?_) (fun hy => ?_) | refine brQ_dec (fun hy => ?_) (fun hy => ?_) | refine brQ_bool (fun hy => ?_) (fun hy => ?_)) <;> (try simp only [Bool.not_eq_true', Bool.not_eq_false', Bool.and_eq_true, Bool.or_eq_false_iff, decide_eq_true_eq, decide_eq_false_iff_not] at hy) <;> simp (disch := first | rfl | omega | exact lt_new _ | assumption | decide | (simp [tk_here, tk_app, tk_0, tk_S, gr_here, gr_app, gr_0, gr_S] <;> omega) | fail) only [r113_0, r113_1, r113_2, r113_3, r113_4, l113_5, c113, rs113, gc113, t0, t5, t6, t7, hlt', hc, go_sem, ↓reduceIte, Nat.reduceLT, Nat.reduceEqDiff, Nat.reduceAdd, Nat.reduceMul, Nat.reduceSub, Int.reduceAdd, Int.reduceSub, Nat.reduceLeDiff, Int.reduceLT, Int.reduceLE, Int.reduceEq, Int.reduceNeg, Int.reduceToNat, hy])
      exact ⟨_, by omega, j + 1, rfl, hlt, hc1 rfl, rfl⟩
    | false =>
      simp (disch := first | rfl | omega | exact lt_new _ | assumption | decide | (simp [tk_here, tk_app, tk_0, tk_S, gr_here, gr_app, gr_0, gr_S] <;> omega) | fail) only [r113_0, r113_1, r113_2, r113_3, r113_4, l113_5, c113, rs113, gc113, t0, t5, t6, t7, hlt', hc, go_sem, ↓reduceIte, Nat.reduceLT, Nat.reduceEqDiff, Nat.reduceAdd, Nat.reduceMul, Nat.reduceSub, Int.reduceAdd, Int.reduceSub, Nat.reduceLeDiff, Int.reduceLT, Int.reduceLE, Int.reduceEq, Int.reduceNeg, Int.reduceToNat]
      repeat' ((first | refine guardB_dec (fun hy => ?_) (fun hy => ?_) | refine guardB_bool (fun hy => ?_) (fun hy => ?_) | refine guardQ_ite (fun hy => ?_) (fun hy => ?_) | refine brQ_dec (fun hy => ?_) (fun hy => ?_) | refine brQ_bool (fun hy => ?_) (fun hy => ?_)) <;> (try simp only [Bool.not_eq_true', Bool.not_eq_false', Bool.and_eq_true, Bool.or_eq_false_iff, decide_eq_true_eq, decide_eq_false_iff_not] at hy) <;> simp (disch := first | rfl | omega | exact lt_new _ | assumption | decide | (simp [tk_here, tk_app, tk_0, tk_S, gr_here, gr_app, gr_0, gr_S] <;> omega) | fail) only [r113_0, r113_1, r113_2, r113_3, r113_4, l113_5, c113, rs113, gc113, t0, t5, t6, t7, hlt', hc, go_sem, ↓reduceIte, Nat.reduceLT, Nat.reduceEqDiff, Nat.reduceAdd, Nat.reduceMul, Nat.reduceSub, Int.reduceAdd, Int.reduceSub, Nat.reduceLeDiff, Int.reduceLT, Int.reduceLE, Int.reduceEq, Int.reduceNeg, Int.reduceToNat, hy])
      exact ⟨_, rfl, .inr (hc2 rfl)⟩
  · obtain rfl : j = l.length := by omega
    simp (disch := first | rfl | omega | exact lt_new _ | assumption | decide | (simp [tk_here, tk_app, tk_0, tk_S, gr_here, gr_app, gr_0, gr_S] <;> omega) | fail) only [r113_0, r113_1, r113_2, r113_3, r113_4, l113_5, c113, rs113, gc113, t0, t5, t6, t7, Int.lt_irrefl, go_sem, ↓reduceIte, Nat.reduceLT, Nat.reduceEqDiff, Nat.reduceAdd, Nat.reduceMul, Nat.reduceSub, Int.reduceAdd, Int.reduceSub, Nat.reduceLeDiff, Int.reduceLT, Int.reduceLE, Int.reduceEq, Int.reduceNeg, Int.reduceToNat]
    repeat' ((first | refine guardB_dec (fun hy => ?_) (fun hy => ?_) | refine guardB_bool (fun hy => ?_) (fun hy => ?_) | refine guardQ_ite (fun hy => ?_) (fun hy => ?_) | refine brQ_dec (fun hy => ?_) (fun hy => ?_) | refine brQ_bool (fun hy => ?_) (fun hy => ?_)) <;> (try simp only [Bool.not_eq_true', Bool.not_eq_false', Bool.and_eq_true, Bool.or_eq_false_iff, decide_eq_true_eq, decide_eq_false_iff_not] at hy) <;> simp (disch := first | rfl | omega | exact lt_new _ | assumption | decide | (simp [tk_here, tk_app, tk_0, tk_S, gr_here, gr_app, gr_0, gr_S] <;> omega) | fail) only [r113_0, r113_1, r113_2, r113_3, r113_4, l113_5, c113, rs113, gc113, t0, t5, t6, t7, Int.lt_irrefl, go_sem, ↓reduceIte, Nat.reduceLT, Nat.reduceEqDiff, Nat.reduceAdd, Nat.reduceMul, Nat.reduceSub, Int.reduceAdd, Int.reduceSub, Nat.reduceLeDiff, Int.reduceLT, Int.reduceLE, Int.reduceEq, Int.reduceNeg, Int.reduceToNat, hy])
    exact ⟨_, rfl, .inl hJ⟩
noncomputable def lp160 (T : Fr) (n : Nat) : LoopA := ⟨T, 13, [7], a160_0, b160_0, 0, .nor, n⟩
theorem lp160N (T : Fr) (n : Nat) : (lp160 T n).N = 13 := rfl
theorem lp160T (T : Fr) (n : Nat) : (lp160 T n).T = T := rfl
theorem pv_bx27 (v : V) : partV Tryz.prog 27 [v] 0 = some v := by unfold partV; rw [g27]; rfl
theorem round160 {H0 H : Hp} {v : V} {out : List Int} {ds : List Nat} {T : Fr} {n id : Nat} {x : Int} (h : MidE inE H0 H v out ds) (ho : out.length ≤ 2 ^ 20) (hid : H[id]? = some (.loop (lp160 T n))) (hlt : H0.length < id) (t2 : get T 2 = .ptr H0.length 0 0) :
    ∃ H' v', callL Tryz.prog pr Y0 [.yld id, .int .i64 x] H = some (.bool true, H') ∧ MidE inE H0 H' v' (out ++ [x]) ds ∧ H'[id]? = some (.loop (lp160 T n)) := by
  have hidl := (List.getElem?_eq_some_iff.1 hid).1
  have hgl : getLoopA H id = some (lp160 T n) := by unfold getLoopA; rw [hid]
  suffices hh : ∃ r, callL Tryz.prog pr Y0 [.yld id, .int .i64 x] H = some r ∧ ∃ H' v', r = (.bool true, H') ∧ MidE inE H0 H' v' (out ++ [x]) ds ∧ H'[id]? = some (.loop (lp160 T n)) by
    obtain ⟨_, e, H', v', rfl, hh⟩ := hh
    exact ⟨H', v', e, hh⟩
  refine callL_roundE hgl rfl rfl rfl ha160_0 hb160_0 ?_
  simp (disch := first | rfl | omega | exact lt_new _ | assumption | decide | (simp [tk_here, tk_app, tk_0, tk_S, gr_here, gr_app, gr_0, gr_S] <;> omega) | fail) only [ca160_0, r160_2, lp160N, lp160T, hgl, go_sem, ↓reduceIte, Nat.reduceLT, Nat.reduceEqDiff, Nat.reduceAdd, Nat.reduceMul, Nat.reduceSub, Int.reduceAdd, Int.reduceSub, Nat.reduceLeDiff, Int.reduceLT, Int.reduceLE, Int.reduceEq, Int.reduceNeg, Int.reduceToNat]
  refine ⟨_, rfl, rfl, ?_⟩
  obtain ⟨B, hB⟩ : ∃ B, B = AB.loop { lp160 T n with st := 1 } := ⟨_, rfl⟩
  show Wp _ _ _ _ _ _ (H.set id (AB.loop { lp160 T n with st := 1 })) _
  rw [← hB]
  have hM : MidE inE H0 (H.set id B) v out ds := h.loop (H' := H.set id B) hid hlt fun i _ hi => List.getElem?_set_ne (Ne.symm hi)
  obtain ⟨v', H3, p1, p2, p3, p4, p5, p6⟩ := hM.push (w := 1) (by_ := 8) (t := 27) x rfl (by omega) (by omega) z27
  simp only [inE_f] at p1
  have hbx := getRow_of hM.box
  have hid1 : (H.set id B)[id]? = some B := List.getElem?_set_self hidl
  have h3 := p5 id _ (by rw [hid1, hB])
  have hg3 : getLoopA (H3.set H0.length (.row 0 [v'] true)) id = some { lp160 T n with st := 1 } := by unfold getLoopA; rw [h3]
  simp (disch := first | rfl | omega | exact lt_new _ | assumption | decide | (simp [tk_here, tk_app, tk_0, tk_S, gr_here, gr_app, gr_0, gr_S] <;> omega) | fail) only [cb160_0, r160_3, t2, ldR, hbx, pv_bx27, p1, p3, p6, hg3, go_sem, ↓reduceIte, Nat.reduceLT, Nat.reduceEqDiff, Nat.reduceAdd, Nat.reduceMul, Nat.reduceSub, Int.reduceAdd, Int.reduceSub, Nat.reduceLeDiff, Int.reduceLT, Int.reduceLE, Int.reduceEq, Int.reduceNeg, Int.reduceToNat]
  repeat' ((first | refine guardB_dec (fun hy => ?_) (fun hy => ?_) | refine guardB_bool (fun hy => ?_) (fun hy => ?_) | refine guardQ_ite (fun hy => ?_) (fun hy => ?_) | refine brQ_dec (fun hy => ?_) (fun hy => ?_) | refine brQ_bool (fun hy => ?_) (fun hy => ?_)) <;> (try simp only [Bool.not_eq_true', Bool.not_eq_false', Bool.and_eq_true, Bool.or_eq_false_iff, decide_eq_true_eq, decide_eq_false_iff_not] at hy) <;> simp (disch := first | rfl | omega | exact lt_new _ | assumption | decide | (simp [tk_here, tk_app, tk_0, tk_S, gr_here, gr_app, gr_0, gr_S] <;> omega) | fail) only [cb160_0, r160_3, t2, ldR, hbx, pv_bx27, p1, p3, p6, hg3, go_sem, ↓reduceIte, Nat.reduceLT, Nat.reduceEqDiff, Nat.reduceAdd, Nat.reduceMul, Nat.reduceSub, Int.reduceAdd, Int.reduceSub, Nat.reduceLeDiff, Int.reduceLT, Int.reduceLE, Int.reduceEq, Int.reduceNeg, Int.reduceToNat, hy])
  exact ⟨_, rfl, _, _, rfl, p4.loop h3 hlt fun i _ hi => List.getElem?_set_ne (Ne.symm hi), List.getElem?_set_self (List.getElem?_eq_some_iff.1 h3).1⟩
theorem rowV_nil {α : Type} (H : Hp) (E : Enc α) : rowV H E [] = (.nilslice, H) := if_pos rfl
theorem rowV_cons {α : Type} (H : Hp) (E : Enc α) {l : List α} (h : l ≠ []) : rowV H E l = (.slice H.length 0 0 l.length E.w .full, H ++ [.row 0 (flatE E l) true]) := if_neg h
theorem take_at (l : List Int) {j : Nat} (h : j < l.length) : l.take (j + 1) = l.take j ++ [inE.at l j] := by
  rw [List.take_succ_eq_append_getElem h]
  simp [Enc.at, List.getD, h]
theorem rng160 {H0 : Hp} {b : Bool} {l : List Int} (hl : l.length ≤ 2 ^ 20) {T : Fr} {Q : Ex → Fr → Dfr → Hp → Prop} (t6 : get T 6 = .fn 113 [] [.ipt [slV b inE l] 0]) (t2 : get T 2 = .ptr H0.length 0 0)
    (hq : ∀ v' H2 d, MidE inE H0 H2 v' l [d] → Q .nor T [(Y0, [V.ptr d 0 0])] H2) :
    Wp Tryz.prog (callL Tryz.prog pr) 13 (.rng (tm 6) [7] a160_0 b160_0) T [] (H0 ++ [AB.row 0 [V.nilslice] true]) Q := by
  have hn : (H0 ++ [AB.row 0 [V.nilslice] true]).length = H0.length + 1 := by simp
  have hM2 : MidE inE H0 (H0 ++ [AB.row 0 [V.nilslice] true] ++ [.dfr true, .loop (lp160 T (H0.length + 1))]) .nilslice (l.take 0) [H0.length + 1] := by
    refine ((MidE.nil inE H0).app _).mark (by simp) (by omega) ?_
    rw [List.getElem?_append_right (by omega), hn]
    simp
  have hid2 : (H0 ++ [AB.row 0 [V.nilslice] true] ++ [.dfr true, .loop (lp160 T (H0.length + 1))])[H0.length + 1 + 1]? = some (.loop (lp160 T (H0.length + 1))) := by
    rw [List.getElem?_append_right (by omega), hn]
    simp
  obtain ⟨H3, hc, hJ⟩ := fn113 (id := H0.length + 1 + 1) (b := b) (l := l) (H := H0 ++ [AB.row 0 [V.nilslice] true] ++ [.dfr true, .loop (lp160 T (H0.length + 1))]) (by omega)
    (fun j H => ∃ v, MidE inE H0 H v (l.take j) [H0.length + 1] ∧ H[H0.length + 1 + 1]? = some (.loop (lp160 T (H0.length + 1)))) (fun _ => False)
    ⟨_, hM2, hid2⟩ (fun j hj H ⟨v, m1, m2⟩ => by
      obtain ⟨H', v', r1, r2, r3⟩ := round160 (x := inE.at l j) m1 (by rw [List.length_take]; omega) m2 (by omega) t2
      refine ⟨true, H', r1, fun _ => ⟨v', ?_, r3⟩, fun h => (by cases h)⟩
      rw [take_at l hj]
      exact r2)
  rcases hJ with ⟨v, m1, m2⟩ | h
  · refine Wp_rng (q := (.tup [], H3)) (L := lp160 T (H0.length + 1)) t6 (by decide) rfl (by kernel_rfl) (by rw [hn]; exact hc) (by rw [hn]; unfold getLoopA; rw [m2]) (by show (0 : Nat) ≠ 1; decide) ?_
    rw [hn]
    refine hq v _ _ ?_
    rw [List.take_length] at m1
    exact m1.loop m2 (by omega) fun i _ hi => List.getElem?_set_ne (Ne.symm hi)
  · exact h.elim
theorem fn160 (b : Bool) (l : List Int) (hl : l.length ≤ 2 ^ 20) (H : Hp) : callL Tryz.prog pr 160 [.nilslice, .fn 113 [] [.ipt [slV b inE l] 0]] H = some (rowV H inE l) := by
  refine run160 (Nat.le_of_ble_eq_true rfl) ?_
  simp (disch := first | rfl | omega | exact lt_new _ | assumption | decide | (simp [tk_here, tk_app, tk_0, tk_S, gr_here, gr_app, gr_0, gr_S] <;> omega) | fail) only [r160_0, r160_1, c160, go_sem, ↓reduceIte, Nat.reduceLT, Nat.reduceEqDiff, Nat.reduceAdd, Nat.reduceMul, Nat.reduceSub, Int.reduceAdd, Int.reduceSub, Nat.reduceLeDiff, Int.reduceLT, Int.reduceLE, Int.reduceEq, Int.reduceNeg, Int.reduceToNat]
  repeat' ((first | refine guardB_dec (fun hy => ?_) (fun hy => ?_) | refine guardB_bool (fun hy => ?_) (fun hy => ?_) | refine guardQ_ite (fun hy => ?_) (fun hy => ?_) | refine brQ_dec (fun hy => ?_) (fun hy => ?_) | refine brQ_bool (fun hy => ?_) (fun hy => ?_)) <;> (try simp only [Bool.not_eq_true', Bool.not_eq_false', Bool.and_eq_true, Bool.or_eq_false_iff, decide_eq_true_eq, decide_eq_false_iff_not] at hy) <;> simp (disch := first | rfl | omega | exact lt_new _ | assumption | decide | (simp [tk_here, tk_app, tk_0, tk_S, gr_here, gr_app, gr_0, gr_S] <;> omega) | fail) only [r160_0, r160_1, c160, go_sem, ↓reduceIte, Nat.reduceLT, Nat.reduceEqDiff, Nat.reduceAdd, Nat.reduceMul, Nat.reduceSub, Int.reduceAdd, Int.reduceSub, Nat.reduceLeDiff, Int.reduceLT, Int.reduceLE, Int.reduceEq, Int.reduceNeg, Int.reduceToNat, hy])
  refine rng160 (b := b) hl (by simp (disch := first | rfl | omega | exact lt_new _ | assumption | decide | (simp [tk_here, tk_app, tk_0, tk_S, gr_here, gr_app, gr_0, gr_S] <;> omega) | fail) only [go_sem, ↓reduceIte, Nat.reduceLT, Nat.reduceEqDiff, Nat.reduceAdd, Nat.reduceMul, Nat.reduceSub, Int.reduceAdd, Int.reduceSub, Nat.reduceLeDiff, Int.reduceLT, Int.reduceLE, Int.reduceEq, Int.reduceNeg, Int.reduceToNat]) (by simp (disch := first | rfl | omega | exact lt_new _ | assumption | decide | (simp [tk_here, tk_app, tk_0, tk_S, gr_here, gr_app, gr_0, gr_S] <;> omega) | fail) only [go_sem, ↓reduceIte, Nat.reduceLT, Nat.reduceEqDiff, Nat.reduceAdd, Nat.reduceMul, Nat.reduceSub, Int.reduceAdd, Int.reduceSub, Nat.reduceLeDiff, Int.reduceLT, Int.reduceLE, Int.reduceEq, Int.reduceNeg, Int.reduceToNat]) fun v' H2 d hM => ?_
  have hbx : loadV Tryz.prog 27 H2 (.ptr H.length 0 0) = some v' := by rw [ldR, getRow_of hM.box]; exact pv_bx27 v'
  obtain ⟨H3, e1, e2⟩ := hM.marks (Pr := pr)
  have e1' : dfrs pr [(Y0, [V.ptr d 0 0])] H2 = some H3 := e1
  have hgc := e2.gc2
  obtain ⟨c1, c2, c3, _⟩ := e2.own.cell
  simp (disch := first | rfl | omega | exact lt_new _ | assumption | decide | (simp [tk_here, tk_app, tk_0, tk_S, gr_here, gr_app, gr_0, gr_S] <;> omega) | fail) only [r160_4, rs160, gc160, hbx, e1', hgc, go_sem, ↓reduceIte, Nat.reduceLT, Nat.reduceEqDiff, Nat.reduceAdd, Nat.reduceMul, Nat.reduceSub, Int.reduceAdd, Int.reduceSub, Nat.reduceLeDiff, Int.reduceLT, Int.reduceLE, Int.reduceEq, Int.reduceNeg, Int.reduceToNat]
  repeat' ((first | refine guardB_dec (fun hy => ?_) (fun hy => ?_) | refine guardB_bool (fun hy => ?_) (fun hy => ?_) | refine guardQ_ite (fun hy => ?_) (fun hy => ?_) | refine brQ_dec (fun hy => ?_) (fun hy => ?_) | refine brQ_bool (fun hy => ?_) (fun hy => ?_)) <;> (try simp only [Bool.not_eq_true', Bool.not_eq_false', Bool.and_eq_true, Bool.or_eq_false_iff, decide_eq_true_eq, decide_eq_false_iff_not] at hy) <;> simp (disch := first | rfl | omega | exact lt_new _ | assumption | decide | (simp [tk_here, tk_app, tk_0, tk_S, gr_here, gr_app, gr_0, gr_S] <;> omega) | fail) only [r160_4, rs160, gc160, hbx, e1', hgc, go_sem, ↓reduceIte, Nat.reduceLT, Nat.reduceEqDiff, Nat.reduceAdd, Nat.reduceMul, Nat.reduceSub, Int.reduceAdd, Int.reduceSub, Nat.reduceLeDiff, Int.reduceLT, Int.reduceLE, Int.reduceEq, Int.reduceNeg, Int.reduceToNat, hy])
  done
theorem gc2_rowV (H : Hp) (l : List Int) : gcC H (rowV H inE l) = rowV H inE l := by
  by_cases h : l = []
  · subst h
    rw [rowV_nil]
    exact gc2_own (E := inE) (out := []) (fun _ _ => rfl) (Nat.le_refl _) (ownE_nil _ _) fun id hid => by obtain ⟨g, o, n, z, cp, e⟩ := hid; cases e
  · rw [rowV_cons H inE h]
    refine (gc2_own (E := inE) (out := l) (fun i hi => List.getElem?_append_left hi) (by simp) (.inr ⟨H.length, 0, rfl, List.length_pos_iff.2 h, by simp⟩) fun id hid => ?_).trans (rowV_cons H inE h)
    obtain ⟨g, o, n, z, cp, e⟩ := hid
    injection e with e1
    omega
theorem fn111 (b : Bool) (l : List Int) (hl : l.length ≤ 2 ^ 20) (H : Hp) : callL Tryz.prog pr 111 [.fn 113 [] [.ipt [slV b inE l] 0]] H = some (rowV H inE l) := by
  have h160 := fn160 b l hl
  have hg := gc2_rowV H l
  refine run111 (Nat.le_of_ble_eq_true rfl) ?_
  by_cases h : l = []
  · have h160' : ∀ H, callL Tryz.prog pr 160 [.nilslice, .fn 113 [] [.ipt [slV b inE l] 0]] H = some (.nilslice, H) := fun H => by rw [h160, h, rowV_nil]
    rw [h, rowV_nil] at hg
    rw [h, rowV_nil]
    rw [h] at h160'
    simp (disch := first | rfl | omega | exact lt_new _ | assumption | decide | (simp [tk_here, tk_app, tk_0, tk_S, gr_here, gr_app, gr_0, gr_S] <;> omega) | fail) only [r111_0, r111_1, c111, rs111, gc111, h160', hg, go_sem, ↓reduceIte, Nat.reduceLT, Nat.reduceEqDiff, Nat.reduceAdd, Nat.reduceMul, Nat.reduceSub, Int.reduceAdd, Int.reduceSub, Nat.reduceLeDiff, Int.reduceLT, Int.reduceLE, Int.reduceEq, Int.reduceNeg, Int.reduceToNat]
    repeat' ((first | refine guardB_dec (fun hy => ?_) (fun hy => ?_) | refine guardB_bool (fun hy => ?_) (fun hy => ?_) | refine guardQ_ite (fun hy => ?_) (fun hy => ?_) | refine brQ_dec (fun hy => ?_) (fun hy => ?_) | refine brQ_bool (fun hy => ?_) (fun hy => ?_)) <;> (try simp only [Bool.not_eq_true', Bool.not_eq_false', Bool.and_eq_true, Bool.or_eq_false_iff, decide_eq_true_eq, decide_eq_false_iff_not] at hy) <;> simp (disch := first | rfl | omega | exact lt_new _ | assumption | decide | (simp [tk_here, tk_app, tk_0, tk_S, gr_here, gr_app, gr_0, gr_S] <;> omega) | fail) only [r111_0, r111_1, c111, rs111, gc111, h160', hg, go_sem, ↓reduceIte, Nat.reduceLT, Nat.reduceEqDiff, Nat.reduceAdd, Nat.reduceMul, Nat.reduceSub, Int.reduceAdd, Int.reduceSub, Nat.reduceLeDiff, Int.reduceLT, Int.reduceLE, Int.reduceEq, Int.reduceNeg, Int.reduceToNat, hy])
    done
  · have h160' := fun H => (h160 H).trans (congrArg some (rowV_cons H inE h))
    rw [rowV_cons H inE h] at hg
    rw [rowV_cons H inE h]
    simp (disch := first | rfl | omega | exact lt_new _ | assumption | decide | (simp [tk_here, tk_app, tk_0, tk_S, gr_here, gr_app, gr_0, gr_S] <;> omega) | fail) only [r111_0, r111_1, c111, rs111, gc111, h160', hg, go_sem, ↓reduceIte, Nat.reduceLT, Nat.reduceEqDiff, Nat.reduceAdd, Nat.reduceMul, Nat.reduceSub, Int.reduceAdd, Int.reduceSub, Nat.reduceLeDiff, Int.reduceLT, Int.reduceLE, Int.reduceEq, Int.reduceNeg, Int.reduceToNat]
    repeat' ((first | refine guardB_dec (fun hy => ?_) (fun hy => ?_) | refine guardB_bool (fun hy => ?_) (fun hy => ?_) | refine guardQ_ite (fun hy => ?_) (fun hy => ?_) | refine brQ_dec (fun hy => ?_) (fun hy => ?_) | refine brQ_bool (fun hy => ?_) (fun hy => ?_)) <;> (try simp only [Bool.not_eq_true', Bool.not_eq_false', Bool.and_eq_true, Bool.or_eq_false_iff, decide_eq_true_eq, decide_eq_false_iff_not] at hy) <;> simp (disch := first | rfl | omega | exact lt_new _ | assumption | decide | (simp [tk_here, tk_app, tk_0, tk_S, gr_here, gr_app, gr_0, gr_S] <;> omega) | fail) only [r111_0, r111_1, c111, rs111, gc111, h160', hg, go_sem, ↓reduceIte, Nat.reduceLT, Nat.reduceEqDiff, Nat.reduceAdd, Nat.reduceMul, Nat.reduceSub, Int.reduceAdd, Int.reduceSub, Nat.reduceLeDiff, Int.reduceLT, Int.reduceLE, Int.reduceEq, Int.reduceNeg, Int.reduceToNat, hy])
    done
theorem flat_ints : ∀ l : List Int, flatE inE l = l.map (V.int .i64)
  | [] => rfl
  | x :: l => by
    have := flat_ints l
    simp only [flatE, List.map_cons, List.flatten_cons, inE_f] at this ⊢
    rw [this]
    rfl
@[go_sem] theorem kp112 (v : V) : demK 112 v = v.dem := rfl
theorem fn112 (args : List V) (H : Hp) : callL Tryz.prog pr 112 args H = sortV args H := by rw [callL_eq]; rfl
theorem sort_row (H : Hp) {l : List Int} (h : l ≠ []) (hl : l.length ≤ 2 ^ 20) : callL Tryz.prog pr 112 [.slice H.length 0 0 l.length 1 .full] (H ++ [.row 0 (flatE inE l) true]) = some (.tup [], H ++ [.row 0 (flatE inE (sortI l)) true]) := by
  have h0 : 0 < l.length := List.length_pos_iff.2 h
  rw [fn112]
  unfold sortV
  simp only [getRow_last, Option.bind_some]
  rw [if_neg (by omega), if_pos ⟨trivial, trivial, by simp [flat_ints], by omega⟩]
  rw [flat_ints, List.drop_zero, List.take_of_length_le (by simp), intsOf_map]
  simp only [Option.map_some, set_last]
  rw [flat_ints, ← List.append_nil (l.map (V.int .i64)), setAt_whole (by simp [sortI_length]), List.append_nil]
theorem fn61 (b : Bool) (l : List Int) (hl : l.length ≤ 2 ^ 20) (H : Hp) : callL Tryz.prog pr 61 [.fn 113 [] [.ipt [slV b inE l] 0]] H = some (slV true inE (sortI l), H) := by
  have h111 := fn111 b l hl
  refine run61 (Nat.le_of_ble_eq_true rfl) ?_
  by_cases h : l = []
  · have h111' : ∀ H, callL Tryz.prog pr 111 [.fn 113 [] [.ipt [slV b inE l] 0]] H = some (.nilslice, H) := fun H => by rw [h111, h, rowV_nil]
    have hs : ∀ H, callL Tryz.prog pr 112 [.nilslice] H = some (.tup [], H) := fun H => fn112 _ _
    rw [h] at h111' ⊢
    simp (disch := first | rfl | omega | exact lt_new _ | assumption | decide | (simp [tk_here, tk_app, tk_0, tk_S, gr_here, gr_app, gr_0, gr_S] <;> omega) | fail) only [r61_0, r61_1, r61_2, r61_3, c61, rs61, gc61, h111', hs, go_sem, ↓reduceIte, Nat.reduceLT, Nat.reduceEqDiff, Nat.reduceAdd, Nat.reduceMul, Nat.reduceSub, Int.reduceAdd, Int.reduceSub, Nat.reduceLeDiff, Int.reduceLT, Int.reduceLE, Int.reduceEq, Int.reduceNeg, Int.reduceToNat]
    repeat' ((first | refine guardB_dec (fun hy => ?_) (fun hy => ?_) | refine guardB_bool (fun hy => ?_) (fun hy => ?_) | refine guardQ_ite (fun hy => ?_) (fun hy => ?_) | refine brQ_dec (fun hy => ?_) (fun hy => ?_) | refine brQ_bool (fun hy => ?_) (fun hy => ?_)) <;> (try simp only [Bool.not_eq_true', Bool.not_eq_false', Bool.and_eq_true, Bool.or_eq_false_iff, decide_eq_true_eq, decide_eq_false_iff_not] at hy) <;> simp (disch := first | rfl | omega | exact lt_new _ | assumption | decide | (simp [tk_here, tk_app, tk_0, tk_S, gr_here, gr_app, gr_0, gr_S] <;> omega) | fail) only [r61_0, r61_1, r61_2, r61_3, c61, rs61, gc61, h111', hs, go_sem, ↓reduceIte, Nat.reduceLT, Nat.reduceEqDiff, Nat.reduceAdd, Nat.reduceMul, Nat.reduceSub, Int.reduceAdd, Int.reduceSub, Nat.reduceLeDiff, Int.reduceLT, Int.reduceLE, Int.reduceEq, Int.reduceNeg, Int.reduceToNat, hy])
    refine finQ_same ?_
    simp (disch := first | rfl | omega | exact lt_new _ | assumption | decide | (simp [tk_here, tk_app, tk_0, tk_S, gr_here, gr_app, gr_0, gr_S] <;> omega) | fail) only [go_sem, ↓reduceIte, Nat.reduceLT, Nat.reduceEqDiff, Nat.reduceAdd, Nat.reduceMul, Nat.reduceSub, Int.reduceAdd, Int.reduceSub, Nat.reduceLeDiff, Int.reduceLT, Int.reduceLE, Int.reduceEq, Int.reduceNeg, Int.reduceToNat, sortI, slV_nil, List.mergeSort_nil]
  · have h111' := fun H => (h111 H).trans (congrArg some (rowV_cons H inE h))
    have hs := fun H => sort_row H h hl
    have hw : inE.w = 1 := rfl
    rw [hw] at h111'
    simp (disch := first | rfl | omega | exact lt_new _ | assumption | decide | (simp [tk_here, tk_app, tk_0, tk_S, gr_here, gr_app, gr_0, gr_S] <;> omega) | fail) only [r61_0, r61_1, r61_2, r61_3, c61, rs61, gc61, h111', hs, go_sem, ↓reduceIte, Nat.reduceLT, Nat.reduceEqDiff, Nat.reduceAdd, Nat.reduceMul, Nat.reduceSub, Int.reduceAdd, Int.reduceSub, Nat.reduceLeDiff, Int.reduceLT, Int.reduceLE, Int.reduceEq, Int.reduceNeg, Int.reduceToNat]
    repeat' ((first | refine guardB_dec (fun hy => ?_) (fun hy => ?_) | refine guardB_bool (fun hy => ?_) (fun hy => ?_) | refine guardQ_ite (fun hy => ?_) (fun hy => ?_) | refine brQ_dec (fun hy => ?_) (fun hy => ?_) | refine brQ_bool (fun hy => ?_) (fun hy => ?_)) <;> (try simp only [Bool.not_eq_true', Bool.not_eq_false', Bool.and_eq_true, Bool.or_eq_false_iff, decide_eq_true_eq, decide_eq_false_iff_not] at hy) <;> simp (disch := first | rfl | omega | exact lt_new _ | assumption | decide | (simp [tk_here, tk_app, tk_0, tk_S, gr_here, gr_app, gr_0, gr_S] <;> omega) | fail) only [r61_0, r61_1, r61_2, r61_3, c61, rs61, gc61, h111', hs, go_sem, ↓reduceIte, Nat.reduceLT, Nat.reduceEqDiff, Nat.reduceAdd, Nat.reduceMul, Nat.reduceSub, Int.reduceAdd, Int.reduceSub, Nat.reduceLeDiff, Int.reduceLT, Int.reduceLE, Int.reduceEq, Int.reduceNeg, Int.reduceToNat, hy])
    refine finQ_app ?_
    have hl2 : 0 < (sortI l).length := by rw [sortI_length]; exact List.length_pos_iff.2 h
    have hi : inlB H.length (H ++ [.row 0 (flatE inE (sortI l)) true]) 8 (.slice H.length 0 0 l.length 1 .full) = some (.isl (flatE inE (sortI l)) l.length 1) := inlB_row (f := 6) (Nat.le_refl _) (by simp) (by rw [flatE_len, sortI_length]; rfl) flatE_imm
    refine ⟨_, hi, ?_⟩
    rw [slV_some hl2, sortI_length]
    rfl
end Go.Proofs.YteeofpgnjekeaaaGreatDoor
/-
  The greatest sum in a width, told with plain lists: by order of time, and as they stand. No statement of the seat stands here.
-/
namespace Go.Proofs.YteeofpgnjekeaaaGreatDoor
open Go Go.An
set_option maxRecDepth 4000
set_option linter.unusedSimpArgs false
set_option linter.unusedVariables false

/-- The sizes of those from a time on, within a width. -/
def wsum (t s : List Int) (w x : Int) : Nat → Int
  | 0 => 0
  | k + 1 => if inE.at t k ≥ x ∧ inE.at t k - x < w then wsum t s w x k + inE.at s k else wsum t s w x k
theorem wsum_b {t s : List Int} {w x : Int} (h : ∀ i < s.length, 0 ≤ inE.at s i ∧ inE.at s i ≤ 1000000) : ∀ k ≤ s.length, 0 ≤ wsum t s w x k ∧ wsum t s w x k ≤ k * 1000000
  | 0, _ => by simp [wsum]
  | k + 1, hk => by
    have h1 := wsum_b (x := x) (w := w) (t := t) h k (by omega)
    have h2 := h k (by omega)
    unfold wsum
    split <;> omega
def bstP (f : Int → Int) (l : List Int) : Nat → Int × Int
  | 0 => (-1, 0)
  | k + 1 => if f (inE.at l k) > (bstP f l k).1 then (f (inE.at l k), inE.at l k) else bstP f l k
def bstR (f : Int → Int) (l : List Int) : Nat → Int × Int
  | 0 => (-1, 0)
  | k + 1 => if f (inE.at l k) > (bstR f l k).1 ∨ f (inE.at l k) = (bstR f l k).1 ∧ inE.at l k < (bstR f l k).2 then (f (inE.at l k), inE.at l k) else bstR f l k
def IsB (f : Int → Int) (l : List Int) (k : Nat) (p : Int × Int) : Prop := (k = 0 ∧ p = (-1, 0)) ∨ ((∃ i < k, inE.at l i = p.2) ∧ f p.2 = p.1 ∧ ∀ j < k, f (inE.at l j) ≤ p.1 ∧ (f (inE.at l j) = p.1 → p.2 ≤ inE.at l j))
theorem bstR_is {f : Int → Int} (h0 : ∀ x, 0 ≤ f x) (l : List Int) : ∀ k, IsB f l k (bstR f l k)
  | 0 => .inl ⟨rfl, rfl⟩
  | k + 1 => by
    have ih := bstR_is h0 l k
    unfold bstR
    right
    rcases ih with ⟨rfl, e⟩ | ⟨⟨i, hi, e1⟩, e2, e3⟩
    · rw [e]
      have := h0 (inE.at l 0)
      rw [if_pos (.inl (by simp only; omega))]
      refine ⟨⟨0, by omega, rfl⟩, rfl, fun j hj => ?_⟩
      obtain rfl : j = 0 := by omega
      simp
    · split
      · rename_i hc
        refine ⟨⟨k, by omega, rfl⟩, rfl, fun j hj => ?_⟩
        by_cases hjk : j = k
        · subst hjk; simp
        · have := e3 j (by omega)
          simp only
          rcases hc with hc | ⟨hc, hd⟩
          · omega
          · refine ⟨by omega, fun e => ?_⟩
            have := this.2 (by omega)
            omega
      · rename_i hc
        refine ⟨⟨i, by omega, e1⟩, e2, fun j hj => ?_⟩
        by_cases hjk : j = k
        · subst hjk
          simp only [not_or, not_and] at hc
          exact ⟨by omega, fun e => by have := hc.2 e; omega⟩
        · exact e3 j (by omega)
theorem bstP_is {f : Int → Int} (h0 : ∀ x, 0 ≤ f x) (l : List Int) (hs : ∀ i j, i < j → j < l.length → inE.at l i ≤ inE.at l j) : ∀ k ≤ l.length, IsB f l k (bstP f l k)
  | 0, _ => .inl ⟨rfl, rfl⟩
  | k + 1, hk => by
    have ih := bstP_is h0 l hs k (by omega)
    unfold bstP
    right
    rcases ih with ⟨rfl, e⟩ | ⟨⟨i, hi, e1⟩, e2, e3⟩
    · rw [e]
      have := h0 (inE.at l 0)
      rw [if_pos (by simp only; omega)]
      refine ⟨⟨0, by omega, rfl⟩, rfl, fun j hj => ?_⟩
      obtain rfl : j = 0 := by omega
      simp
    · split
      · rename_i hc
        refine ⟨⟨k, by omega, rfl⟩, rfl, fun j hj => ?_⟩
        by_cases hjk : j = k
        · subst hjk; simp
        · have := e3 j (by omega)
          simp only
          omega
      · rename_i hc
        refine ⟨⟨i, by omega, e1⟩, e2, fun j hj => ?_⟩
        by_cases hjk : j = k
        · subst hjk
          have := hs i j hi (by omega)
          exact ⟨by omega, fun _ => by omega⟩
        · exact e3 j (by omega)
theorem at_mem_iff {l : List Int} {x : Int} : x ∈ l ↔ ∃ i < l.length, inE.at l i = x := by
  constructor
  · intro h
    obtain ⟨i, hi, e⟩ := List.mem_iff_getElem.1 h
    exact ⟨i, hi, by simp [Enc.at, List.getD, hi, e]⟩
  · rintro ⟨i, hi, rfl⟩
    exact inE.at_mem hi
theorem IsB.perm {f : Int → Int} {l l' : List Int} (hp : l.Perm l') {p p' : Int × Int} (h : IsB f l l.length p) (h' : IsB f l' l'.length p') : p = p' := by
  have hl := hp.length_eq
  rcases h with ⟨e, rfl⟩ | ⟨⟨i, hi, e1⟩, e2, e3⟩
  · rcases h' with ⟨_, rfl⟩ | ⟨⟨i, hi, _⟩, _, _⟩
    · rfl
    · omega
  · rcases h' with ⟨e, _⟩ | ⟨⟨i', hi', e1'⟩, e2', e3'⟩
    · omega
    · have a : ∀ x ∈ l, f x ≤ p.1 ∧ (f x = p.1 → p.2 ≤ x) := fun x hx => by
        obtain ⟨j, hj, rfl⟩ := at_mem_iff.1 hx
        exact e3 j hj
      have a' : ∀ x ∈ l', f x ≤ p'.1 ∧ (f x = p'.1 → p'.2 ≤ x) := fun x hx => by
        obtain ⟨j, hj, rfl⟩ := at_mem_iff.1 hx
        exact e3' j hj
      have m : p.2 ∈ l := at_mem_iff.2 ⟨i, hi, e1⟩
      have m' : p'.2 ∈ l' := at_mem_iff.2 ⟨i', hi', e1'⟩
      have b1 := a _ (hp.mem_iff.2 m')
      have b2 := a' _ (hp.mem_iff.1 m)
      have c1 : p.1 = p'.1 := by omega
      have c2 : p.2 = p'.2 := by
        have := b1.2 (by omega)
        have := b2.2 (by omega)
        omega
      exact Prod.ext c1 c2
theorem sortI_perm (l : List Int) : (sortI l).Perm l := List.mergeSort_perm _ _
theorem sortI_le {l : List Int} : ∀ i j, i < j → j < (sortI l).length → inE.at (sortI l) i ≤ inE.at (sortI l) j := by
  intro i j hij hj
  have hp : (sortI l).Pairwise fun x y => decide (x ≤ y) = true := List.pairwise_mergeSort (le := fun x y => decide (x ≤ y)) (fun a b c h1 h2 => by simp at *; omega) (fun a b => by simp; omega) l
  have := List.pairwise_iff_getElem.1 hp i j (by omega) hj hij
  simp only [decide_eq_true_eq] at this
  simpa [Enc.at, List.getD, hj, show i < (sortI l).length by omega] using this
theorem burst_eq {f : Int → Int} (h0 : ∀ x, 0 ≤ f x) (l : List Int) : bstP f (sortI l) l.length = bstR f l l.length := by
  have h1 := bstP_is h0 (sortI l) sortI_le l.length (by rw [sortI_length]; exact Nat.le_refl _)
  rw [← sortI_length l] at h1
  have := IsB.perm (sortI_perm l) h1 (bstR_is h0 l l.length)
  rw [sortI_length] at this
  exact this
theorem bstR_b {f : Int → Int} {m : Int} (hf : ∀ x, f x ≤ m) (hm : 0 ≤ m) (l : List Int) : ∀ k, (bstR f l k).1 ≤ m
  | 0 => by simp [bstR]; omega
  | k + 1 => by
    have := bstR_b hf hm l k
    have := hf (inE.at l k)
    unfold bstR
    split
    · exact this
    · omega
def badS (n : Int) : Bool := decide (n < 0) || decide (1000000 < n)
def burF (t s : List Int) (w : Int) : (Int × Int) × Int :=
  if t.length ≠ s.length then ((0, 0), 10) else if 200 < t.length then ((0, 0), 3) else if t.length = 0 then ((0, 0), 4) else
  if w < 1 ∨ (t.any fun n => !okT n) = true ∨ s.any badS = true then ((0, 0), 1) else (bstR (fun x => wsum t s w x t.length) t t.length, 0)
end Go.Proofs.YteeofpgnjekeaaaGreatDoor
/-
  The greatest sum in a width, as the reference has it; walked. No statement of the seat stands here.
-/
namespace Go.Proofs.YteeofpgnjekeaaaGreatDoor
open Go Go.An
set_option maxRecDepth 4000
set_option linter.unusedSimpArgs false
set_option linter.unusedVariables false

theorem fn60 (n : Int) (H : Hp) : callL Tryz.prog pr 60 [.int .i64 n] H = some (.bool (badS n), H) := by
  refine run60 (Nat.le_of_ble_eq_true rfl) ?_
  unfold badS
  simp (disch := first | rfl | omega | exact lt_new _ | assumption | decide | (simp [tk_here, tk_app, tk_0, tk_S, gr_here, gr_app, gr_0, gr_S] <;> omega) | fail) only [r60_0, r60_1, c60, rs60, gc60, go_sem, ↓reduceIte, Nat.reduceLT, Nat.reduceEqDiff, Nat.reduceAdd, Nat.reduceMul, Nat.reduceSub, Int.reduceAdd, Int.reduceSub, Nat.reduceLeDiff, Int.reduceLT, Int.reduceLE, Int.reduceEq, Int.reduceNeg, Int.reduceToNat]
  repeat' ((first | refine guardB_dec (fun hy => ?_) (fun hy => ?_) | refine guardB_bool (fun hy => ?_) (fun hy => ?_) | refine guardQ_ite (fun hy => ?_) (fun hy => ?_) | refine brQ_dec (fun hy => ?_) (fun hy => ?_) | refine brQ_bool (fun hy => ?_) (fun hy => ?_)) <;> (try simp only [Bool.not_eq_true', Bool.not_eq_false', Bool.and_eq_true, Bool.or_eq_false_iff, decide_eq_true_eq, decide_eq_false_iff_not] at hy) <;> simp (disch := first | rfl | omega | exact lt_new _ | assumption | decide | (simp [tk_here, tk_app, tk_0, tk_S, gr_here, gr_app, gr_0, gr_S] <;> omega) | fail) only [r60_0, r60_1, c60, rs60, gc60, go_sem, ↓reduceIte, Nat.reduceLT, Nat.reduceEqDiff, Nat.reduceAdd, Nat.reduceMul, Nat.reduceSub, Int.reduceAdd, Int.reduceSub, Nat.reduceLeDiff, Int.reduceLT, Int.reduceLE, Int.reduceEq, Int.reduceNeg, Int.reduceToNat, hy])
  all_goals (try ((first | refine finQ_same ?_ | refine finQ_app ?_ | (rw [List.append_assoc]; refine finQ_app ?_)) <;> simp (disch := first | rfl | omega | exact lt_new _ | assumption | decide | (simp [tk_here, tk_app, tk_0, tk_S, gr_here, gr_app, gr_0, gr_S] <;> omega) | fail) only [go_sem, ↓reduceIte, Nat.reduceLT, Nat.reduceEqDiff, Nat.reduceAdd, Nat.reduceMul, Nat.reduceSub, Int.reduceAdd, Int.reduceSub, Nat.reduceLeDiff, Int.reduceLT, Int.reduceLE, Int.reduceEq, Int.reduceNeg, Int.reduceToNat, List.append_assoc, List.cons_append, List.nil_append, *]))
  all_goals (try first | rfl | (simp [*]; done) | grind)
theorem fn59 (n : Int) (H : Hp) : callL Tryz.prog pr 59 [.int .i64 n] H = some (.bool (!okT n), H) := by
  have h57 := fn57
  refine run59 (Nat.le_of_ble_eq_true rfl) ?_
  simp (disch := first | rfl | omega | exact lt_new _ | assumption | decide | (simp [tk_here, tk_app, tk_0, tk_S, gr_here, gr_app, gr_0, gr_S] <;> omega) | fail) only [r59_0, r59_1, c59, rs59, gc59, h57, go_sem, ↓reduceIte, Nat.reduceLT, Nat.reduceEqDiff, Nat.reduceAdd, Nat.reduceMul, Nat.reduceSub, Int.reduceAdd, Int.reduceSub, Nat.reduceLeDiff, Int.reduceLT, Int.reduceLE, Int.reduceEq, Int.reduceNeg, Int.reduceToNat]
  repeat' ((first | refine guardB_dec (fun hy => ?_) (fun hy => ?_) | refine guardB_bool (fun hy => ?_) (fun hy => ?_) | refine guardQ_ite (fun hy => ?_) (fun hy => ?_) | refine brQ_dec (fun hy => ?_) (fun hy => ?_) | refine brQ_bool (fun hy => ?_) (fun hy => ?_)) <;> (try simp only [Bool.not_eq_true', Bool.not_eq_false', Bool.and_eq_true, Bool.or_eq_false_iff, decide_eq_true_eq, decide_eq_false_iff_not] at hy) <;> simp (disch := first | rfl | omega | exact lt_new _ | assumption | decide | (simp [tk_here, tk_app, tk_0, tk_S, gr_here, gr_app, gr_0, gr_S] <;> omega) | fail) only [r59_0, r59_1, c59, rs59, gc59, h57, go_sem, ↓reduceIte, Nat.reduceLT, Nat.reduceEqDiff, Nat.reduceAdd, Nat.reduceMul, Nat.reduceSub, Int.reduceAdd, Int.reduceSub, Nat.reduceLeDiff, Int.reduceLT, Int.reduceLE, Int.reduceEq, Int.reduceNeg, Int.reduceToNat, hy])
  all_goals (try ((first | refine finQ_same ?_ | refine finQ_app ?_ | (rw [List.append_assoc]; refine finQ_app ?_)) <;> simp (disch := first | rfl | omega | exact lt_new _ | assumption | decide | (simp [tk_here, tk_app, tk_0, tk_S, gr_here, gr_app, gr_0, gr_S] <;> omega) | fail) only [go_sem, ↓reduceIte, Nat.reduceLT, Nat.reduceEqDiff, Nat.reduceAdd, Nat.reduceMul, Nat.reduceSub, Int.reduceAdd, Int.reduceSub, Nat.reduceLeDiff, Int.reduceLT, Int.reduceLE, Int.reduceEq, Int.reduceNeg, Int.reduceToNat, List.append_assoc, List.cons_append, List.nil_append, *]))
  all_goals (try first | rfl | (simp [*]; done) | grind)
theorem badS_at {s : List Int} (h : s.any badS = false) {i : Nat} (hi : i < s.length) : 0 ≤ inE.at s i ∧ inE.at s i ≤ 1000000 := by
  rw [List.any_eq_false] at h
  have := h _ (inE.at_mem hi)
  simp [badS] at this
  omega
theorem iany_at {l : List Int} {p : Int → Bool} {i : Nat} (hi : i < l.length) (h : p (inE.at l i) = true) : l.any p = true := List.any_eq_true.2 ⟨_, inE.at_mem hi, h⟩
theorem iany_no {l : List Int} {p : Int → Bool} (h : ∀ i < l.length, p (inE.at l i) = false) : l.any p = false := by
  rw [List.any_eq_false]
  intro x hx
  obtain ⟨j, hj, rfl⟩ := at_mem_iff.1 hx
  rw [h j hj]
  decide
set_option maxHeartbeats 8000000 in
theorem fn20 (bt bs : Bool) (t s : List Int) (w : Int) (h1 : t.length ≤ 2 ^ 48) (h2 : s.length ≤ 2 ^ 48) (H : Hp) : callL Tryz.prog pr 20 [slV bt inE t, slV bs inE s, .int .i64 w] H = some (.tup [.int .i64 (burF t s w).1.1, .int .i64 (burF t s w).1.2, .int .i64 (burF t s w).2], H) := by
  have h58 := fn58
  refine run20 (Nat.le_of_ble_eq_true rfl) ?_
  unfold burF
  by_cases ha : t.length ≠ s.length
  case pos =>
    rw [if_pos ha]
    have ha2 : ¬ (t.length : Int) = s.length := by omega
    simp (disch := first | rfl | omega | exact lt_new _ | assumption | decide | (simp [tk_here, tk_app, tk_0, tk_S, gr_here, gr_app, gr_0, gr_S] <;> omega) | fail) only [r20_0, r20_1, r20_2, r20_3, r20_4, r20_5, r20_6, r20_7, r20_8, r20_9, r20_10, r20_11, r20_12, r20_13, r20_15, r20_16, r20_17, r20_18, r20_19, r20_20, r20_21, r20_22, r20_23, r20_24, r20_26, r20_27, r20_28, r20_30, c20, rs20, gc20, ha2, go_sem, ↓reduceIte, Nat.reduceLT, Nat.reduceEqDiff, Nat.reduceAdd, Nat.reduceMul, Nat.reduceSub, Int.reduceAdd, Int.reduceSub, Nat.reduceLeDiff, Int.reduceLT, Int.reduceLE, Int.reduceEq, Int.reduceNeg, Int.reduceToNat]
    repeat' ((first | refine guardB_dec (fun hy => ?_) (fun hy => ?_) | refine guardB_bool (fun hy => ?_) (fun hy => ?_) | refine guardQ_ite (fun hy => ?_) (fun hy => ?_) | refine brQ_dec (fun hy => ?_) (fun hy => ?_) | refine brQ_bool (fun hy => ?_) (fun hy => ?_)) <;> (try simp only [Bool.not_eq_true', Bool.not_eq_false', Bool.and_eq_true, Bool.or_eq_false_iff, decide_eq_true_eq, decide_eq_false_iff_not] at hy) <;> simp (disch := first | rfl | omega | exact lt_new _ | assumption | decide | (simp [tk_here, tk_app, tk_0, tk_S, gr_here, gr_app, gr_0, gr_S] <;> omega) | fail) only [r20_0, r20_1, r20_2, r20_3, r20_4, r20_5, r20_6, r20_7, r20_8, r20_9, r20_10, r20_11, r20_12, r20_13, r20_15, r20_16, r20_17, r20_18, r20_19, r20_20, r20_21, r20_22, r20_23, r20_24, r20_26, r20_27, r20_28, r20_30, c20, rs20, gc20, ha2, go_sem, ↓reduceIte, Nat.reduceLT, Nat.reduceEqDiff, Nat.reduceAdd, Nat.reduceMul, Nat.reduceSub, Int.reduceAdd, Int.reduceSub, Nat.reduceLeDiff, Int.reduceLT, Int.reduceLE, Int.reduceEq, Int.reduceNeg, Int.reduceToNat, hy])
    all_goals (try ((first | refine finQ_same ?_ | refine finQ_app ?_ | (rw [List.append_assoc]; refine finQ_app ?_)) <;> simp (disch := first | rfl | omega | exact lt_new _ | assumption | decide | (simp [tk_here, tk_app, tk_0, tk_S, gr_here, gr_app, gr_0, gr_S] <;> omega) | fail) only [go_sem, ↓reduceIte, Nat.reduceLT, Nat.reduceEqDiff, Nat.reduceAdd, Nat.reduceMul, Nat.reduceSub, Int.reduceAdd, Int.reduceSub, Nat.reduceLeDiff, Int.reduceLT, Int.reduceLE, Int.reduceEq, Int.reduceNeg, Int.reduceToNat, List.append_assoc, List.cons_append, List.nil_append, *]))
    all_goals (try first | rfl | (simp [*]; done) | grind)
  rw [if_neg ha]
  have ha2 : (t.length : Int) = s.length := by omega
  by_cases hb : 200 < t.length
  case pos =>
    rw [if_pos hb]
    have hb2 : (200 : Int) < s.length := by omega
    simp (disch := first | rfl | omega | exact lt_new _ | assumption | decide | (simp [tk_here, tk_app, tk_0, tk_S, gr_here, gr_app, gr_0, gr_S] <;> omega) | fail) only [r20_0, r20_1, r20_2, r20_3, r20_4, r20_5, r20_6, r20_7, r20_8, r20_9, r20_10, r20_11, r20_12, r20_13, r20_15, r20_16, r20_17, r20_18, r20_19, r20_20, r20_21, r20_22, r20_23, r20_24, r20_26, r20_27, r20_28, r20_30, c20, rs20, gc20, ha2, hb2, go_sem, ↓reduceIte, Nat.reduceLT, Nat.reduceEqDiff, Nat.reduceAdd, Nat.reduceMul, Nat.reduceSub, Int.reduceAdd, Int.reduceSub, Nat.reduceLeDiff, Int.reduceLT, Int.reduceLE, Int.reduceEq, Int.reduceNeg, Int.reduceToNat]
    repeat' ((first | refine guardB_dec (fun hy => ?_) (fun hy => ?_) | refine guardB_bool (fun hy => ?_) (fun hy => ?_) | refine guardQ_ite (fun hy => ?_) (fun hy => ?_) | refine brQ_dec (fun hy => ?_) (fun hy => ?_) | refine brQ_bool (fun hy => ?_) (fun hy => ?_)) <;> (try simp only [Bool.not_eq_true', Bool.not_eq_false', Bool.and_eq_true, Bool.or_eq_false_iff, decide_eq_true_eq, decide_eq_false_iff_not] at hy) <;> simp (disch := first | rfl | omega | exact lt_new _ | assumption | decide | (simp [tk_here, tk_app, tk_0, tk_S, gr_here, gr_app, gr_0, gr_S] <;> omega) | fail) only [r20_0, r20_1, r20_2, r20_3, r20_4, r20_5, r20_6, r20_7, r20_8, r20_9, r20_10, r20_11, r20_12, r20_13, r20_15, r20_16, r20_17, r20_18, r20_19, r20_20, r20_21, r20_22, r20_23, r20_24, r20_26, r20_27, r20_28, r20_30, c20, rs20, gc20, ha2, hb2, go_sem, ↓reduceIte, Nat.reduceLT, Nat.reduceEqDiff, Nat.reduceAdd, Nat.reduceMul, Nat.reduceSub, Int.reduceAdd, Int.reduceSub, Nat.reduceLeDiff, Int.reduceLT, Int.reduceLE, Int.reduceEq, Int.reduceNeg, Int.reduceToNat, hy])
    all_goals (try ((first | refine finQ_same ?_ | refine finQ_app ?_ | (rw [List.append_assoc]; refine finQ_app ?_)) <;> simp (disch := first | rfl | omega | exact lt_new _ | assumption | decide | (simp [tk_here, tk_app, tk_0, tk_S, gr_here, gr_app, gr_0, gr_S] <;> omega) | fail) only [go_sem, ↓reduceIte, Nat.reduceLT, Nat.reduceEqDiff, Nat.reduceAdd, Nat.reduceMul, Nat.reduceSub, Int.reduceAdd, Int.reduceSub, Nat.reduceLeDiff, Int.reduceLT, Int.reduceLE, Int.reduceEq, Int.reduceNeg, Int.reduceToNat, List.append_assoc, List.cons_append, List.nil_append, *]))
    all_goals (try first | rfl | (simp [*]; done) | grind)
  rw [if_neg hb]
  have hb2 : ¬ (200 : Int) < s.length := by omega
  by_cases hc : t.length = 0
  case pos =>
    rw [if_pos hc]
    have hc2 : (s.length : Int) = 0 := by omega
    simp (disch := first | rfl | omega | exact lt_new _ | assumption | decide | (simp [tk_here, tk_app, tk_0, tk_S, gr_here, gr_app, gr_0, gr_S] <;> omega) | fail) only [r20_0, r20_1, r20_2, r20_3, r20_4, r20_5, r20_6, r20_7, r20_8, r20_9, r20_10, r20_11, r20_12, r20_13, r20_15, r20_16, r20_17, r20_18, r20_19, r20_20, r20_21, r20_22, r20_23, r20_24, r20_26, r20_27, r20_28, r20_30, c20, rs20, gc20, ha2, hb2, hc2, go_sem, ↓reduceIte, Nat.reduceLT, Nat.reduceEqDiff, Nat.reduceAdd, Nat.reduceMul, Nat.reduceSub, Int.reduceAdd, Int.reduceSub, Nat.reduceLeDiff, Int.reduceLT, Int.reduceLE, Int.reduceEq, Int.reduceNeg, Int.reduceToNat]
    repeat' ((first | refine guardB_dec (fun hy => ?_) (fun hy => ?_) | refine guardB_bool (fun hy => ?_) (fun hy => ?_) | refine guardQ_ite (fun hy => ?_) (fun hy => ?_) | refine brQ_dec (fun hy => ?_) (fun hy => ?_) | refine brQ_bool (fun hy => ?_) (fun hy => ?_)) <;> (try simp only [Bool.not_eq_true', Bool.not_eq_false', Bool.and_eq_true, Bool.or_eq_false_iff, decide_eq_true_eq, decide_eq_false_iff_not] at hy) <;> simp (disch := first | rfl | omega | exact lt_new _ | assumption | decide | (simp [tk_here, tk_app, tk_0, tk_S, gr_here, gr_app, gr_0, gr_S] <;> omega) | fail) only [r20_0, r20_1, r20_2, r20_3, r20_4, r20_5, r20_6, r20_7, r20_8, r20_9, r20_10, r20_11, r20_12, r20_13, r20_15, r20_16, r20_17, r20_18, r20_19, r20_20, r20_21, r20_22, r20_23, r20_24, r20_26, r20_27, r20_28, r20_30, c20, rs20, gc20, ha2, hb2, hc2, go_sem, ↓reduceIte, Nat.reduceLT, Nat.reduceEqDiff, Nat.reduceAdd, Nat.reduceMul, Nat.reduceSub, Int.reduceAdd, Int.reduceSub, Nat.reduceLeDiff, Int.reduceLT, Int.reduceLE, Int.reduceEq, Int.reduceNeg, Int.reduceToNat, hy])
    all_goals (try ((first | refine finQ_same ?_ | refine finQ_app ?_ | (rw [List.append_assoc]; refine finQ_app ?_)) <;> simp (disch := first | rfl | omega | exact lt_new _ | assumption | decide | (simp [tk_here, tk_app, tk_0, tk_S, gr_here, gr_app, gr_0, gr_S] <;> omega) | fail) only [go_sem, ↓reduceIte, Nat.reduceLT, Nat.reduceEqDiff, Nat.reduceAdd, Nat.reduceMul, Nat.reduceSub, Int.reduceAdd, Int.reduceSub, Nat.reduceLeDiff, Int.reduceLT, Int.reduceLE, Int.reduceEq, Int.reduceNeg, Int.reduceToNat, List.append_assoc, List.cons_append, List.nil_append, *]))
    all_goals (try first | rfl | (simp [*]; done) | grind)
  rw [if_neg hc]
  have hc2 : ¬ (s.length : Int) = 0 := by omega
  by_cases hd : w < 1
  case pos =>
    rw [if_pos (.inl hd)]
    simp (disch := first | rfl | omega | exact lt_new _ | assumption | decide | (simp [tk_here, tk_app, tk_0, tk_S, gr_here, gr_app, gr_0, gr_S] <;> omega) | fail) only [r20_0, r20_1, r20_2, r20_3, r20_4, r20_5, r20_6, r20_7, r20_8, r20_9, r20_10, r20_11, r20_12, r20_13, r20_15, r20_16, r20_17, r20_18, r20_19, r20_20, r20_21, r20_22, r20_23, r20_24, r20_26, r20_27, r20_28, r20_30, c20, rs20, gc20, ha2, hb2, hc2, hd, go_sem, ↓reduceIte, Nat.reduceLT, Nat.reduceEqDiff, Nat.reduceAdd, Nat.reduceMul, Nat.reduceSub, Int.reduceAdd, Int.reduceSub, Nat.reduceLeDiff, Int.reduceLT, Int.reduceLE, Int.reduceEq, Int.reduceNeg, Int.reduceToNat]
    repeat' ((first | refine guardB_dec (fun hy => ?_) (fun hy => ?_) | refine guardB_bool (fun hy => ?_) (fun hy => ?_) | refine guardQ_ite (fun hy => ?_) (fun hy => ?_) | refine brQ_dec (fun hy => ?_) (fun hy => ?_) | refine brQ_bool (fun hy => ?_) (fun hy => ?_)) <;> (try simp only [Bool.not_eq_true', Bool.not_eq_false', Bool.and_eq_true, Bool.or_eq_false_iff, decide_eq_true_eq, decide_eq_false_iff_not] at hy) <;> simp (disch := first | rfl | omega | exact lt_new _ | assumption | decide | (simp [tk_here, tk_app, tk_0, tk_S, gr_here, gr_app, gr_0, gr_S] <;> omega) | fail) only [r20_0, r20_1, r20_2, r20_3, r20_4, r20_5, r20_6, r20_7, r20_8, r20_9, r20_10, r20_11, r20_12, r20_13, r20_15, r20_16, r20_17, r20_18, r20_19, r20_20, r20_21, r20_22, r20_23, r20_24, r20_26, r20_27, r20_28, r20_30, c20, rs20, gc20, ha2, hb2, hc2, hd, go_sem, ↓reduceIte, Nat.reduceLT, Nat.reduceEqDiff, Nat.reduceAdd, Nat.reduceMul, Nat.reduceSub, Int.reduceAdd, Int.reduceSub, Nat.reduceLeDiff, Int.reduceLT, Int.reduceLE, Int.reduceEq, Int.reduceNeg, Int.reduceToNat, hy])
    all_goals (try ((first | refine finQ_same ?_ | refine finQ_app ?_ | (rw [List.append_assoc]; refine finQ_app ?_)) <;> simp (disch := first | rfl | omega | exact lt_new _ | assumption | decide | (simp [tk_here, tk_app, tk_0, tk_S, gr_here, gr_app, gr_0, gr_S] <;> omega) | fail) only [go_sem, ↓reduceIte, Nat.reduceLT, Nat.reduceEqDiff, Nat.reduceAdd, Nat.reduceMul, Nat.reduceSub, Int.reduceAdd, Int.reduceSub, Nat.reduceLeDiff, Int.reduceLT, Int.reduceLE, Int.reduceEq, Int.reduceNeg, Int.reduceToNat, List.append_assoc, List.cons_append, List.nil_append, *]))
    all_goals (try first | rfl | (simp [*]; done) | grind)
  have hts : s.length = t.length := by omega
  simp (disch := first | rfl | omega | exact lt_new _ | assumption | decide | (simp [tk_here, tk_app, tk_0, tk_S, gr_here, gr_app, gr_0, gr_S] <;> omega) | fail) only [r20_0, r20_1, r20_2, r20_3, r20_4, r20_5, r20_6, r20_7, r20_8, r20_9, r20_10, r20_11, r20_12, r20_13, r20_15, r20_16, r20_17, r20_18, r20_19, r20_20, r20_21, r20_22, r20_23, r20_24, r20_26, r20_27, r20_28, r20_30, c20, rs20, gc20, ha2, hb2, hc2, hd, go_sem, ↓reduceIte, Nat.reduceLT, Nat.reduceEqDiff, Nat.reduceAdd, Nat.reduceMul, Nat.reduceSub, Int.reduceAdd, Int.reduceSub, Nat.reduceLeDiff, Int.reduceLT, Int.reduceLE, Int.reduceEq, Int.reduceNeg, Int.reduceToNat]
  repeat' ((first | refine guardB_dec (fun hy => ?_) (fun hy => ?_) | refine guardB_bool (fun hy => ?_) (fun hy => ?_) | refine guardQ_ite (fun hy => ?_) (fun hy => ?_) | refine brQ_dec (fun hy => ?_) (fun hy => ?_) | refine brQ_bool (fun hy => ?_) (fun hy => ?_)) <;> (try simp only [Bool.not_eq_true', Bool.not_eq_false', Bool.and_eq_true, Bool.or_eq_false_iff, decide_eq_true_eq, decide_eq_false_iff_not] at hy) <;> simp (disch := first | rfl | omega | exact lt_new _ | assumption | decide | (simp [tk_here, tk_app, tk_0, tk_S, gr_here, gr_app, gr_0, gr_S] <;> omega) | fail) only [r20_0, r20_1, r20_2, r20_3, r20_4, r20_5, r20_6, r20_7, r20_8, r20_9, r20_10, r20_11, r20_12, r20_13, r20_15, r20_16, r20_17, r20_18, r20_19, r20_20, r20_21, r20_22, r20_23, r20_24, r20_26, r20_27, r20_28, r20_30, c20, rs20, gc20, ha2, hb2, hc2, hd, go_sem, ↓reduceIte, Nat.reduceLT, Nat.reduceEqDiff, Nat.reduceAdd, Nat.reduceMul, Nat.reduceSub, Int.reduceAdd, Int.reduceSub, Nat.reduceLeDiff, Int.reduceLT, Int.reduceLE, Int.reduceEq, Int.reduceNeg, Int.reduceToNat, hy])
  refine Wp_loop (fun m T D H' => ∃ i, m = t.length - i ∧ i ≤ t.length ∧ D = [] ∧ H' = H ∧ get T 0 = slV bt inE t ∧ get T 1 = slV bs inE s ∧ get T 2 = .int .i64 w ∧ get T 9 = .int .i64 i ∧ (∀ j < i, okT (inE.at t j) = true ∧ badS (inE.at s j) = false)) ?_ t.length _ _ _ ?_
  case refine_2 => exact ⟨0, by simp (disch := first | rfl | omega | exact lt_new _ | assumption | decide | (simp [tk_here, tk_app, tk_0, tk_S, gr_here, gr_app, gr_0, gr_S] <;> omega) | fail) only [go_sem, ↓reduceIte, Nat.reduceLT, Nat.reduceEqDiff, Nat.reduceAdd, Nat.reduceMul, Nat.reduceSub, Int.reduceAdd, Int.reduceSub, Nat.reduceLeDiff, Int.reduceLT, Int.reduceLE, Int.reduceEq, Int.reduceNeg, Int.reduceToNat]; simp⟩
  rintro m T D H' ⟨i, rfl, hi, rfl, rfl, t0, t1, t2, t9, hall⟩
  by_cases hlt : i < t.length
  · have hlt' : (i : Int) < s.length := by omega
    by_cases hq : okT (inE.at t i) = true
    · by_cases hr : badS (inE.at s i) = true
      · rw [if_pos (.inr (.inr (iany_at (by omega) hr)))]
        by_cases hr0 : inE.at s i < 0
        · skip
          simp (disch := first | rfl | omega | exact lt_new _ | assumption | decide | (simp [tk_here, tk_app, tk_0, tk_S, gr_here, gr_app, gr_0, gr_S] <;> omega) | fail) only [l20_14, r20_10, r20_11, r20_12, rs20, gc20, t0, t1, t2, t9, ha2, hlt', h58, hq, hr0, go_sem, ↓reduceIte, Nat.reduceLT, Nat.reduceEqDiff, Nat.reduceAdd, Nat.reduceMul, Nat.reduceSub, Int.reduceAdd, Int.reduceSub, Nat.reduceLeDiff, Int.reduceLT, Int.reduceLE, Int.reduceEq, Int.reduceNeg, Int.reduceToNat]
          repeat' ((first | refine guardB_dec (fun hy => ?_) (fun hy => ?_) | refine guardB_bool (fun hy => ?_) (fun hy => ?_) | refine guardQ_ite (fun hy => ?_) (fun hy => ?_) | refine brQ_dec (fun hy => ?_) (fun hy => ?_) | refine brQ_bool (fun hy => ?_) (fun hy => ?_)) <;> (try simp only [Bool.not_eq_true', Bool.not_eq_false', Bool.and_eq_true, Bool.or_eq_false_iff, decide_eq_true_eq, decide_eq_false_iff_not] at hy) <;> simp (disch := first | rfl | omega | exact lt_new _ | assumption | decide | (simp [tk_here, tk_app, tk_0, tk_S, gr_here, gr_app, gr_0, gr_S] <;> omega) | fail) only [l20_14, r20_10, r20_11, r20_12, rs20, gc20, t0, t1, t2, t9, ha2, hlt', h58, hq, hr0, go_sem, ↓reduceIte, Nat.reduceLT, Nat.reduceEqDiff, Nat.reduceAdd, Nat.reduceMul, Nat.reduceSub, Int.reduceAdd, Int.reduceSub, Nat.reduceLeDiff, Int.reduceLT, Int.reduceLE, Int.reduceEq, Int.reduceNeg, Int.reduceToNat, hy])
          all_goals (try ((first | refine finQ_same ?_ | refine finQ_app ?_ | (rw [List.append_assoc]; refine finQ_app ?_)) <;> simp (disch := first | rfl | omega | exact lt_new _ | assumption | decide | (simp [tk_here, tk_app, tk_0, tk_S, gr_here, gr_app, gr_0, gr_S] <;> omega) | fail) only [go_sem, ↓reduceIte, Nat.reduceLT, Nat.reduceEqDiff, Nat.reduceAdd, Nat.reduceMul, Nat.reduceSub, Int.reduceAdd, Int.reduceSub, Nat.reduceLeDiff, Int.reduceLT, Int.reduceLE, Int.reduceEq, Int.reduceNeg, Int.reduceToNat, List.append_assoc, List.cons_append, List.nil_append, *]))
          all_goals (try first | rfl | (simp [*]; done) | grind)
        · have hr1 : (1000000 : Int) < inE.at s i := by simp [badS] at hr; omega
          simp (disch := first | rfl | omega | exact lt_new _ | assumption | decide | (simp [tk_here, tk_app, tk_0, tk_S, gr_here, gr_app, gr_0, gr_S] <;> omega) | fail) only [l20_14, r20_10, r20_11, r20_12, rs20, gc20, t0, t1, t2, t9, ha2, hlt', h58, hq, hr0, hr1, go_sem, ↓reduceIte, Nat.reduceLT, Nat.reduceEqDiff, Nat.reduceAdd, Nat.reduceMul, Nat.reduceSub, Int.reduceAdd, Int.reduceSub, Nat.reduceLeDiff, Int.reduceLT, Int.reduceLE, Int.reduceEq, Int.reduceNeg, Int.reduceToNat]
          repeat' ((first | refine guardB_dec (fun hy => ?_) (fun hy => ?_) | refine guardB_bool (fun hy => ?_) (fun hy => ?_) | refine guardQ_ite (fun hy => ?_) (fun hy => ?_) | refine brQ_dec (fun hy => ?_) (fun hy => ?_) | refine brQ_bool (fun hy => ?_) (fun hy => ?_)) <;> (try simp only [Bool.not_eq_true', Bool.not_eq_false', Bool.and_eq_true, Bool.or_eq_false_iff, decide_eq_true_eq, decide_eq_false_iff_not] at hy) <;> simp (disch := first | rfl | omega | exact lt_new _ | assumption | decide | (simp [tk_here, tk_app, tk_0, tk_S, gr_here, gr_app, gr_0, gr_S] <;> omega) | fail) only [l20_14, r20_10, r20_11, r20_12, rs20, gc20, t0, t1, t2, t9, ha2, hlt', h58, hq, hr0, hr1, go_sem, ↓reduceIte, Nat.reduceLT, Nat.reduceEqDiff, Nat.reduceAdd, Nat.reduceMul, Nat.reduceSub, Int.reduceAdd, Int.reduceSub, Nat.reduceLeDiff, Int.reduceLT, Int.reduceLE, Int.reduceEq, Int.reduceNeg, Int.reduceToNat, hy])
          all_goals (try ((first | refine finQ_same ?_ | refine finQ_app ?_ | (rw [List.append_assoc]; refine finQ_app ?_)) <;> simp (disch := first | rfl | omega | exact lt_new _ | assumption | decide | (simp [tk_here, tk_app, tk_0, tk_S, gr_here, gr_app, gr_0, gr_S] <;> omega) | fail) only [go_sem, ↓reduceIte, Nat.reduceLT, Nat.reduceEqDiff, Nat.reduceAdd, Nat.reduceMul, Nat.reduceSub, Int.reduceAdd, Int.reduceSub, Nat.reduceLeDiff, Int.reduceLT, Int.reduceLE, Int.reduceEq, Int.reduceNeg, Int.reduceToNat, List.append_assoc, List.cons_append, List.nil_append, *]))
          all_goals (try first | rfl | (simp [*]; done) | grind)
      · rw [Bool.not_eq_true] at hr
        have hr0 : ¬ inE.at s i < 0 := by simp [badS] at hr; omega
        have hr1 : ¬ (1000000 : Int) < inE.at s i := by simp [badS] at hr; omega
        simp (disch := first | rfl | omega | exact lt_new _ | assumption | decide | (simp [tk_here, tk_app, tk_0, tk_S, gr_here, gr_app, gr_0, gr_S] <;> omega) | fail) only [l20_14, r20_10, r20_11, r20_13, t0, t1, t2, t9, ha2, hlt', h58, hq, hr0, hr1, go_sem, ↓reduceIte, Nat.reduceLT, Nat.reduceEqDiff, Nat.reduceAdd, Nat.reduceMul, Nat.reduceSub, Int.reduceAdd, Int.reduceSub, Nat.reduceLeDiff, Int.reduceLT, Int.reduceLE, Int.reduceEq, Int.reduceNeg, Int.reduceToNat]
        repeat' ((first | refine guardB_dec (fun hy => ?_) (fun hy => ?_) | refine guardB_bool (fun hy => ?_) (fun hy => ?_) | refine guardQ_ite (fun hy => ?_) (fun hy => ?_) | refine brQ_dec (fun hy => ?_) (fun hy => ?_) | refine brQ_bool (fun hy => ?_) (fun hy => ?_)) <;> (try simp only [Bool.not_eq_true', Bool.not_eq_false', Bool.and_eq_true, Bool.or_eq_false_iff, decide_eq_true_eq, decide_eq_false_iff_not] at hy) <;> simp (disch := first | rfl | omega | exact lt_new _ | assumption | decide | (simp [tk_here, tk_app, tk_0, tk_S, gr_here, gr_app, gr_0, gr_S] <;> omega) | fail) only [l20_14, r20_10, r20_11, r20_13, t0, t1, t2, t9, ha2, hlt', h58, hq, hr0, hr1, go_sem, ↓reduceIte, Nat.reduceLT, Nat.reduceEqDiff, Nat.reduceAdd, Nat.reduceMul, Nat.reduceSub, Int.reduceAdd, Int.reduceSub, Nat.reduceLeDiff, Int.reduceLT, Int.reduceLE, Int.reduceEq, Int.reduceNeg, Int.reduceToNat, hy])
        refine ⟨_, by omega, i + 1, rfl, hlt, rfl, fun j hj => ?_⟩
        by_cases e : j = i
        · subst e; exact ⟨hq, hr⟩
        · exact hall j (by omega)
    · rw [Bool.not_eq_true] at hq
      rw [if_pos (.inr (.inl (iany_at hlt (by simp [hq]))))]
      simp (disch := first | rfl | omega | exact lt_new _ | assumption | decide | (simp [tk_here, tk_app, tk_0, tk_S, gr_here, gr_app, gr_0, gr_S] <;> omega) | fail) only [l20_14, r20_10, r20_11, r20_12, rs20, gc20, t0, t1, t2, t9, ha2, hlt', h58, hq, go_sem, ↓reduceIte, Nat.reduceLT, Nat.reduceEqDiff, Nat.reduceAdd, Nat.reduceMul, Nat.reduceSub, Int.reduceAdd, Int.reduceSub, Nat.reduceLeDiff, Int.reduceLT, Int.reduceLE, Int.reduceEq, Int.reduceNeg, Int.reduceToNat]
      repeat' ((first | refine guardB_dec (fun hy => ?_) (fun hy => ?_) | refine guardB_bool (fun hy => ?_) (fun hy => ?_) | refine guardQ_ite (fun hy => ?_) (fun hy => ?_) | refine brQ_dec (fun hy => ?_) (fun hy => ?_) | refine brQ_bool (fun hy => ?_) (fun hy => ?_)) <;> (try simp only [Bool.not_eq_true', Bool.not_eq_false', Bool.and_eq_true, Bool.or_eq_false_iff, decide_eq_true_eq, decide_eq_false_iff_not] at hy) <;> simp (disch := first | rfl | omega | exact lt_new _ | assumption | decide | (simp [tk_here, tk_app, tk_0, tk_S, gr_here, gr_app, gr_0, gr_S] <;> omega) | fail) only [l20_14, r20_10, r20_11, r20_12, rs20, gc20, t0, t1, t2, t9, ha2, hlt', h58, hq, go_sem, ↓reduceIte, Nat.reduceLT, Nat.reduceEqDiff, Nat.reduceAdd, Nat.reduceMul, Nat.reduceSub, Int.reduceAdd, Int.reduceSub, Nat.reduceLeDiff, Int.reduceLT, Int.reduceLE, Int.reduceEq, Int.reduceNeg, Int.reduceToNat, hy])
      all_goals (try ((first | refine finQ_same ?_ | refine finQ_app ?_ | (rw [List.append_assoc]; refine finQ_app ?_)) <;> simp (disch := first | rfl | omega | exact lt_new _ | assumption | decide | (simp [tk_here, tk_app, tk_0, tk_S, gr_here, gr_app, gr_0, gr_S] <;> omega) | fail) only [go_sem, ↓reduceIte, Nat.reduceLT, Nat.reduceEqDiff, Nat.reduceAdd, Nat.reduceMul, Nat.reduceSub, Int.reduceAdd, Int.reduceSub, Nat.reduceLeDiff, Int.reduceLT, Int.reduceLE, Int.reduceEq, Int.reduceNeg, Int.reduceToNat, List.append_assoc, List.cons_append, List.nil_append, *]))
      all_goals (try first | rfl | (simp [*]; done) | grind)
  obtain rfl : i = t.length := by omega
  have c5 : (t.any fun n => !okT n) = false := iany_no fun j hj => by simp [(hall j hj).1]
  have c6 : s.any badS = false := iany_no fun j hj => (hall j (by omega)).2
  clear hall
  rw [if_neg (by simp [c5, c6, hd])]
  have hsb : ∀ j < s.length, 0 ≤ inE.at s j ∧ inE.at s j ≤ 1000000 := fun j hj => badS_at c6 hj
  have htb : ∀ j < t.length, 0 ≤ inE.at t j ∧ inE.at t j ≤ 1000000000000000 := fun j hj => okT_at (by simp [c5]) hj
  have hwb := fun x => wsum_b (t := t) (w := w) (x := x) hsb
  obtain ⟨f, hf⟩ : ∃ f : Int → Int, (fun x => wsum t s w x t.length) = f := ⟨_, rfl⟩
  have hfx : ∀ x, wsum t s w x t.length = f x := fun x => congrFun hf x
  rw [hf]
  simp (disch := first | rfl | omega | exact lt_new _ | assumption | decide | (simp [tk_here, tk_app, tk_0, tk_S, gr_here, gr_app, gr_0, gr_S] <;> omega) | fail) only [l20_14, r20_10, r20_15, r20_16, t0, t1, t2, t9, ha2, Int.lt_irrefl, go_sem, ↓reduceIte, Nat.reduceLT, Nat.reduceEqDiff, Nat.reduceAdd, Nat.reduceMul, Nat.reduceSub, Int.reduceAdd, Int.reduceSub, Nat.reduceLeDiff, Int.reduceLT, Int.reduceLE, Int.reduceEq, Int.reduceNeg, Int.reduceToNat]
  repeat' ((first | refine guardB_dec (fun hy => ?_) (fun hy => ?_) | refine guardB_bool (fun hy => ?_) (fun hy => ?_) | refine guardQ_ite (fun hy => ?_) (fun hy => ?_) | refine brQ_dec (fun hy => ?_) (fun hy => ?_) | refine brQ_bool (fun hy => ?_) (fun hy => ?_)) <;> (try simp only [Bool.not_eq_true', Bool.not_eq_false', Bool.and_eq_true, Bool.or_eq_false_iff, decide_eq_true_eq, decide_eq_false_iff_not] at hy) <;> simp (disch := first | rfl | omega | exact lt_new _ | assumption | decide | (simp [tk_here, tk_app, tk_0, tk_S, gr_here, gr_app, gr_0, gr_S] <;> omega) | fail) only [l20_14, r20_10, r20_15, r20_16, t0, t1, t2, t9, ha2, Int.lt_irrefl, go_sem, ↓reduceIte, Nat.reduceLT, Nat.reduceEqDiff, Nat.reduceAdd, Nat.reduceMul, Nat.reduceSub, Int.reduceAdd, Int.reduceSub, Nat.reduceLeDiff, Int.reduceLT, Int.reduceLE, Int.reduceEq, Int.reduceNeg, Int.reduceToNat, hy])
  refine Wp_loop (fun m T D H1 => ∃ k, m = t.length - k ∧ k ≤ t.length ∧ D = [] ∧ H1 = H' ∧ get T 0 = slV bt inE t ∧ get T 1 = slV bs inE s ∧ get T 2 = .int .i64 w ∧ get T 12 = .int .i64 k ∧ get T 10 = .int .i64 (bstR f t k).1 ∧ get T 11 = .int .i64 (bstR f t k).2) ?_ t.length _ _ _ ?_
  case refine_2 => exact ⟨0, by simp (disch := first | rfl | omega | exact lt_new _ | assumption | decide | (simp [tk_here, tk_app, tk_0, tk_S, gr_here, gr_app, gr_0, gr_S] <;> omega) | fail) only [go_sem, ↓reduceIte, Nat.reduceLT, Nat.reduceEqDiff, Nat.reduceAdd, Nat.reduceMul, Nat.reduceSub, Int.reduceAdd, Int.reduceSub, Nat.reduceLeDiff, Int.reduceLT, Int.reduceLE, Int.reduceEq, Int.reduceNeg, Int.reduceToNat, t0, t1, t2, bstR]; simp⟩
  clear t0 t1 t2 t9
  rintro m T D H' ⟨k, rfl, hk, rfl, rfl, t0, t1, t2, t12, t10, t11⟩
  by_cases hlt : k < t.length
  · have hlt' : (k : Int) < s.length := by omega
    obtain ⟨tk1, tk2⟩ := htb k hlt
    simp (disch := first | rfl | omega | exact lt_new _ | assumption | decide | (simp [tk_here, tk_app, tk_0, tk_S, gr_here, gr_app, gr_0, gr_S] <;> omega) | fail) only [l20_29, r20_17, r20_18, r20_19, t0, t1, t2, t12, t10, t11, ha2, hlt', go_sem, ↓reduceIte, Nat.reduceLT, Nat.reduceEqDiff, Nat.reduceAdd, Nat.reduceMul, Nat.reduceSub, Int.reduceAdd, Int.reduceSub, Nat.reduceLeDiff, Int.reduceLT, Int.reduceLE, Int.reduceEq, Int.reduceNeg, Int.reduceToNat]
    repeat' ((first | refine guardB_dec (fun hy => ?_) (fun hy => ?_) | refine guardB_bool (fun hy => ?_) (fun hy => ?_) | refine guardQ_ite (fun hy => ?_) (fun hy => ?_) | refine brQ_dec (fun hy => ?_) (fun hy => ?_) | refine brQ_bool (fun hy => ?_) (fun hy => ?_)) <;> (try simp only [Bool.not_eq_true', Bool.not_eq_false', Bool.and_eq_true, Bool.or_eq_false_iff, decide_eq_true_eq, decide_eq_false_iff_not] at hy) <;> simp (disch := first | rfl | omega | exact lt_new _ | assumption | decide | (simp [tk_here, tk_app, tk_0, tk_S, gr_here, gr_app, gr_0, gr_S] <;> omega) | fail) only [l20_29, r20_17, r20_18, r20_19, t0, t1, t2, t12, t10, t11, ha2, hlt', go_sem, ↓reduceIte, Nat.reduceLT, Nat.reduceEqDiff, Nat.reduceAdd, Nat.reduceMul, Nat.reduceSub, Int.reduceAdd, Int.reduceSub, Nat.reduceLeDiff, Int.reduceLT, Int.reduceLE, Int.reduceEq, Int.reduceNeg, Int.reduceToNat, hy])
    refine Wp_loop (fun m T D H2 => ∃ j, m = t.length - j ∧ j ≤ t.length ∧ D = [] ∧ H2 = H' ∧ get T 0 = slV bt inE t ∧ get T 1 = slV bs inE s ∧ get T 2 = .int .i64 w ∧ get T 12 = .int .i64 k ∧ get T 10 = .int .i64 (bstR f t k).1 ∧ get T 11 = .int .i64 (bstR f t k).2 ∧ get T 14 = .int .i64 j ∧ get T 13 = .int .i64 (wsum t s w (inE.at t k) j)) ?_ t.length _ _ _ ?_
    case refine_2 => exact ⟨0, by simp (disch := first | rfl | omega | exact lt_new _ | assumption | decide | (simp [tk_here, tk_app, tk_0, tk_S, gr_here, gr_app, gr_0, gr_S] <;> omega) | fail) only [go_sem, ↓reduceIte, Nat.reduceLT, Nat.reduceEqDiff, Nat.reduceAdd, Nat.reduceMul, Nat.reduceSub, Int.reduceAdd, Int.reduceSub, Nat.reduceLeDiff, Int.reduceLT, Int.reduceLE, Int.reduceEq, Int.reduceNeg, Int.reduceToNat, t0, t1, t2, t12, t10, t11, wsum]; simp⟩
    clear t0 t1 t2 t12 t10 t11
    rintro m T D H' ⟨j, rfl, hj, rfl, rfl, t0, t1, t2, t12, t10, t11, t14, t13⟩
    by_cases hjt : j < t.length
    · have hjt' : (j : Int) < s.length := by omega
      obtain ⟨tj1, tj2⟩ := htb j hjt
      obtain ⟨sj1, sj2⟩ := hsb j (by omega)
      have hwj := hwb (inE.at t k) j (by omega)
      have hw1 : wsum t s w (inE.at t k) (j + 1) = if inE.at t j ≥ inE.at t k ∧ inE.at t j - inE.at t k < w then wsum t s w (inE.at t k) j + inE.at s j else wsum t s w (inE.at t k) j := rfl
      by_cases q1 : 0 ≤ inE.at t j - inE.at t k
      · by_cases q2 : inE.at t j - inE.at t k < w
        · rw [if_pos ⟨by omega, q2⟩] at hw1
          simp (disch := first | rfl | omega | exact lt_new _ | assumption | decide | (simp [tk_here, tk_app, tk_0, tk_S, gr_here, gr_app, gr_0, gr_S] <;> omega) | fail) only [l20_25, r20_20, r20_21, r20_22, r20_23, r20_24, t0, t1, t2, t12, t10, t11, t14, t13, ha2, hlt', hjt', q1, q2, go_sem, ↓reduceIte, Nat.reduceLT, Nat.reduceEqDiff, Nat.reduceAdd, Nat.reduceMul, Nat.reduceSub, Int.reduceAdd, Int.reduceSub, Nat.reduceLeDiff, Int.reduceLT, Int.reduceLE, Int.reduceEq, Int.reduceNeg, Int.reduceToNat]
          repeat' ((first | refine guardB_dec (fun hy => ?_) (fun hy => ?_) | refine guardB_bool (fun hy => ?_) (fun hy => ?_) | refine guardQ_ite (fun hy => ?_) (fun hy => ?_) | refine brQ_dec (fun hy => ?_) (fun hy => ?_) | refine brQ_bool (fun hy => ?_) (fun hy => ?_)) <;> (try simp only [Bool.not_eq_true', Bool.not_eq_false', Bool.and_eq_true, Bool.or_eq_false_iff, decide_eq_true_eq, decide_eq_false_iff_not] at hy) <;> simp (disch := first | rfl | omega | exact lt_new _ | assumption | decide | (simp [tk_here, tk_app, tk_0, tk_S, gr_here, gr_app, gr_0, gr_S] <;> omega) | fail) only [l20_25, r20_20, r20_21, r20_22, r20_23, r20_24, t0, t1, t2, t12, t10, t11, t14, t13, ha2, hlt', hjt', q1, q2, go_sem, ↓reduceIte, Nat.reduceLT, Nat.reduceEqDiff, Nat.reduceAdd, Nat.reduceMul, Nat.reduceSub, Int.reduceAdd, Int.reduceSub, Nat.reduceLeDiff, Int.reduceLT, Int.reduceLE, Int.reduceEq, Int.reduceNeg, Int.reduceToNat, hy])
          exact ⟨_, by omega, j + 1, rfl, hjt, rfl, by rw [hw1]⟩
        · rw [if_neg (fun z => q2 z.2)] at hw1
          simp (disch := first | rfl | omega | exact lt_new _ | assumption | decide | (simp [tk_here, tk_app, tk_0, tk_S, gr_here, gr_app, gr_0, gr_S] <;> omega) | fail) only [l20_25, r20_20, r20_21, r20_22, r20_24, t0, t1, t2, t12, t10, t11, t14, t13, ha2, hlt', hjt', q1, q2, go_sem, ↓reduceIte, Nat.reduceLT, Nat.reduceEqDiff, Nat.reduceAdd, Nat.reduceMul, Nat.reduceSub, Int.reduceAdd, Int.reduceSub, Nat.reduceLeDiff, Int.reduceLT, Int.reduceLE, Int.reduceEq, Int.reduceNeg, Int.reduceToNat]
          repeat' ((first | refine guardB_dec (fun hy => ?_) (fun hy => ?_) | refine guardB_bool (fun hy => ?_) (fun hy => ?_) | refine guardQ_ite (fun hy => ?_) (fun hy => ?_) | refine brQ_dec (fun hy => ?_) (fun hy => ?_) | refine brQ_bool (fun hy => ?_) (fun hy => ?_)) <;> (try simp only [Bool.not_eq_true', Bool.not_eq_false', Bool.and_eq_true, Bool.or_eq_false_iff, decide_eq_true_eq, decide_eq_false_iff_not] at hy) <;> simp (disch := first | rfl | omega | exact lt_new _ | assumption | decide | (simp [tk_here, tk_app, tk_0, tk_S, gr_here, gr_app, gr_0, gr_S] <;> omega) | fail) only [l20_25, r20_20, r20_21, r20_22, r20_24, t0, t1, t2, t12, t10, t11, t14, t13, ha2, hlt', hjt', q1, q2, go_sem, ↓reduceIte, Nat.reduceLT, Nat.reduceEqDiff, Nat.reduceAdd, Nat.reduceMul, Nat.reduceSub, Int.reduceAdd, Int.reduceSub, Nat.reduceLeDiff, Int.reduceLT, Int.reduceLE, Int.reduceEq, Int.reduceNeg, Int.reduceToNat, hy])
          exact ⟨_, by omega, j + 1, rfl, hjt, rfl, by rw [hw1]⟩
      · rw [if_neg (fun z => q1 (by omega))] at hw1
        simp (disch := first | rfl | omega | exact lt_new _ | assumption | decide | (simp [tk_here, tk_app, tk_0, tk_S, gr_here, gr_app, gr_0, gr_S] <;> omega) | fail) only [l20_25, r20_20, r20_21, r20_22, r20_24, t0, t1, t2, t12, t10, t11, t14, t13, ha2, hlt', hjt', q1, go_sem, ↓reduceIte, Nat.reduceLT, Nat.reduceEqDiff, Nat.reduceAdd, Nat.reduceMul, Nat.reduceSub, Int.reduceAdd, Int.reduceSub, Nat.reduceLeDiff, Int.reduceLT, Int.reduceLE, Int.reduceEq, Int.reduceNeg, Int.reduceToNat]
        repeat' ((first | refine guardB_dec (fun hy => ?_) (fun hy => ?_) | refine guardB_bool (fun hy => ?_) (fun hy => ?_) | refine guardQ_ite (fun hy => ?_) (fun hy => ?_) | refine brQ_dec (fun hy => ?_) (fun hy => ?_) | refine brQ_bool (fun hy => ?_) (fun hy => ?_)) <;> (try simp only [Bool.not_eq_true', Bool.not_eq_false', Bool.and_eq_true, Bool.or_eq_false_iff, decide_eq_true_eq, decide_eq_false_iff_not] at hy) <;> simp (disch := first | rfl | omega | exact lt_new _ | assumption | decide | (simp [tk_here, tk_app, tk_0, tk_S, gr_here, gr_app, gr_0, gr_S] <;> omega) | fail) only [l20_25, r20_20, r20_21, r20_22, r20_24, t0, t1, t2, t12, t10, t11, t14, t13, ha2, hlt', hjt', q1, go_sem, ↓reduceIte, Nat.reduceLT, Nat.reduceEqDiff, Nat.reduceAdd, Nat.reduceMul, Nat.reduceSub, Int.reduceAdd, Int.reduceSub, Nat.reduceLeDiff, Int.reduceLT, Int.reduceLE, Int.reduceEq, Int.reduceNeg, Int.reduceToNat, hy])
        exact ⟨_, by omega, j + 1, rfl, hjt, rfl, by rw [hw1]⟩
    · obtain rfl : j = t.length := by omega
      rw [hfx] at t13
      have hb1 : bstR f t (k + 1) = if f (inE.at t k) > (bstR f t k).1 ∨ f (inE.at t k) = (bstR f t k).1 ∧ inE.at t k < (bstR f t k).2 then (f (inE.at t k), inE.at t k) else bstR f t k := rfl
      by_cases q1 : (bstR f t k).1 < f (inE.at t k)
      · rw [if_pos (.inl q1)] at hb1
        simp (disch := first | rfl | omega | exact lt_new _ | assumption | decide | (simp [tk_here, tk_app, tk_0, tk_S, gr_here, gr_app, gr_0, gr_S] <;> omega) | fail) only [l20_25, r20_20, r20_26, r20_27, r20_28, t0, t1, t2, t12, t10, t11, t14, t13, ha2, hlt', Int.lt_irrefl, q1, go_sem, ↓reduceIte, Nat.reduceLT, Nat.reduceEqDiff, Nat.reduceAdd, Nat.reduceMul, Nat.reduceSub, Int.reduceAdd, Int.reduceSub, Nat.reduceLeDiff, Int.reduceLT, Int.reduceLE, Int.reduceEq, Int.reduceNeg, Int.reduceToNat]
        repeat' ((first | refine guardB_dec (fun hy => ?_) (fun hy => ?_) | refine guardB_bool (fun hy => ?_) (fun hy => ?_) | refine guardQ_ite (fun hy => ?_) (fun hy => ?_) | refine brQ_dec (fun hy => ?_) (fun hy => ?_) | refine brQ_bool (fun hy => ?_) (fun hy => ?_)) <;> (try simp only [Bool.not_eq_true', Bool.not_eq_false', Bool.and_eq_true, Bool.or_eq_false_iff, decide_eq_true_eq, decide_eq_false_iff_not] at hy) <;> simp (disch := first | rfl | omega | exact lt_new _ | assumption | decide | (simp [tk_here, tk_app, tk_0, tk_S, gr_here, gr_app, gr_0, gr_S] <;> omega) | fail) only [l20_25, r20_20, r20_26, r20_27, r20_28, t0, t1, t2, t12, t10, t11, t14, t13, ha2, hlt', Int.lt_irrefl, q1, go_sem, ↓reduceIte, Nat.reduceLT, Nat.reduceEqDiff, Nat.reduceAdd, Nat.reduceMul, Nat.reduceSub, Int.reduceAdd, Int.reduceSub, Nat.reduceLeDiff, Int.reduceLT, Int.reduceLE, Int.reduceEq, Int.reduceNeg, Int.reduceToNat, hy])
        exact ⟨_, by omega, k + 1, rfl, hlt, rfl, by rw [hb1], by rw [hb1]⟩
      · by_cases q2 : f (inE.at t k) = (bstR f t k).1
        · by_cases q3 : inE.at t k < (bstR f t k).2
          · rw [if_pos (.inr ⟨q2, q3⟩)] at hb1
            simp (disch := first | rfl | omega | exact lt_new _ | assumption | decide | (simp [tk_here, tk_app, tk_0, tk_S, gr_here, gr_app, gr_0, gr_S] <;> omega) | fail) only [l20_25, r20_20, r20_26, r20_27, r20_28, t0, t1, t2, t12, t10, t11, t14, t13, ha2, hlt', Int.lt_irrefl, q1, q2, q3, go_sem, ↓reduceIte, Nat.reduceLT, Nat.reduceEqDiff, Nat.reduceAdd, Nat.reduceMul, Nat.reduceSub, Int.reduceAdd, Int.reduceSub, Nat.reduceLeDiff, Int.reduceLT, Int.reduceLE, Int.reduceEq, Int.reduceNeg, Int.reduceToNat]
            repeat' ((first | refine guardB_dec (fun hy => ?_) (fun hy => ?_) | refine guardB_bool (fun hy => ?_) (fun hy => ?_) | refine guardQ_ite (fun hy => ?_) (fun hy => ?_) | refine brQ_dec (fun hy => ?_) (fun hy => ?_) | refine brQ_bool (fun hy => ?_) (fun hy => ?_)) <;> (try simp only [Bool.not_eq_true', Bool.not_eq_false', Bool.and_eq_true, Bool.or_eq_false_iff, decide_eq_true_eq, decide_eq_false_iff_not] at hy) <;> simp (disch := first | rfl | omega | exact lt_new _ | assumption | decide | (simp [tk_here, tk_app, tk_0, tk_S, gr_here, gr_app, gr_0, gr_S] <;> omega) | fail) only [l20_25, r20_20, r20_26, r20_27, r20_28, t0, t1, t2, t12, t10, t11, t14, t13, ha2, hlt', Int.lt_irrefl, q1, q2, q3, go_sem, ↓reduceIte, Nat.reduceLT, Nat.reduceEqDiff, Nat.reduceAdd, Nat.reduceMul, Nat.reduceSub, Int.reduceAdd, Int.reduceSub, Nat.reduceLeDiff, Int.reduceLT, Int.reduceLE, Int.reduceEq, Int.reduceNeg, Int.reduceToNat, hy])
            exact ⟨_, by omega, k + 1, rfl, hlt, rfl, by rw [hb1, q2], by rw [hb1]⟩
          · rw [if_neg (fun z => z.elim (fun y => q1 y) fun y => q3 y.2)] at hb1
            simp (disch := first | rfl | omega | exact lt_new _ | assumption | decide | (simp [tk_here, tk_app, tk_0, tk_S, gr_here, gr_app, gr_0, gr_S] <;> omega) | fail) only [l20_25, r20_20, r20_26, r20_28, t0, t1, t2, t12, t10, t11, t14, t13, ha2, hlt', Int.lt_irrefl, q1, q2, q3, go_sem, ↓reduceIte, Nat.reduceLT, Nat.reduceEqDiff, Nat.reduceAdd, Nat.reduceMul, Nat.reduceSub, Int.reduceAdd, Int.reduceSub, Nat.reduceLeDiff, Int.reduceLT, Int.reduceLE, Int.reduceEq, Int.reduceNeg, Int.reduceToNat]
            repeat' ((first | refine guardB_dec (fun hy => ?_) (fun hy => ?_) | refine guardB_bool (fun hy => ?_) (fun hy => ?_) | refine guardQ_ite (fun hy => ?_) (fun hy => ?_) | refine brQ_dec (fun hy => ?_) (fun hy => ?_) | refine brQ_bool (fun hy => ?_) (fun hy => ?_)) <;> (try simp only [Bool.not_eq_true', Bool.not_eq_false', Bool.and_eq_true, Bool.or_eq_false_iff, decide_eq_true_eq, decide_eq_false_iff_not] at hy) <;> simp (disch := first | rfl | omega | exact lt_new _ | assumption | decide | (simp [tk_here, tk_app, tk_0, tk_S, gr_here, gr_app, gr_0, gr_S] <;> omega) | fail) only [l20_25, r20_20, r20_26, r20_28, t0, t1, t2, t12, t10, t11, t14, t13, ha2, hlt', Int.lt_irrefl, q1, q2, q3, go_sem, ↓reduceIte, Nat.reduceLT, Nat.reduceEqDiff, Nat.reduceAdd, Nat.reduceMul, Nat.reduceSub, Int.reduceAdd, Int.reduceSub, Nat.reduceLeDiff, Int.reduceLT, Int.reduceLE, Int.reduceEq, Int.reduceNeg, Int.reduceToNat, hy])
            exact ⟨_, by omega, k + 1, rfl, hlt, rfl, by rw [hb1], by rw [hb1]⟩
        · rw [if_neg (fun z => z.elim (fun y => q1 y) fun y => q2 y.1)] at hb1
          simp (disch := first | rfl | omega | exact lt_new _ | assumption | decide | (simp [tk_here, tk_app, tk_0, tk_S, gr_here, gr_app, gr_0, gr_S] <;> omega) | fail) only [l20_25, r20_20, r20_26, r20_28, t0, t1, t2, t12, t10, t11, t14, t13, ha2, hlt', Int.lt_irrefl, q1, q2, go_sem, ↓reduceIte, Nat.reduceLT, Nat.reduceEqDiff, Nat.reduceAdd, Nat.reduceMul, Nat.reduceSub, Int.reduceAdd, Int.reduceSub, Nat.reduceLeDiff, Int.reduceLT, Int.reduceLE, Int.reduceEq, Int.reduceNeg, Int.reduceToNat]
          repeat' ((first | refine guardB_dec (fun hy => ?_) (fun hy => ?_) | refine guardB_bool (fun hy => ?_) (fun hy => ?_) | refine guardQ_ite (fun hy => ?_) (fun hy => ?_) | refine brQ_dec (fun hy => ?_) (fun hy => ?_) | refine brQ_bool (fun hy => ?_) (fun hy => ?_)) <;> (try simp only [Bool.not_eq_true', Bool.not_eq_false', Bool.and_eq_true, Bool.or_eq_false_iff, decide_eq_true_eq, decide_eq_false_iff_not] at hy) <;> simp (disch := first | rfl | omega | exact lt_new _ | assumption | decide | (simp [tk_here, tk_app, tk_0, tk_S, gr_here, gr_app, gr_0, gr_S] <;> omega) | fail) only [l20_25, r20_20, r20_26, r20_28, t0, t1, t2, t12, t10, t11, t14, t13, ha2, hlt', Int.lt_irrefl, q1, q2, go_sem, ↓reduceIte, Nat.reduceLT, Nat.reduceEqDiff, Nat.reduceAdd, Nat.reduceMul, Nat.reduceSub, Int.reduceAdd, Int.reduceSub, Nat.reduceLeDiff, Int.reduceLT, Int.reduceLE, Int.reduceEq, Int.reduceNeg, Int.reduceToNat, hy])
          exact ⟨_, by omega, k + 1, rfl, hlt, rfl, by rw [hb1], by rw [hb1]⟩
  · obtain rfl : k = t.length := by omega
    simp (disch := first | rfl | omega | exact lt_new _ | assumption | decide | (simp [tk_here, tk_app, tk_0, tk_S, gr_here, gr_app, gr_0, gr_S] <;> omega) | fail) only [l20_29, r20_17, r20_30, rs20, gc20, t0, t1, t2, t12, t10, t11, ha2, Int.lt_irrefl, go_sem, ↓reduceIte, Nat.reduceLT, Nat.reduceEqDiff, Nat.reduceAdd, Nat.reduceMul, Nat.reduceSub, Int.reduceAdd, Int.reduceSub, Nat.reduceLeDiff, Int.reduceLT, Int.reduceLE, Int.reduceEq, Int.reduceNeg, Int.reduceToNat]
    repeat' ((first | refine guardB_dec (fun hy => ?_) (fun hy => ?_) | refine guardB_bool (fun hy => ?_) (fun hy => ?_) | refine guardQ_ite (fun hy => ?_) (fun hy => ?_) | refine brQ_dec (fun hy => ?_) (fun hy => ?_) | refine brQ_bool (fun hy => ?_) (fun hy => ?_)) <;> (try simp only [Bool.not_eq_true', Bool.not_eq_false', Bool.and_eq_true, Bool.or_eq_false_iff, decide_eq_true_eq, decide_eq_false_iff_not] at hy) <;> simp (disch := first | rfl | omega | exact lt_new _ | assumption | decide | (simp [tk_here, tk_app, tk_0, tk_S, gr_here, gr_app, gr_0, gr_S] <;> omega) | fail) only [l20_29, r20_17, r20_30, rs20, gc20, t0, t1, t2, t12, t10, t11, ha2, Int.lt_irrefl, go_sem, ↓reduceIte, Nat.reduceLT, Nat.reduceEqDiff, Nat.reduceAdd, Nat.reduceMul, Nat.reduceSub, Int.reduceAdd, Int.reduceSub, Nat.reduceLeDiff, Int.reduceLT, Int.reduceLE, Int.reduceEq, Int.reduceNeg, Int.reduceToNat, hy])
    all_goals (try ((first | refine finQ_same ?_ | refine finQ_app ?_ | (rw [List.append_assoc]; refine finQ_app ?_)) <;> simp (disch := first | rfl | omega | exact lt_new _ | assumption | decide | (simp [tk_here, tk_app, tk_0, tk_S, gr_here, gr_app, gr_0, gr_S] <;> omega) | fail) only [go_sem, ↓reduceIte, Nat.reduceLT, Nat.reduceEqDiff, Nat.reduceAdd, Nat.reduceMul, Nat.reduceSub, Int.reduceAdd, Int.reduceSub, Nat.reduceLeDiff, Int.reduceLT, Int.reduceLE, Int.reduceEq, Int.reduceNeg, Int.reduceToNat, List.append_assoc, List.cons_append, List.nil_append, *]))
    all_goals (try first | rfl | (simp [*]; done) | grind)
end Go.Proofs.YteeofpgnjekeaaaGreatDoor
