/-
  Texts of this seat, laid together. No statement of the seat stands here.
-/
import Derived.Test.YteeofpgnjekeaaaGreatDoorP4
/-
  What this seat's program gives to the abstract machine: its types, its functions' code in short form (printed by a tool). No statement of the seat stands here.
-/
namespace Go.Proofs.YteeofpgnjekeaaaGreatDoor
open Go Go.An

abbrev ExP (k n : Nat) (c : Cc) (rs : List ResultVar) : Prop := ∀ {args : List V} {H : Hp} {R : V × Hp → Prop}, args.length ≤ n → Wp Tryz.prog (callL Tryz.prog pr) n c args [] H (RetQ Tryz.prog rs fun v H' => R (pr.gc k H (v, H'))) → ∃ r, callL Tryz.prog pr k args H = some r ∧ R r
abbrev RunP (k n : Nat) (c : Cc) (rs : List ResultVar) : Prop := ∀ {args : List V} {H : Hp} {r : V × Hp}, args.length ≤ n → Wp Tryz.prog (callL Tryz.prog pr) n c args [] H (RetQ Tryz.prog rs fun v H' => pr.gc k H (v, H') = r) → callL Tryz.prog pr k args H = some r
theorem run_of {k n : Nat} {c : Cc} {rs : List ResultVar} (h : ExP k n c rs) : RunP k n c rs := @fun _ _ r ha hw => by
  obtain ⟨_, h1, rfl⟩ := h (R := fun x => x = r) ha hw
  exact h1
abbrev ExPD (k n : Nat) (c : Cc) (rs : List ResultVar) : Prop := ∀ {args : List V} {H : Hp} {R : V × Hp → Prop}, args.length ≤ n → Wp Tryz.prog (callL Tryz.prog pr) n c args [] H (RetD Tryz.prog pr rs fun v H' => R (pr.gc k H (v, H'))) → ∃ r, callL Tryz.prog pr k args H = some r ∧ R r
abbrev RunPD (k n : Nat) (c : Cc) (rs : List ResultVar) : Prop := ∀ {args : List V} {H : Hp} {r : V × Hp}, args.length ≤ n → Wp Tryz.prog (callL Tryz.prog pr) n c args [] H (RetD Tryz.prog pr rs fun v H' => pr.gc k H (v, H') = r) → callL Tryz.prog pr k args H = some r
theorem run_ofD {k n : Nat} {c : Cc} {rs : List ResultVar} (h : ExPD k n c rs) : RunPD k n c rs := @fun _ _ r ha hw => by
  obtain ⟨_, h1, rfl⟩ := h (R := fun x => x = r) ha hw
  exact h1
def rngs : Code → List (Code × Code)
  | .rangeFunc _ _ a b => [(a, b)]
  | .seq a b | .cond _ a b => rngs a ++ rngs b
  | .block _ b | .loop b => rngs b
  | _ => []
theorem gcOne {k : Nat} (h : modeOf k = 1) (H : Hp) (r : V × Hp) : pr.gc k H r = gcF H r := (show pr.gc k H r = gcM modeOf k H r from rfl).trans (gcM_one h H r)
theorem gcZero {k : Nat} (h : modeOf k = 0) (H : Hp) (r : V × Hp) : pr.gc k H r = r := (show pr.gc k H r = gcM modeOf k H r from rfl).trans (gcM_zero h H r)
theorem gcTwo {k : Nat} (h : modeOf k = 2) (H : Hp) (r : V × Hp) : pr.gc k H r = gcC H r := (show pr.gc k H r = gcM modeOf k H r from rfl).trans (gcM_two h H r)
noncomputable section
@[go_sem] theorem u3 : Tryz.prog.underlying 3 = some (.int .i64) := by kernel_rfl
@[go_sem] theorem z3 : szOf Tryz.prog 3 = some 1 := by kernel_rfl
@[go_sem] theorem y3 : bytesOf' Tryz.prog 3 = some 8 := by kernel_rfl
@[go_sem] theorem g3 : aggT Tryz.prog 3 = some false := by kernel_rfl
@[go_sem] theorem o3 : zeroV Tryz.prog 3 = some (.int .i64 0) := by kernel_rfl
@[go_sem] theorem u4 : Tryz.prog.underlying 4 = some (.bool) := by kernel_rfl
@[go_sem] theorem z4 : szOf Tryz.prog 4 = some 1 := by kernel_rfl
@[go_sem] theorem y4 : bytesOf' Tryz.prog 4 = some 1 := by kernel_rfl
@[go_sem] theorem g4 : aggT Tryz.prog 4 = some false := by kernel_rfl
@[go_sem] theorem o4 : zeroV Tryz.prog 4 = some (.bool false) := by kernel_rfl
@[go_sem] theorem u22 : Tryz.prog.underlying 22 = some (.int .i64) := by kernel_rfl
@[go_sem] theorem z22 : szOf Tryz.prog 22 = some 1 := by kernel_rfl
@[go_sem] theorem y22 : bytesOf' Tryz.prog 22 = some 8 := by kernel_rfl
@[go_sem] theorem g22 : aggT Tryz.prog 22 = some false := by kernel_rfl
@[go_sem] theorem o22 : zeroV Tryz.prog 22 = some (.int .i64 0) := by kernel_rfl
@[go_sem] theorem u27 : Tryz.prog.underlying 27 = some (.slice 3) := by kernel_rfl
@[go_sem] theorem z27 : szOf Tryz.prog 27 = some 1 := by kernel_rfl
@[go_sem] theorem y27 : bytesOf' Tryz.prog 27 = some 24 := by kernel_rfl
@[go_sem] theorem g27 : aggT Tryz.prog 27 = some false := by kernel_rfl
@[go_sem] theorem o27 : zeroV Tryz.prog 27 = some .nilslice := by kernel_rfl
theorem s27 : sliceT Tryz.prog 27 1 = true := by kernel_rfl
@[go_sem] theorem i27 {id g off n : Nat} {cp : Cap} {k : IntKind} {j : Int} (hj : 0 ≤ j ∧ j < n) : indexAddrV Tryz.prog 27 (.slice id g off n 1 cp) (.int k j) = some (.ptr id g (off + j.toNat * 1)) := ia_slice (by kernel_rfl) hj
@[go_sem] theorem n27 {H : Hp} (id g off n : Nat) (cp : Cap) : lenV Tryz.prog 27 H (.slice id g off n 1 cp) = some (.int .i64 n) := len_slice (sz := 1) (by kernel_rfl) id g off n 1 cp
@[go_sem] theorem is27 {α : Type} {E : Enc α} {l : List α} {b : Bool} {k : IntKind} {j : Int} (hw : E.w = 1) (hj : 0 ≤ j ∧ j < (l.length : Int)) : indexAddrV Tryz.prog 27 (slV b E l) (.int k j) = some (.ipt (flatE E l) (j.toNat * 1)) := idx_slV s27 hw hj
@[go_sem] theorem ns27 {α : Type} {H : Hp} (b : Bool) (E : Enc α) (l : List α) : lenV Tryz.prog 27 H (slV b E l) = some (.int .i64 l.length) := len_slV s27 b E l
@[go_sem] theorem nb27 {H : Hp} (n g w : Nat) (xs : List (List V)) : lenV Tryz.prog 27 H (blV n g w xs) = some (.int .i64 xs.length) := len_blV s27 n g w xs
@[go_sem] theorem lo27 {H : Hp} (x : V) (hi : Option V) : sliceV Tryz.prog 27 H x none hi = sliceV Tryz.prog 27 H x (some (.int .i64 0)) hi := lo_slV ⟨_, u27⟩
@[go_sem] theorem hi27 {α : Type} {E : Enc α} {l : List α} {b : Bool} {H : Hp} (lo : Option V) : sliceV Tryz.prog 27 H (slV b E l) lo none = sliceV Tryz.prog 27 H (slV b E l) lo (some (.int .i64 l.length)) := hi_slV s27
@[go_sem] theorem ct27 {α : Type} {E : Enc α} {l : List α} {b : Bool} {H : Hp} {k k' : IntKind} {lo hi : Int} (hw : E.w = 1) (h : 0 ≤ lo ∧ lo ≤ hi ∧ hi ≤ (l.length : Int)) : sliceV Tryz.prog 27 H (slV b E l) (some (.int k lo)) (some (.int k' hi)) = some (slV (b && decide (l.length = 0)) E ((l.drop lo.toNat).take (hi.toNat - lo.toNat))) := cut_slV s27 hw h
@[go_sem] theorem m27 {H : Hp} : lenV Tryz.prog 27 H .nilslice = some (.int .i64 0) := len_nilslice (sz := 1) (by kernel_rfl)
@[go_sem] theorem u28 : Tryz.prog.underlying 28 = some (.slice 4) := by kernel_rfl
@[go_sem] theorem z28 : szOf Tryz.prog 28 = some 1 := by kernel_rfl
@[go_sem] theorem y28 : bytesOf' Tryz.prog 28 = some 24 := by kernel_rfl
@[go_sem] theorem g28 : aggT Tryz.prog 28 = some false := by kernel_rfl
@[go_sem] theorem o28 : zeroV Tryz.prog 28 = some .nilslice := by kernel_rfl
theorem s28 : sliceT Tryz.prog 28 1 = true := by kernel_rfl
@[go_sem] theorem i28 {id g off n : Nat} {cp : Cap} {k : IntKind} {j : Int} (hj : 0 ≤ j ∧ j < n) : indexAddrV Tryz.prog 28 (.slice id g off n 1 cp) (.int k j) = some (.ptr id g (off + j.toNat * 1)) := ia_slice (by kernel_rfl) hj
@[go_sem] theorem n28 {H : Hp} (id g off n : Nat) (cp : Cap) : lenV Tryz.prog 28 H (.slice id g off n 1 cp) = some (.int .i64 n) := len_slice (sz := 1) (by kernel_rfl) id g off n 1 cp
@[go_sem] theorem is28 {α : Type} {E : Enc α} {l : List α} {b : Bool} {k : IntKind} {j : Int} (hw : E.w = 1) (hj : 0 ≤ j ∧ j < (l.length : Int)) : indexAddrV Tryz.prog 28 (slV b E l) (.int k j) = some (.ipt (flatE E l) (j.toNat * 1)) := idx_slV s28 hw hj
@[go_sem] theorem ns28 {α : Type} {H : Hp} (b : Bool) (E : Enc α) (l : List α) : lenV Tryz.prog 28 H (slV b E l) = some (.int .i64 l.length) := len_slV s28 b E l
@[go_sem] theorem nb28 {H : Hp} (n g w : Nat) (xs : List (List V)) : lenV Tryz.prog 28 H (blV n g w xs) = some (.int .i64 xs.length) := len_blV s28 n g w xs
@[go_sem] theorem lo28 {H : Hp} (x : V) (hi : Option V) : sliceV Tryz.prog 28 H x none hi = sliceV Tryz.prog 28 H x (some (.int .i64 0)) hi := lo_slV ⟨_, u28⟩
@[go_sem] theorem hi28 {α : Type} {E : Enc α} {l : List α} {b : Bool} {H : Hp} (lo : Option V) : sliceV Tryz.prog 28 H (slV b E l) lo none = sliceV Tryz.prog 28 H (slV b E l) lo (some (.int .i64 l.length)) := hi_slV s28
@[go_sem] theorem ct28 {α : Type} {E : Enc α} {l : List α} {b : Bool} {H : Hp} {k k' : IntKind} {lo hi : Int} (hw : E.w = 1) (h : 0 ≤ lo ∧ lo ≤ hi ∧ hi ≤ (l.length : Int)) : sliceV Tryz.prog 28 H (slV b E l) (some (.int k lo)) (some (.int k' hi)) = some (slV (b && decide (l.length = 0)) E ((l.drop lo.toNat).take (hi.toNat - lo.toNat))) := cut_slV s28 hw h
@[go_sem] theorem m28 {H : Hp} : lenV Tryz.prog 28 H .nilslice = some (.int .i64 0) := len_nilslice (sz := 1) (by kernel_rfl)
@[go_sem] theorem u29 : Tryz.prog.underlying 29 = some (.slice 32) := by kernel_rfl
@[go_sem] theorem z29 : szOf Tryz.prog 29 = some 1 := by kernel_rfl
@[go_sem] theorem y29 : bytesOf' Tryz.prog 29 = some 24 := by kernel_rfl
@[go_sem] theorem g29 : aggT Tryz.prog 29 = some false := by kernel_rfl
@[go_sem] theorem o29 : zeroV Tryz.prog 29 = some .nilslice := by kernel_rfl
theorem s29 : sliceT Tryz.prog 29 3 = true := by kernel_rfl
@[go_sem] theorem i29 {id g off n : Nat} {cp : Cap} {k : IntKind} {j : Int} (hj : 0 ≤ j ∧ j < n) : indexAddrV Tryz.prog 29 (.slice id g off n 3 cp) (.int k j) = some (.ptr id g (off + j.toNat * 3)) := ia_slice (by kernel_rfl) hj
@[go_sem] theorem n29 {H : Hp} (id g off n : Nat) (cp : Cap) : lenV Tryz.prog 29 H (.slice id g off n 3 cp) = some (.int .i64 n) := len_slice (sz := 3) (by kernel_rfl) id g off n 3 cp
@[go_sem] theorem is29 {α : Type} {E : Enc α} {l : List α} {b : Bool} {k : IntKind} {j : Int} (hw : E.w = 3) (hj : 0 ≤ j ∧ j < (l.length : Int)) : indexAddrV Tryz.prog 29 (slV b E l) (.int k j) = some (.ipt (flatE E l) (j.toNat * 3)) := idx_slV s29 hw hj
@[go_sem] theorem ns29 {α : Type} {H : Hp} (b : Bool) (E : Enc α) (l : List α) : lenV Tryz.prog 29 H (slV b E l) = some (.int .i64 l.length) := len_slV s29 b E l
@[go_sem] theorem nb29 {H : Hp} (n g w : Nat) (xs : List (List V)) : lenV Tryz.prog 29 H (blV n g w xs) = some (.int .i64 xs.length) := len_blV s29 n g w xs
@[go_sem] theorem lo29 {H : Hp} (x : V) (hi : Option V) : sliceV Tryz.prog 29 H x none hi = sliceV Tryz.prog 29 H x (some (.int .i64 0)) hi := lo_slV ⟨_, u29⟩
@[go_sem] theorem hi29 {α : Type} {E : Enc α} {l : List α} {b : Bool} {H : Hp} (lo : Option V) : sliceV Tryz.prog 29 H (slV b E l) lo none = sliceV Tryz.prog 29 H (slV b E l) lo (some (.int .i64 l.length)) := hi_slV s29
@[go_sem] theorem ct29 {α : Type} {E : Enc α} {l : List α} {b : Bool} {H : Hp} {k k' : IntKind} {lo hi : Int} (hw : E.w = 3) (h : 0 ≤ lo ∧ lo ≤ hi ∧ hi ≤ (l.length : Int)) : sliceV Tryz.prog 29 H (slV b E l) (some (.int k lo)) (some (.int k' hi)) = some (slV (b && decide (l.length = 0)) E ((l.drop lo.toNat).take (hi.toNat - lo.toNat))) := cut_slV s29 hw h
@[go_sem] theorem m29 {H : Hp} : lenV Tryz.prog 29 H .nilslice = some (.int .i64 0) := len_nilslice (sz := 3) (by kernel_rfl)
@[go_sem] theorem u32 : Tryz.prog.underlying 32 = some (.array 3 3) := by kernel_rfl
@[go_sem] theorem z32 : szOf Tryz.prog 32 = some 3 := by kernel_rfl
@[go_sem] theorem y32 : bytesOf' Tryz.prog 32 = some 24 := by kernel_rfl
@[go_sem] theorem g32 : aggT Tryz.prog 32 = some true := by kernel_rfl
@[go_sem] theorem o32 : zeroV Tryz.prog 32 = some (.agg [.int .i64 0, .int .i64 0, .int .i64 0]) := by kernel_rfl
@[go_sem] theorem ii32 {cs : List V} {off : Nat} {k : IntKind} {j : Int} (hj : 0 ≤ j ∧ j < (3 : Nat)) : indexAddrV Tryz.prog 32 (.ipt cs off) (.int k j) = some (.ipt cs (off + j.toNat * 1)) := iai_arr (by kernel_rfl) hj
@[go_sem] theorem i32 {id g off : Nat} {k : IntKind} {j : Int} (hj : 0 ≤ j ∧ j < (3 : Nat)) : indexAddrV Tryz.prog 32 (.ptr id g off) (.int k j) = some (.ptr id g (off + j.toNat * 1)) := ia_arr (by kernel_rfl) hj
@[go_sem] theorem u37 : Tryz.prog.underlying 37 = some (.slice 40) := by kernel_rfl
@[go_sem] theorem z37 : szOf Tryz.prog 37 = some 1 := by kernel_rfl
@[go_sem] theorem y37 : bytesOf' Tryz.prog 37 = some 24 := by kernel_rfl
@[go_sem] theorem g37 : aggT Tryz.prog 37 = some false := by kernel_rfl
@[go_sem] theorem o37 : zeroV Tryz.prog 37 = some .nilslice := by kernel_rfl
theorem s37 : sliceT Tryz.prog 37 2 = true := by kernel_rfl
@[go_sem] theorem i37 {id g off n : Nat} {cp : Cap} {k : IntKind} {j : Int} (hj : 0 ≤ j ∧ j < n) : indexAddrV Tryz.prog 37 (.slice id g off n 2 cp) (.int k j) = some (.ptr id g (off + j.toNat * 2)) := ia_slice (by kernel_rfl) hj
@[go_sem] theorem n37 {H : Hp} (id g off n : Nat) (cp : Cap) : lenV Tryz.prog 37 H (.slice id g off n 2 cp) = some (.int .i64 n) := len_slice (sz := 2) (by kernel_rfl) id g off n 2 cp
@[go_sem] theorem is37 {α : Type} {E : Enc α} {l : List α} {b : Bool} {k : IntKind} {j : Int} (hw : E.w = 2) (hj : 0 ≤ j ∧ j < (l.length : Int)) : indexAddrV Tryz.prog 37 (slV b E l) (.int k j) = some (.ipt (flatE E l) (j.toNat * 2)) := idx_slV s37 hw hj
@[go_sem] theorem ns37 {α : Type} {H : Hp} (b : Bool) (E : Enc α) (l : List α) : lenV Tryz.prog 37 H (slV b E l) = some (.int .i64 l.length) := len_slV s37 b E l
@[go_sem] theorem nb37 {H : Hp} (n g w : Nat) (xs : List (List V)) : lenV Tryz.prog 37 H (blV n g w xs) = some (.int .i64 xs.length) := len_blV s37 n g w xs
@[go_sem] theorem lo37 {H : Hp} (x : V) (hi : Option V) : sliceV Tryz.prog 37 H x none hi = sliceV Tryz.prog 37 H x (some (.int .i64 0)) hi := lo_slV ⟨_, u37⟩
@[go_sem] theorem hi37 {α : Type} {E : Enc α} {l : List α} {b : Bool} {H : Hp} (lo : Option V) : sliceV Tryz.prog 37 H (slV b E l) lo none = sliceV Tryz.prog 37 H (slV b E l) lo (some (.int .i64 l.length)) := hi_slV s37
@[go_sem] theorem ct37 {α : Type} {E : Enc α} {l : List α} {b : Bool} {H : Hp} {k k' : IntKind} {lo hi : Int} (hw : E.w = 2) (h : 0 ≤ lo ∧ lo ≤ hi ∧ hi ≤ (l.length : Int)) : sliceV Tryz.prog 37 H (slV b E l) (some (.int k lo)) (some (.int k' hi)) = some (slV (b && decide (l.length = 0)) E ((l.drop lo.toNat).take (hi.toNat - lo.toNat))) := cut_slV s37 hw h
@[go_sem] theorem m37 {H : Hp} : lenV Tryz.prog 37 H .nilslice = some (.int .i64 0) := len_nilslice (sz := 2) (by kernel_rfl)
@[go_sem] theorem u40 : Tryz.prog.underlying 40 = some (.array 2 3) := by kernel_rfl
@[go_sem] theorem z40 : szOf Tryz.prog 40 = some 2 := by kernel_rfl
@[go_sem] theorem y40 : bytesOf' Tryz.prog 40 = some 16 := by kernel_rfl
@[go_sem] theorem g40 : aggT Tryz.prog 40 = some true := by kernel_rfl
@[go_sem] theorem o40 : zeroV Tryz.prog 40 = some (.agg [.int .i64 0, .int .i64 0]) := by kernel_rfl
@[go_sem] theorem ii40 {cs : List V} {off : Nat} {k : IntKind} {j : Int} (hj : 0 ≤ j ∧ j < (2 : Nat)) : indexAddrV Tryz.prog 40 (.ipt cs off) (.int k j) = some (.ipt cs (off + j.toNat * 1)) := iai_arr (by kernel_rfl) hj
@[go_sem] theorem i40 {id g off : Nat} {k : IntKind} {j : Int} (hj : 0 ≤ j ∧ j < (2 : Nat)) : indexAddrV Tryz.prog 40 (.ptr id g off) (.int k j) = some (.ptr id g (off + j.toNat * 1)) := ia_arr (by kernel_rfl) hj
@[go_sem] theorem z80 : szOf Tryz.prog 80 = some 1 := by kernel_rfl
@[go_sem] theorem y80 : bytesOf' Tryz.prog 80 = some 8 := by kernel_rfl
@[go_sem] theorem g80 : aggT Tryz.prog 80 = some false := by kernel_rfl
@[go_sem] theorem o80 : zeroV Tryz.prog 80 = some .nilfn := by kernel_rfl
@[go_sem] theorem z88 : szOf Tryz.prog 88 = some 1 := by kernel_rfl
@[go_sem] theorem y88 : bytesOf' Tryz.prog 88 = some 8 := by kernel_rfl
@[go_sem] theorem g88 : aggT Tryz.prog 88 = some false := by kernel_rfl
@[go_sem] theorem o88 : zeroV Tryz.prog 88 = some .nilfn := by kernel_rfl
@[go_sem] theorem u157 : Tryz.prog.underlying 157 = some (.slice 37) := by kernel_rfl
@[go_sem] theorem z157 : szOf Tryz.prog 157 = some 1 := by kernel_rfl
@[go_sem] theorem y157 : bytesOf' Tryz.prog 157 = some 24 := by kernel_rfl
@[go_sem] theorem g157 : aggT Tryz.prog 157 = some false := by kernel_rfl
@[go_sem] theorem o157 : zeroV Tryz.prog 157 = some .nilslice := by kernel_rfl
theorem s157 : sliceT Tryz.prog 157 1 = true := by kernel_rfl
@[go_sem] theorem i157 {id g off n : Nat} {cp : Cap} {k : IntKind} {j : Int} (hj : 0 ≤ j ∧ j < n) : indexAddrV Tryz.prog 157 (.slice id g off n 1 cp) (.int k j) = some (.ptr id g (off + j.toNat * 1)) := ia_slice (by kernel_rfl) hj
@[go_sem] theorem n157 {H : Hp} (id g off n : Nat) (cp : Cap) : lenV Tryz.prog 157 H (.slice id g off n 1 cp) = some (.int .i64 n) := len_slice (sz := 1) (by kernel_rfl) id g off n 1 cp
@[go_sem] theorem is157 {α : Type} {E : Enc α} {l : List α} {b : Bool} {k : IntKind} {j : Int} (hw : E.w = 1) (hj : 0 ≤ j ∧ j < (l.length : Int)) : indexAddrV Tryz.prog 157 (slV b E l) (.int k j) = some (.ipt (flatE E l) (j.toNat * 1)) := idx_slV s157 hw hj
@[go_sem] theorem ns157 {α : Type} {H : Hp} (b : Bool) (E : Enc α) (l : List α) : lenV Tryz.prog 157 H (slV b E l) = some (.int .i64 l.length) := len_slV s157 b E l
@[go_sem] theorem nb157 {H : Hp} (n g w : Nat) (xs : List (List V)) : lenV Tryz.prog 157 H (blV n g w xs) = some (.int .i64 xs.length) := len_blV s157 n g w xs
@[go_sem] theorem lo157 {H : Hp} (x : V) (hi : Option V) : sliceV Tryz.prog 157 H x none hi = sliceV Tryz.prog 157 H x (some (.int .i64 0)) hi := lo_slV ⟨_, u157⟩
@[go_sem] theorem hi157 {α : Type} {E : Enc α} {l : List α} {b : Bool} {H : Hp} (lo : Option V) : sliceV Tryz.prog 157 H (slV b E l) lo none = sliceV Tryz.prog 157 H (slV b E l) lo (some (.int .i64 l.length)) := hi_slV s157
@[go_sem] theorem ct157 {α : Type} {E : Enc α} {l : List α} {b : Bool} {H : Hp} {k k' : IntKind} {lo hi : Int} (hw : E.w = 1) (h : 0 ≤ lo ∧ lo ≤ hi ∧ hi ≤ (l.length : Int)) : sliceV Tryz.prog 157 H (slV b E l) (some (.int k lo)) (some (.int k' hi)) = some (slV (b && decide (l.length = 0)) E ((l.drop lo.toNat).take (hi.toNat - lo.toNat))) := cut_slV s157 hw h
@[go_sem] theorem m157 {H : Hp} : lenV Tryz.prog 157 H .nilslice = some (.int .i64 0) := len_nilslice (sz := 1) (by kernel_rfl)
@[go_sem] theorem e40 (xs ys : List V) : binV Tryz.prog .eql 40 (.agg xs) (.agg ys) = if ckOks [.int .i64, .int .i64] xs = true ∧ ckOks [.int .i64, .int .i64] ys = true then some (.bool (eqCells xs ys)) else none := agg_eq (ks := [.int .i64, .int .i64]) (by kernel_rfl) g40 z40 xs ys
@[go_sem] theorem ne40 (xs ys : List V) : binV Tryz.prog .neq 40 (.agg xs) (.agg ys) = if ckOks [.int .i64, .int .i64] xs = true ∧ ckOks [.int .i64, .int .i64] ys = true then some (.bool (!eqCells xs ys)) else none := agg_ne (ks := [.int .i64, .int .i64]) (by kernel_rfl) g40 z40 xs ys
@[go_sem] theorem w29_29 {H : Hp} (s x : V) : builtinV Tryz.prog .append #[29, 29] [s, x] H = appOf 3 24 H s x.dem1 := app_eq (by kernel_rfl) s x
@[go_sem] theorem w37_37 {H : Hp} (s x : V) : builtinV Tryz.prog .append #[37, 37] [s, x] H = appOf 2 16 H s x.dem1 := app_eq (by kernel_rfl) s x
/- 37 3: append of a make -/
@[go_sem] theorem bb4e (x y : Bool) : binV Tryz.prog .eql 4 (.bool x) (.bool y) = some (.bool (x == y)) := b_beql 4 x y u4
@[go_sem] theorem bb4n (x y : Bool) : binV Tryz.prog .neq 4 (.bool x) (.bool y) = some (.bool (!(x == y))) := b_bneq 4 x y u4
@[go_sem] theorem qi29 (v : V) : immSl Tryz.prog 29 1 [(0, v)] = if immL v.cells = true ∧ v.cells.length = 3 then some (.isl v.cells 1 3) else none := is_one u29 z32 o32 rfl (by decide) (by decide) v
@[go_sem] theorem q29 {H : Hp} (v : V) : buildSliceV Tryz.prog 29 1 [(0, v)] H = if v.cells.all V.isCell = true ∧ v.cells.length = 3 then some (.slice H.length 0 0 1 3 .full, H ++ [.row 0 v.cells true]) else none := bs_if u29 z32 o32 rfl (by decide) (by decide) v
@[go_sem] theorem h32 (ps : List (Nat × V)) : buildV Tryz.prog 32 ps = (fillV (fun i => some (i * 1, 1)) [.int .i64 0, .int .i64 0, .int .i64 0] ps).map V.agg := buildArr_eq u32 z3 o32 ps
@[go_sem] theorem qi37 (v : V) : immSl Tryz.prog 37 1 [(0, v)] = if immL v.cells = true ∧ v.cells.length = 2 then some (.isl v.cells 1 2) else none := is_one u37 z40 o40 rfl (by decide) (by decide) v
@[go_sem] theorem q37 {H : Hp} (v : V) : buildSliceV Tryz.prog 37 1 [(0, v)] H = if v.cells.all V.isCell = true ∧ v.cells.length = 2 then some (.slice H.length 0 0 1 2 .full, H ++ [.row 0 v.cells true]) else none := bs_if u37 z40 o40 rfl (by decide) (by decide) v
@[go_sem] theorem h40 (ps : List (Nat × V)) : buildV Tryz.prog 40 ps = (fillV (fun i => some (i * 1, 1)) [.int .i64 0, .int .i64 0] ps).map V.agg := buildArr_eq u40 z3 o40 ps
@[go_sem] theorem qn157_2 (ps : List (Nat × V)) : immSl Tryz.prog 157 2 ps = (fillV (fun i => some (i * 1, 1)) (repeatV (V.cells .nilslice) 2) ps).bind fun cs => if immL cs = true then some (.isl cs 2 1) else none := is_gen u157 z37 o37 rfl (by decide) (by decide) ps
@[go_sem] theorem qm157_2 {H : Hp} (ps : List (Nat × V)) : buildSliceV Tryz.prog 157 2 ps H = (fillV (fun i => some (i * 1, 1)) (repeatV (V.cells .nilslice) 2) ps).bind fun cs => if cs.all V.isCell = true then some (.slice H.length 0 0 2 1 .full, H ++ [.row 0 cs true]) else none := bs_gen u157 z37 o37 rfl (by decide) (by decide) ps
def r6_0 : List Co := [
  co 4 (.assign (.const (.bool false)))]
def r6_1 : List Co := [
  co 10 (.move (tm 0)),
  co 11 (.call ⟨.builtin .len, #[(tm 10)], #[37]⟩),
  co 12 (.move (tm 1)),
  co 13 (.call ⟨.builtin .len, #[(tm 12)], #[37]⟩),
  co 14 (.binOp .add 3 (tm 11) (tm 13) 3),
  co 15 (.binOp .gtr 3 (tm 14) (.const (.int .i64 20000)) 3)]
def r6_2 : List Co := [
  co 16 (.call ⟨.value (.func 16), #[], #[]⟩),
  co 4 (.assign (tm 16))]
def r6_3 : List Co := [
  co 18 (.move (tm 0)),
  co 19 (.move (tm 1)),
  co 20 (.call ⟨.value (.func 21), #[(tm 18), (tm 19)], #[37, 37]⟩),
  co 17 (.move (tm 20)),
  co 21 (.extract (tm 17) 0),
  co 22 (.extract (tm 17) 1),
  co 5 (.assign (tm 21)),
  co 6 (.assign (tm 22))]
def r6_4 : List Co := [
  co 24 (.move (tm 0)),
  co 25 (.move (tm 1)),
  co 26 (.call ⟨.value (.func 22), #[(tm 24), (tm 25)], #[37, 37]⟩),
  co 23 (.move (tm 26)),
  co 27 (.extract (tm 23) 0),
  co 28 (.extract (tm 23) 1),
  co 7 (.assign (tm 27)),
  co 8 (.assign (tm 28))]
def r6_5 : List Co := [
  co 29 (.move (tm 5)),
  co 30 (.call ⟨.builtin .len, #[(tm 29)], #[37]⟩),
  co 31 (.move (tm 7)),
  co 32 (.call ⟨.builtin .len, #[(tm 31)], #[37]⟩),
  co 33 (.binOp .neq 3 (tm 30) (tm 32) 3),
  co 34 (.move (tm 33)),
  cog 35 (.move (tm 6)) 34 false,
  cog 36 (.move (tm 8)) 34 false,
  cog 37 (.binOp .neq 22 (tm 35) (tm 36) 22) 34 false,
  co 38 (.pick (tm 34) (.const (.bool true)) (tm 37))]
def r6_6 : List Co := [
  co 4 (.assign (.const (.bool false)))]
def r6_7 : List Co := [
  co 9 (.assign (.const (.int .i64 0)))]
def r6_8 : List Co := [
  co 39 (.move (tm 9)),
  co 40 (.move (tm 5)),
  co 41 (.call ⟨.builtin .len, #[(tm 40)], #[37]⟩),
  co 42 (.binOp .lss 3 (tm 39) (tm 41) 3)]
def r6_9 : List Co := [
  co 45 (.move (tm 5)),
  co 46 (.move (tm 9)),
  co 47 (.indexAddr 37 (tm 45) (tm 46)),
  co 48 (.load 40 (tm 47)),
  co 49 (.move (tm 7)),
  co 50 (.move (tm 9)),
  co 51 (.indexAddr 37 (tm 49) (tm 50)),
  co 52 (.load 40 (tm 51)),
  co 53 (.binOp .neq 40 (tm 48) (tm 52) 40)]
def r6_10 : List Co := [
  co 4 (.assign (.const (.bool false)))]
def r6_11 : List Co := [
  co 43 (.move (tm 9)),
  co 44 (.binOp .add 3 (tm 43) (.const (.int .i64 1)) 3),
  co 9 (.assign (tm 44))]
def l6_12 : Cc := (.seq (.seq (.reg r6_8) (.cond (tm 42) .skip (.exit 0))) (.seq (.block 1 (.seq (.reg r6_9) (.cond (tm 53) (.seq (.reg r6_10) .ret) .skip))) (.reg r6_11)))
def r6_13 : List Co := [
  co 54 (.call ⟨.value (.func 16), #[], #[]⟩),
  co 4 (.assign (tm 54))]
/-- wireglass/wireglasslaw23.TapTrips -/
def c6 : Cc := (.seq (.reg r6_0) (.seq (.seq (.reg r6_1) (.cond (tm 15) (.seq (.reg r6_2) .ret) .skip)) (.seq (.reg r6_3) (.seq (.reg r6_4) (.seq (.seq (.reg r6_5) (.cond (tm 38) (.seq (.reg r6_6) .ret) .skip)) (.seq (.seq (.reg r6_7) (.block 0 (.loop l6_12))) (.seq (.reg r6_13) .ret)))))))
def r17_0 : List Co := [
  co 4 (.assign (.const (.slice none 0 0))),
  co 5 (.assign (.const (.int .i64 0)))]
def r17_1 : List Co := [
  co 12 (.move (tm 0)),
  co 13 (.call ⟨.builtin .len, #[(tm 12)], #[27]⟩),
  co 14 (.move (tm 1)),
  co 15 (.call ⟨.builtin .len, #[(tm 14)], #[28]⟩),
  co 16 (.binOp .neq 3 (tm 13) (tm 15) 3),
  co 11 (.assign (tm 16))]
def r17_2 : List Co := [
  co 4 (.assign (.const (.slice none 0 0))),
  co 5 (.assign (.const (.int .i64 10)))]
def r17_3 : List Co := [
  co 18 (.move (tm 0)),
  co 19 (.call ⟨.value (.func 54), #[(tm 18)], #[27]⟩),
  co 17 (.assign (tm 19))]
def r17_4 : List Co := [
  co 4 (.assign (.const (.slice none 0 0))),
  co 5 (.assign (.const (.int .i64 3)))]
def r17_5 : List Co := [
  co 21 (.move (tm 0)),
  co 22 (.call ⟨.value (.func 55), #[(tm 21), (.func 56)], #[27, 80]⟩),
  co 20 (.assign (tm 22))]
def r17_6 : List Co := [
  co 4 (.assign (.const (.slice none 0 0))),
  co 5 (.assign (.const (.int .i64 1)))]
def r17_7 : List Co := [
  coi 6 (.assign (.const (.slice none 0 0)))]
def r17_8 : List Co := [
  co 7 (.assign (.const (.int .i64 (-1))))]
def r17_9 : List Co := [
  co 23 (.move (tm 0)),
  co 24 (.call ⟨.builtin .len, #[(tm 23)], #[27]⟩),
  co 25 (.move (.const (.int .i64 0)))]
def r17_10 : List Co := [
  co 26 (.binOp .lss 3 (tm 25) (tm 24) 3)]
def r17_11 : List Co := [
  co 27 (.move (tm 25)),
  co 28 (.indexAddr 27 (tm 23) (tm 25)),
  co 29 (.load 3 (tm 28)),
  co 8 (.assign (tm 27)),
  co 9 (.assign (tm 29))]
def r17_12 : List Co := [
  co 30 (.move (tm 9)),
  co 31 (.move (tm 0)),
  co 32 (.indexAddr 27 (tm 31) (.const (.int .i64 0))),
  co 33 (.load 3 (tm 32)),
  co 34 (.binOp .sub 3 (tm 30) (tm 33) 3),
  co 35 (.move (tm 9)),
  co 36 (.move (tm 0)),
  co 37 (.move (tm 8)),
  co 38 (.binOp .sub 3 (tm 37) (.const (.int .i64 1)) 3),
  co 39 (.call ⟨.builtin .max, #[(.const (.int .i64 0)), (tm 38)], #[3, 3]⟩),
  co 40 (.indexAddr 27 (tm 36) (tm 39)),
  co 41 (.load 3 (tm 40)),
  co 42 (.binOp .sub 3 (tm 35) (tm 41) 3),
  co 43 (.build 32 #[(0, (tm 34)), (1, (tm 42)), (2, (.const (.int .i64 0)))]),
  co 10 (.alloc 32),
  coz (.store 32 (tm 10) (tm 43))]
def r17_13 : List Co := [
  co 44 (.move (tm 7)),
  co 45 (.binOp .geq 3 (tm 44) (.const (.int .i64 0)) 3)]
def r17_14 : List Co := [
  co 46 (.move (tm 9)),
  co 47 (.move (tm 0)),
  co 48 (.move (tm 7)),
  co 49 (.indexAddr 27 (tm 47) (tm 48)),
  co 50 (.load 3 (tm 49)),
  co 51 (.binOp .sub 3 (tm 46) (tm 50) 3),
  co 52 (.indexAddr 32 (tm 10) (.const (.int .i64 2))),
  coz (.store 3 (tm 52) (tm 51))]
def r17_15 : List Co := [
  co 53 (.move (tm 1)),
  co 54 (.move (tm 8)),
  co 55 (.indexAddr 28 (tm 53) (tm 54)),
  co 56 (.load 4 (tm 55))]
def r17_16 : List Co := [
  co 57 (.move (tm 8)),
  co 7 (.assign (tm 57))]
def r17_17 : List Co := [
  co 58 (.move (tm 6)),
  co 59 (.load 32 (tm 10)),
  coi 60 (.buildSlice 29 1 #[(0, (tm 59))]),
  co 61 (.call ⟨.builtin .append, #[(tm 58), (tm 60)], #[29, 29]⟩),
  co 6 (.assign (tm 61))]
def r17_18 : List Co := [
  co 62 (.binOp .add 3 (tm 25) (.const (.int .i64 1)) 3),
  co 25 (.move (tm 62))]
def l17_19 : Cc := (.seq (.reg r17_10) (.seq (.cond (tm 26) .skip (.exit 1)) (.seq (.block 2 (.seq (.reg r17_11) (.seq (.reg r17_12) (.seq (.seq (.reg r17_13) (.cond (tm 45) (.reg r17_14) .skip)) (.seq (.seq (.reg r17_15) (.cond (tm 56) (.reg r17_16) .skip)) (.reg r17_17)))))) (.reg r17_18))))
def r17_20 : List Co := [
  co 63 (.move (tm 6)),
  co 4 (.assign (tm 63)),
  co 5 (.assign (.const (.int .i64 0)))]
/-- wireglass/tap.Deltas -/
def c17 : Cc := (.seq (.reg r17_0) (.seq (.block 0 (.seq (.reg r17_1) (.cond (tm 11) (.seq (.reg r17_2) .ret) (.seq (.reg r17_3) (.cond (tm 17) (.seq (.reg r17_4) .ret) (.seq (.reg r17_5) (.cond (tm 20) (.seq (.reg r17_6) .ret) .skip))))))) (.seq (.reg r17_7) (.seq (.reg r17_8) (.seq (.seq (.reg r17_9) (.block 1 (.loop l17_19))) (.seq (.reg r17_20) .ret))))))
def r21_0 : List Co := [
  co 4 (.assign (.const (.slice none 0 0))),
  co 5 (.assign (.const (.int .i64 0)))]
def r21_1 : List Co := [
  co 11 (.move (tm 0)),
  co 12 (.call ⟨.value (.func 63), #[(tm 11)], #[37]⟩),
  co 13 (.move (tm 12)),
  cog 14 (.move (tm 1)) 13 false,
  cog 15 (.call ⟨.value (.func 63), #[(tm 14)], #[37]⟩) 13 false,
  co 16 (.pick (tm 13) (.const (.bool true)) (tm 15))]
def r21_2 : List Co := [
  co 4 (.assign (.const (.slice none 0 0))),
  co 5 (.assign (.const (.int .i64 3)))]
def r21_3 : List Co := [
  co 17 (.move (tm 0)),
  co 18 (.move (tm 1)),
  coi 19 (.buildSlice 157 2 #[(0, (tm 17)), (1, (tm 18))]),
  co 20 (.call ⟨.value (.func 65), #[(tm 19)], #[157]⟩),
  co 21 (.call ⟨.value (.func 64), #[(tm 20), (.func 66)], #[37, 88]⟩)]
def r21_4 : List Co := [
  co 4 (.assign (.const (.slice none 0 0))),
  co 5 (.assign (.const (.int .i64 1)))]
def r21_5 : List Co := [
  co 6 (.alloc 37)]
def r21_6 : List Co := [
  co 22 (.move (tm 1)),
  co 23 (.call ⟨.builtin .len, #[(tm 22)], #[37]⟩),
  co 24 (.move (.const (.int .i64 0)))]
def r21_7 : List Co := [
  co 25 (.binOp .lss 3 (tm 24) (tm 23) 3)]
def r21_8 : List Co := [
  co 26 (.indexAddr 37 (tm 22) (tm 24)),
  co 27 (.load 40 (tm 26)),
  co 8 (.alloc 40),
  coz (.store 40 (tm 8) (tm 27))]
def r21_9 : List Co := [
  co 28 (.move (tm 0)),
  co 29 (.call ⟨.value (.func 67), #[(tm 28)], #[37]⟩)]
def r21_10 : List Co := [
  co 10 (.alloc 40),
  coz (.store 40 (tm 10) (tm 31))]
def r21_11 : List Co := [
  co 32 (.indexAddr 40 (tm 10) (.const (.int .i64 0))),
  co 33 (.load 3 (tm 32)),
  co 34 (.indexAddr 40 (tm 8) (.const (.int .i64 0))),
  co 35 (.load 3 (tm 34)),
  co 36 (.binOp .eql 3 (tm 33) (tm 35) 3),
  co 37 (.move (tm 36)),
  cog 38 (.indexAddr 40 (tm 10) (.const (.int .i64 1))) 37 true,
  cog 39 (.load 3 (tm 38)) 37 true,
  cog 40 (.indexAddr 40 (tm 8) (.const (.int .i64 1))) 37 true,
  cog 41 (.load 3 (tm 40)) 37 true,
  cog 42 (.binOp .leq 3 (tm 39) (tm 41) 3) 37 true,
  co 43 (.pick (tm 37) (tm 42) (.const (.bool false)))]
def r21_12 : List Co := [
  co 44 (.load 37 (tm 6)),
  co 45 (.indexAddr 40 (tm 8) (.const (.int .i64 0))),
  co 46 (.load 3 (tm 45)),
  co 47 (.indexAddr 40 (tm 8) (.const (.int .i64 1))),
  co 48 (.load 3 (tm 47)),
  co 49 (.indexAddr 40 (tm 10) (.const (.int .i64 1))),
  co 50 (.load 3 (tm 49)),
  co 51 (.binOp .sub 3 (tm 48) (tm 50) 3),
  co 52 (.build 40 #[(0, (tm 46)), (1, (tm 51))]),
  coi 53 (.buildSlice 37 1 #[(0, (tm 52))]),
  co 54 (.call ⟨.builtin .append, #[(tm 44), (tm 53)], #[37, 37]⟩),
  coz (.store 37 (tm 6) (tm 54))]
noncomputable def a21_0 : Code := ((rngs (Tryz.f21.body.getD .skip)).getD 0 (.skip, .skip)).1
noncomputable def b21_0 : Code := ((rngs (Tryz.f21.body.getD .skip)).getD 0 (.skip, .skip)).2
def ca21_0 : Cc := (.reg r21_10)
def cb21_0 : Cc := (.block 3 (.seq (.reg r21_11) (.cond (tm 43) (.seq (.reg r21_12) (.exit 2)) .skip)))
set_option maxRecDepth 100000 in
theorem ha21_0 : compC Tryz.prog 57 a21_0 = some ca21_0 := by kernel_rfl
set_option maxRecDepth 100000 in
theorem hb21_0 : compC Tryz.prog 57 b21_0 = some cb21_0 := by kernel_rfl
def r21_13 : List Co := [
  co 55 (.binOp .add 3 (tm 24) (.const (.int .i64 1)) 3),
  co 24 (.move (tm 55))]
def l21_14 : Cc := (.seq (.reg r21_7) (.seq (.cond (tm 25) .skip (.exit 0)) (.seq (.block 1 (.seq (.reg r21_8) (.seq (.reg r21_9) (.block 2 (.rng (tm 29) [30, 31] a21_0 b21_0))))) (.reg r21_13))))
def r21_15 : List Co := [
  co 56 (.load 37 (tm 6)),
  co 4 (.assign (tm 56)),
  co 5 (.assign (.const (.int .i64 0)))]
/-- wireglass/tap.Trips -/
def c21 : Cc := (.seq (.reg r21_0) (.seq (.seq (.reg r21_1) (.cond (tm 16) (.seq (.reg r21_2) .ret) .skip)) (.seq (.seq (.reg r21_3) (.cond (tm 21) (.seq (.reg r21_4) .ret) .skip)) (.seq (.reg r21_5) (.seq (.seq (.reg r21_6) (.block 0 (.loop l21_14))) (.seq (.reg r21_15) .ret))))))
def r22_0 : List Co := [
  co 4 (.assign (.const (.slice none 0 0))),
  co 5 (.assign (.const (.int .i64 0)))]
def r22_1 : List Co := [
  co 11 (.move (tm 0)),
  co 12 (.call ⟨.builtin .len, #[(tm 11)], #[37]⟩),
  co 13 (.binOp .gtr 3 (tm 12) (.const (.int .i64 200)) 3),
  co 14 (.move (tm 13)),
  cog 15 (.move (tm 1)) 14 false,
  cog 16 (.call ⟨.builtin .len, #[(tm 15)], #[37]⟩) 14 false,
  cog 17 (.binOp .gtr 3 (tm 16) (.const (.int .i64 200)) 3) 14 false,
  co 18 (.pick (tm 14) (.const (.bool true)) (tm 17))]
def r22_2 : List Co := [
  co 4 (.assign (.const (.slice none 0 0))),
  co 5 (.assign (.const (.int .i64 3)))]
def r22_3 : List Co := [
  co 6 (.assign (.const (.int .i64 0)))]
def r22_4 : List Co := [
  co 19 (.move (tm 6)),
  co 20 (.move (tm 0)),
  co 21 (.call ⟨.builtin .len, #[(tm 20)], #[37]⟩),
  co 22 (.binOp .lss 3 (tm 19) (tm 21) 3)]
def r22_5 : List Co := [
  co 25 (.move (tm 0)),
  co 26 (.move (tm 6)),
  co 27 (.indexAddr 37 (tm 25) (tm 26)),
  co 28 (.indexAddr 40 (tm 27) (.const (.int .i64 1))),
  co 29 (.load 3 (tm 28)),
  co 30 (.call ⟨.value (.func 58), #[(tm 29)], #[3]⟩),
  co 31 (.unOp .not 4 (tm 30))]
def r22_6 : List Co := [
  co 4 (.assign (.const (.slice none 0 0))),
  co 5 (.assign (.const (.int .i64 1)))]
def r22_7 : List Co := [
  co 23 (.move (tm 6)),
  co 24 (.binOp .add 3 (tm 23) (.const (.int .i64 1)) 3),
  co 6 (.assign (tm 24))]
def l22_8 : Cc := (.seq (.seq (.reg r22_4) (.cond (tm 22) .skip (.exit 0))) (.seq (.block 1 (.seq (.reg r22_5) (.cond (tm 31) (.seq (.reg r22_6) .ret) .skip))) (.reg r22_7)))
def r22_9 : List Co := [
  co 7 (.assign (.const (.int .i64 0)))]
def r22_10 : List Co := [
  co 32 (.move (tm 7)),
  co 33 (.move (tm 1)),
  co 34 (.call ⟨.builtin .len, #[(tm 33)], #[37]⟩),
  co 35 (.binOp .lss 3 (tm 32) (tm 34) 3)]
def r22_11 : List Co := [
  co 38 (.move (tm 1)),
  co 39 (.move (tm 7)),
  co 40 (.indexAddr 37 (tm 38) (tm 39)),
  co 41 (.indexAddr 40 (tm 40) (.const (.int .i64 1))),
  co 42 (.load 3 (tm 41)),
  co 43 (.call ⟨.value (.func 58), #[(tm 42)], #[3]⟩),
  co 44 (.unOp .not 4 (tm 43))]
def r22_12 : List Co := [
  co 4 (.assign (.const (.slice none 0 0))),
  co 5 (.assign (.const (.int .i64 1)))]
def r22_13 : List Co := [
  co 36 (.move (tm 7)),
  co 37 (.binOp .add 3 (tm 36) (.const (.int .i64 1)) 3),
  co 7 (.assign (tm 37))]
def l22_14 : Cc := (.seq (.seq (.reg r22_10) (.cond (tm 35) .skip (.exit 2))) (.seq (.block 3 (.seq (.reg r22_11) (.cond (tm 44) (.seq (.reg r22_12) .ret) .skip))) (.reg r22_13)))
def r22_15 : List Co := [
  coi 8 (.assign (.const (.slice none 0 0)))]
def r22_16 : List Co := [
  co 9 (.assign (.const (.int .i64 0)))]
def r22_17 : List Co := [
  co 45 (.move (tm 9)),
  co 46 (.move (tm 1)),
  co 47 (.call ⟨.builtin .len, #[(tm 46)], #[37]⟩),
  co 48 (.binOp .lss 3 (tm 45) (tm 47) 3)]
def r22_18 : List Co := [
  co 51 (.move (tm 0)),
  co 52 (.call ⟨.builtin .len, #[(tm 51)], #[37]⟩),
  co 53 (.binOp .sub 3 (tm 52) (.const (.int .i64 1)) 3),
  co 10 (.assign (tm 53))]
def r22_19 : List Co := [
  co 54 (.move (tm 10)),
  co 55 (.binOp .geq 3 (tm 54) (.const (.int .i64 0)) 3)]
def r22_20 : List Co := [
  co 58 (.move (tm 0)),
  co 59 (.move (tm 10)),
  co 60 (.indexAddr 37 (tm 58) (tm 59)),
  co 61 (.indexAddr 40 (tm 60) (.const (.int .i64 0))),
  co 62 (.load 3 (tm 61)),
  co 63 (.move (tm 1)),
  co 64 (.move (tm 9)),
  co 65 (.indexAddr 37 (tm 63) (tm 64)),
  co 66 (.indexAddr 40 (tm 65) (.const (.int .i64 0))),
  co 67 (.load 3 (tm 66)),
  co 68 (.binOp .eql 3 (tm 62) (tm 67) 3),
  co 69 (.move (tm 68)),
  cog 70 (.move (tm 0)) 69 true,
  cog 71 (.move (tm 10)) 69 true,
  cog 72 (.indexAddr 37 (tm 70) (tm 71)) 69 true,
  cog 73 (.indexAddr 40 (tm 72) (.const (.int .i64 1))) 69 true,
  cog 74 (.load 3 (tm 73)) 69 true,
  cog 75 (.move (tm 1)) 69 true,
  cog 76 (.move (tm 9)) 69 true,
  cog 77 (.indexAddr 37 (tm 75) (tm 76)) 69 true,
  cog 78 (.indexAddr 40 (tm 77) (.const (.int .i64 1))) 69 true,
  cog 79 (.load 3 (tm 78)) 69 true,
  cog 80 (.binOp .leq 3 (tm 74) (tm 79) 3) 69 true,
  co 81 (.pick (tm 69) (tm 80) (.const (.bool false)))]
def r22_21 : List Co := [
  co 82 (.move (tm 8)),
  co 83 (.move (tm 1)),
  co 84 (.move (tm 9)),
  co 85 (.indexAddr 37 (tm 83) (tm 84)),
  co 86 (.indexAddr 40 (tm 85) (.const (.int .i64 0))),
  co 87 (.load 3 (tm 86)),
  co 88 (.move (tm 1)),
  co 89 (.move (tm 9)),
  co 90 (.indexAddr 37 (tm 88) (tm 89)),
  co 91 (.indexAddr 40 (tm 90) (.const (.int .i64 1))),
  co 92 (.load 3 (tm 91)),
  co 93 (.move (tm 0)),
  co 94 (.move (tm 10)),
  co 95 (.indexAddr 37 (tm 93) (tm 94)),
  co 96 (.indexAddr 40 (tm 95) (.const (.int .i64 1))),
  co 97 (.load 3 (tm 96)),
  co 98 (.binOp .sub 3 (tm 92) (tm 97) 3),
  co 99 (.build 40 #[(0, (tm 87)), (1, (tm 98))]),
  coi 100 (.buildSlice 37 1 #[(0, (tm 99))]),
  co 101 (.call ⟨.builtin .append, #[(tm 82), (tm 100)], #[37, 37]⟩),
  co 8 (.assign (tm 101))]
def r22_22 : List Co := [
  co 56 (.move (tm 10)),
  co 57 (.binOp .sub 3 (tm 56) (.const (.int .i64 1)) 3),
  co 10 (.assign (tm 57))]
def l22_23 : Cc := (.seq (.seq (.reg r22_19) (.cond (tm 55) .skip (.exit 6))) (.seq (.block 7 (.seq (.reg r22_20) (.cond (tm 81) (.seq (.reg r22_21) (.exit 6)) .skip))) (.reg r22_22)))
def r22_24 : List Co := [
  co 49 (.move (tm 9)),
  co 50 (.binOp .add 3 (tm 49) (.const (.int .i64 1)) 3),
  co 9 (.assign (tm 50))]
def l22_25 : Cc := (.seq (.seq (.reg r22_17) (.cond (tm 48) .skip (.exit 4))) (.seq (.block 5 (.seq (.reg r22_18) (.block 6 (.loop l22_23)))) (.reg r22_24)))
def r22_26 : List Co := [
  co 102 (.move (tm 8)),
  co 4 (.assign (tm 102)),
  co 5 (.assign (.const (.int .i64 0)))]
/-- wireglass/wireglassref23.Trips -/
def c22 : Cc := (.seq (.reg r22_0) (.seq (.seq (.reg r22_1) (.cond (tm 18) (.seq (.reg r22_2) .ret) .skip)) (.seq (.seq (.reg r22_3) (.block 0 (.loop l22_8))) (.seq (.seq (.reg r22_9) (.block 2 (.loop l22_14))) (.seq (.reg r22_15) (.seq (.seq (.reg r22_16) (.block 4 (.loop l22_25))) (.seq (.reg r22_26) .ret)))))))
def r54_0 : List Co := [
  co 2 (.assign (.const (.bool false)))]
def r54_1 : List Co := [
  co 3 (.move (tm 0)),
  co 4 (.call ⟨.builtin .len, #[(tm 3)], #[27]⟩),
  co 5 (.binOp .gtr 3 (tm 4) (.const (.int .i64 200)) 3),
  co 2 (.assign (tm 5))]
/-- wireglass/tap.isLarge[int] -/
def c54 : Cc := (.seq (.reg r54_0) (.seq (.reg r54_1) .ret))
def r55_0 : List Co := [
  co 4 (.assign (.const (.bool false)))]
def r55_1 : List Co := [
  co 5 (.move (tm 0)),
  co 6 (.move (tm 1)),
  co 7 (.call ⟨.value (.func 110), #[(tm 5), (tm 6)], #[27, 80]⟩),
  co 8 (.binOp .geq 3 (tm 7) (.const (.int .i64 0)) 3),
  co 4 (.assign (tm 8))]
/-- slices.ContainsFunc[[]int,int] -/
def c55 : Cc := (.seq (.reg r55_0) (.seq (.reg r55_1) .ret))
def r56_0 : List Co := [
  co 2 (.assign (.const (.bool false)))]
def r56_1 : List Co := [
  co 3 (.move (tm 0)),
  co 4 (.call ⟨.value (.func 57), #[(tm 3)], #[3]⟩),
  co 5 (.unOp .not 4 (tm 4)),
  co 2 (.assign (tm 5))]
/-- wireglass/tap.Deltas$1 -/
def c56 : Cc := (.seq (.reg r56_0) (.seq (.reg r56_1) .ret))
def r57_0 : List Co := [
  co 2 (.assign (.const (.bool false)))]
def r57_1 : List Co := [
  co 3 (.move (tm 0)),
  co 4 (.binOp .geq 3 (tm 3) (.const (.int .i64 0)) 3),
  co 5 (.move (tm 4)),
  cog 6 (.move (tm 0)) 5 true,
  cog 7 (.binOp .leq 3 (tm 6) (.const (.int .i64 1000000000000000)) 3) 5 true,
  co 8 (.pick (tm 5) (tm 7) (.const (.bool false))),
  co 2 (.assign (tm 8))]
/-- wireglass/tap.isTime -/
def c57 : Cc := (.seq (.reg r57_0) (.seq (.reg r57_1) .ret))
def r58_0 : List Co := [
  co 2 (.assign (.const (.bool false)))]
def r58_1 : List Co := [
  co 3 (.move (tm 0)),
  co 4 (.binOp .geq 3 (tm 3) (.const (.int .i64 0)) 3),
  co 5 (.move (tm 4)),
  cog 6 (.move (tm 0)) 5 true,
  cog 7 (.binOp .leq 3 (tm 6) (.const (.int .i64 1000000000000000)) 3) 5 true,
  co 8 (.pick (tm 5) (tm 7) (.const (.bool false))),
  co 2 (.assign (tm 8))]
/-- wireglass/wireglassref23.isTime -/
def c58 : Cc := (.seq (.reg r58_0) (.seq (.reg r58_1) .ret))
def r63_0 : List Co := [
  co 2 (.assign (.const (.bool false)))]
def r63_1 : List Co := [
  co 3 (.move (tm 0)),
  co 4 (.call ⟨.builtin .len, #[(tm 3)], #[37]⟩),
  co 5 (.binOp .gtr 3 (tm 4) (.const (.int .i64 200)) 3),
  co 2 (.assign (tm 5))]
/-- wireglass/tap.isLarge[[2]int] -/
def c63 : Cc := (.seq (.reg r63_0) (.seq (.reg r63_1) .ret))
def r64_0 : List Co := [
  co 4 (.assign (.const (.bool false)))]
def r64_1 : List Co := [
  co 5 (.move (tm 0)),
  co 6 (.move (tm 1)),
  co 7 (.call ⟨.value (.func 114), #[(tm 5), (tm 6)], #[37, 88]⟩),
  co 8 (.binOp .geq 3 (tm 7) (.const (.int .i64 0)) 3),
  co 4 (.assign (tm 8))]
/-- slices.ContainsFunc[[][2]int,[2]int] -/
def c64 : Cc := (.seq (.reg r64_0) (.seq (.reg r64_1) .ret))
def r65_0 : List Co := [
  co 2 (.assign (.const (.slice none 0 0)))]
def r65_1 : List Co := [
  co 3 (.assign (.const (.int .i64 0)))]
def r65_2 : List Co := [
  co 9 (.move (tm 0)),
  co 10 (.call ⟨.builtin .len, #[(tm 9)], #[157]⟩),
  co 11 (.move (.const (.int .i64 0)))]
def r65_3 : List Co := [
  co 12 (.binOp .lss 3 (tm 11) (tm 10) 3)]
def r65_4 : List Co := [
  co 13 (.indexAddr 157 (tm 9) (tm 11)),
  co 14 (.load 37 (tm 13)),
  co 5 (.assign (tm 14))]
def r65_5 : List Co := [
  co 15 (.move (tm 3)),
  co 16 (.move (tm 5)),
  co 17 (.call ⟨.builtin .len, #[(tm 16)], #[37]⟩),
  co 18 (.binOp .add 3 (tm 15) (tm 17) 3),
  co 3 (.assign (tm 18))]
def r65_6 : List Co := [
  co 19 (.move (tm 3)),
  co 20 (.binOp .lss 3 (tm 19) (.const (.int .i64 0)) 3)]
def r65_7 : List Co := [
  co 21 (.makeInterface 9 (.const (.string ⟨#[108, 101, 110, 32, 111, 117, 116, 32, 111, 102, 32, 114, 97, 110, 103, 101]⟩))),
  coz (.panic (tm 21))]
def r65_8 : List Co := [
  co 22 (.binOp .add 3 (tm 11) (.const (.int .i64 1)) 3),
  co 11 (.move (tm 22))]
def l65_9 : Cc := (.seq (.reg r65_3) (.seq (.cond (tm 12) .skip (.exit 0)) (.seq (.block 1 (.seq (.reg r65_4) (.seq (.reg r65_5) (.seq (.reg r65_6) (.cond (tm 20) (.reg r65_7) .skip))))) (.reg r65_8))))
def r65_10 : List Co := [
  co 23 (.move (tm 3)),
  co 24 (.call ⟨.value (.func 115), #[(.const (.slice none 0 0)), (tm 23)], #[37, 3]⟩),
  co 6 (.assign (tm 24))]
def r65_11 : List Co := [
  co 25 (.move (tm 0)),
  co 26 (.call ⟨.builtin .len, #[(tm 25)], #[157]⟩),
  co 27 (.move (.const (.int .i64 0)))]
def r65_12 : List Co := [
  co 28 (.binOp .lss 3 (tm 27) (tm 26) 3)]
def r65_13 : List Co := [
  co 29 (.indexAddr 157 (tm 25) (tm 27)),
  co 30 (.load 37 (tm 29)),
  co 8 (.assign (tm 30))]
def r65_14 : List Co := [
  co 31 (.move (tm 6)),
  co 32 (.move (tm 8)),
  co 33 (.call ⟨.builtin .append, #[(tm 31), (tm 32)], #[37, 37]⟩),
  co 6 (.assign (tm 33))]
def r65_15 : List Co := [
  co 34 (.binOp .add 3 (tm 27) (.const (.int .i64 1)) 3),
  co 27 (.move (tm 34))]
def l65_16 : Cc := (.seq (.reg r65_12) (.seq (.cond (tm 28) .skip (.exit 2)) (.seq (.block 3 (.seq (.reg r65_13) (.reg r65_14))) (.reg r65_15))))
def r65_17 : List Co := [
  co 35 (.move (tm 6)),
  co 2 (.assign (tm 35))]
/-- slices.Concat[[][2]int,[2]int] -/
def c65 : Cc := (.seq (.reg r65_0) (.seq (.reg r65_1) (.seq (.seq (.reg r65_2) (.block 0 (.loop l65_9))) (.seq (.reg r65_10) (.seq (.seq (.reg r65_11) (.block 2 (.loop l65_16))) (.seq (.reg r65_17) .ret))))))
def r66_0 : List Co := [
  coi 1 (.box 40 (tm 0)),
  co 2 (.assign (.const (.bool false)))]
def r66_1 : List Co := [
  co 3 (.indexAddr 40 (tm 1) (.const (.int .i64 1))),
  co 4 (.load 3 (tm 3)),
  co 5 (.call ⟨.value (.func 57), #[(tm 4)], #[3]⟩),
  co 6 (.unOp .not 4 (tm 5)),
  co 2 (.assign (tm 6))]
/-- wireglass/tap.Trips$1 -/
def c66 : Cc := (.seq (.reg r66_0) (.seq (.reg r66_1) .ret))
def r67_0 : List Co := [
  coi 1 (.box 37 (tm 0)),
  co 2 (.assign (.const .nilFunc))]
def r67_1 : List Co := [
  co 3 (.makeFunc (.func 116) #[] #[(tm 1)]),
  co 2 (.assign (tm 3))]
/-- slices.Backward[[][2]int,[2]int] -/
def c67 : Cc := (.seq (.reg r67_0) (.seq (.reg r67_1) .ret))
def r110_0 : List Co := [
  co 4 (.assign (.const (.int .i64 0)))]
def r110_1 : List Co := [
  co 6 (.move (tm 0)),
  co 7 (.call ⟨.builtin .len, #[(tm 6)], #[27]⟩),
  co 8 (.move (.const (.int .i64 0)))]
def r110_2 : List Co := [
  co 9 (.binOp .lss 3 (tm 8) (tm 7) 3)]
def r110_3 : List Co := [
  co 10 (.move (tm 8)),
  co 5 (.assign (tm 10))]
def r110_4 : List Co := [
  co 11 (.move (tm 1)),
  co 12 (.move (tm 0)),
  co 13 (.move (tm 5)),
  co 14 (.indexAddr 27 (tm 12) (tm 13)),
  co 15 (.load 3 (tm 14)),
  co 16 (.call ⟨.value (tm 11), #[(tm 15)], #[3]⟩)]
def r110_5 : List Co := [
  co 17 (.move (tm 5)),
  co 4 (.assign (tm 17))]
def r110_6 : List Co := [
  co 18 (.binOp .add 3 (tm 8) (.const (.int .i64 1)) 3),
  co 8 (.move (tm 18))]
def l110_7 : Cc := (.seq (.reg r110_2) (.seq (.cond (tm 9) .skip (.exit 0)) (.seq (.block 1 (.seq (.reg r110_3) (.seq (.reg r110_4) (.cond (tm 16) (.seq (.reg r110_5) .ret) .skip)))) (.reg r110_6))))
def r110_8 : List Co := [
  co 4 (.assign (.const (.int .i64 (-1))))]
/-- slices.IndexFunc[[]int,int] -/
def c110 : Cc := (.seq (.reg r110_0) (.seq (.seq (.reg r110_1) (.block 0 (.loop l110_7))) (.seq (.reg r110_8) .ret)))
def r114_0 : List Co := [
  co 4 (.assign (.const (.int .i64 0)))]
def r114_1 : List Co := [
  co 6 (.move (tm 0)),
  co 7 (.call ⟨.builtin .len, #[(tm 6)], #[37]⟩),
  co 8 (.move (.const (.int .i64 0)))]
def r114_2 : List Co := [
  co 9 (.binOp .lss 3 (tm 8) (tm 7) 3)]
def r114_3 : List Co := [
  co 10 (.move (tm 8)),
  co 5 (.assign (tm 10))]
def r114_4 : List Co := [
  co 11 (.move (tm 1)),
  co 12 (.move (tm 0)),
  co 13 (.move (tm 5)),
  co 14 (.indexAddr 37 (tm 12) (tm 13)),
  co 15 (.load 40 (tm 14)),
  co 16 (.call ⟨.value (tm 11), #[(tm 15)], #[40]⟩)]
def r114_5 : List Co := [
  co 17 (.move (tm 5)),
  co 4 (.assign (tm 17))]
def r114_6 : List Co := [
  co 18 (.binOp .add 3 (tm 8) (.const (.int .i64 1)) 3),
  co 8 (.move (tm 18))]
def l114_7 : Cc := (.seq (.reg r114_2) (.seq (.cond (tm 9) .skip (.exit 0)) (.seq (.block 1 (.seq (.reg r114_3) (.seq (.reg r114_4) (.cond (tm 16) (.seq (.reg r114_5) .ret) .skip)))) (.reg r114_6))))
def r114_8 : List Co := [
  co 4 (.assign (.const (.int .i64 (-1))))]
/-- slices.IndexFunc[[][2]int,[2]int] -/
def c114 : Cc := (.seq (.reg r114_0) (.seq (.seq (.reg r114_1) (.block 0 (.loop l114_7))) (.seq (.reg r114_8) .ret)))
def r115_0 : List Co := [
  co 4 (.assign (.const (.slice none 0 0)))]
def r115_1 : List Co := [
  co 5 (.move (tm 1)),
  co 6 (.binOp .lss 3 (tm 5) (.const (.int .i64 0)) 3)]
def r115_2 : List Co := [
  co 7 (.makeInterface 9 (.const (.string ⟨#[99, 97, 110, 110, 111, 116, 32, 98, 101, 32, 110, 101, 103, 97, 116, 105, 118, 101]⟩))),
  coz (.panic (tm 7))]
def r115_3 : List Co := [
  co 8 (.move (tm 1)),
  co 9 (.move (tm 0)),
  co 10 (.call ⟨.builtin .cap, #[(tm 9)], #[37]⟩),
  co 11 (.move (tm 0)),
  co 12 (.call ⟨.builtin .len, #[(tm 11)], #[37]⟩),
  co 13 (.binOp .sub 3 (tm 10) (tm 12) 3),
  co 14 (.binOp .sub 3 (tm 8) (tm 13) 3),
  co 1 (.assign (tm 14))]
def r115_4 : List Co := [
  co 15 (.move (tm 1)),
  co 16 (.binOp .gtr 3 (tm 15) (.const (.int .i64 0)) 3)]
def r115_5 : List Co := [
  co 17 (.move (tm 0)),
  co 18 (.move (tm 0)),
  co 19 (.call ⟨.builtin .cap, #[(tm 18)], #[37]⟩),
  co 20 (.slice 37 (tm 17) none (some (tm 19)) none),
  co 21 (.move (tm 1)),
  co 22 (.call ⟨.builtin .append, #[(tm 20), (tm 21)], #[37, 3]⟩),
  co 23 (.move (tm 0)),
  co 24 (.call ⟨.builtin .len, #[(tm 23)], #[37]⟩),
  co 25 (.slice 37 (tm 22) none (some (tm 24)) none),
  co 0 (.assign (tm 25))]
def r115_6 : List Co := [
  co 26 (.move (tm 0)),
  co 4 (.assign (tm 26))]
/-- slices.Grow[[][2]int,[2]int] -/
def c115 : Cc := (.seq (.reg r115_0) (.seq (.seq (.reg r115_1) (.cond (tm 6) (.reg r115_2) .skip)) (.seq (.seq (.reg r115_3) (.seq (.reg r115_4) (.cond (tm 16) (.reg r115_5) .skip))) (.seq (.reg r115_6) .ret))))
def r116_0 : List Co := [
  co 4 (.load 37 (tm 1)),
  co 5 (.call ⟨.builtin .len, #[(tm 4)], #[37]⟩),
  co 6 (.binOp .sub 3 (tm 5) (.const (.int .i64 1)) 3),
  co 3 (.assign (tm 6))]
def r116_1 : List Co := [
  co 7 (.move (tm 3)),
  co 8 (.binOp .geq 3 (tm 7) (.const (.int .i64 0)) 3)]
def r116_2 : List Co := [
  co 11 (.move (tm 0)),
  co 12 (.move (tm 3)),
  co 13 (.load 37 (tm 1)),
  co 14 (.move (tm 3)),
  co 15 (.indexAddr 37 (tm 13) (tm 14)),
  co 16 (.load 40 (tm 15)),
  co 17 (.call ⟨.value (tm 11), #[(tm 12), (tm 16)], #[3, 40]⟩),
  co 18 (.unOp .not 4 (tm 17))]
def r116_3 : List Co := [
  co 9 (.move (tm 3)),
  co 10 (.binOp .sub 3 (tm 9) (.const (.int .i64 1)) 3),
  co 3 (.assign (tm 10))]
def l116_4 : Cc := (.seq (.seq (.reg r116_1) (.cond (tm 8) .skip (.exit 0))) (.seq (.block 1 (.seq (.reg r116_2) (.cond (tm 18) .ret .skip))) (.reg r116_3)))
/-- slices.Backward[[][2]int,[2]int]$1 -/
def c116 : Cc := (.seq (.reg r116_0) (.block 0 (.loop l116_4)))
@[go_sem] theorem kp6 (v : V) : demK 6 v = v.dem := rfl
def rs6 : List ResultVar := [.tmp 4]
theorem gc6 (H : Hp) (r : V × Hp) : pr.gc 6 H r = gcF H r := gcOne rfl H r
set_option maxRecDepth 100000 in
theorem ex6 : ExP 6 55 c6 rs6 := @fun _ _ _ ha h => call_ex (fn := Tryz.f6) rfl Tryz.func6 rfl (by kernel_rfl) rfl (Nat.max_eq_right ha) h
theorem run6 : RunP 6 55 c6 rs6 := @fun _ _ _ ha h => run_of ex6 ha h
@[go_sem] theorem kp17 (v : V) : demK 17 v = v.dem := rfl
def rs17 : List ResultVar := [.tmp 4, .tmp 5]
theorem gc17 (H : Hp) (r : V × Hp) : pr.gc 17 H r = gcF H r := gcOne rfl H r
set_option maxRecDepth 100000 in
theorem ex17 : ExP 17 64 c17 rs17 := @fun _ _ _ ha h => call_ex (fn := Tryz.f17) rfl Tryz.func17 rfl (by kernel_rfl) rfl (Nat.max_eq_right ha) h
theorem run17 : RunP 17 64 c17 rs17 := @fun _ _ _ ha h => run_of ex17 ha h
@[go_sem] theorem kp21 (v : V) : demK 21 v = v.dem := rfl
def rs21 : List ResultVar := [.tmp 4, .tmp 5]
theorem gc21 (H : Hp) (r : V × Hp) : pr.gc 21 H r = gcF H r := gcOne rfl H r
set_option maxRecDepth 100000 in
theorem ex21 : ExPD 21 57 c21 rs21 := @fun _ _ _ ha h => call_exD (fn := Tryz.f21) rfl Tryz.func21 rfl (by kernel_rfl) rfl (Nat.max_eq_right ha) h
theorem run21 : RunPD 21 57 c21 rs21 := @fun _ _ _ ha h => run_ofD ex21 ha h
@[go_sem] theorem kp22 (v : V) : demK 22 v = v.dem := rfl
def rs22 : List ResultVar := [.tmp 4, .tmp 5]
theorem gc22 (H : Hp) (r : V × Hp) : pr.gc 22 H r = gcF H r := gcOne rfl H r
set_option maxRecDepth 100000 in
theorem ex22 : ExP 22 103 c22 rs22 := @fun _ _ _ ha h => call_ex (fn := Tryz.f22) rfl Tryz.func22 rfl (by kernel_rfl) rfl (Nat.max_eq_right ha) h
theorem run22 : RunP 22 103 c22 rs22 := @fun _ _ _ ha h => run_of ex22 ha h
@[go_sem] theorem kp54 (v : V) : demK 54 v = v.dem := rfl
def rs54 : List ResultVar := [.tmp 2]
theorem gc54 (H : Hp) (r : V × Hp) : pr.gc 54 H r = gcF H r := gcOne rfl H r
set_option maxRecDepth 100000 in
theorem ex54 : ExP 54 6 c54 rs54 := @fun _ _ _ ha h => call_ex (fn := Tryz.f54) rfl Tryz.func54 rfl (by kernel_rfl) rfl (Nat.max_eq_right ha) h
theorem run54 : RunP 54 6 c54 rs54 := @fun _ _ _ ha h => run_of ex54 ha h
@[go_sem] theorem kp55 (v : V) : demK 55 v = v.dem := rfl
def rs55 : List ResultVar := [.tmp 4]
theorem gc55 (H : Hp) (r : V × Hp) : pr.gc 55 H r = gcF H r := gcOne rfl H r
set_option maxRecDepth 100000 in
theorem ex55 : ExP 55 9 c55 rs55 := @fun _ _ _ ha h => call_ex (fn := Tryz.f55) rfl Tryz.func55 rfl (by kernel_rfl) rfl (Nat.max_eq_right ha) h
theorem run55 : RunP 55 9 c55 rs55 := @fun _ _ _ ha h => run_of ex55 ha h
@[go_sem] theorem kp56 (v : V) : demK 56 v = v.dem := rfl
def rs56 : List ResultVar := [.tmp 2]
theorem gc56 (H : Hp) (r : V × Hp) : pr.gc 56 H r = gcF H r := gcOne rfl H r
set_option maxRecDepth 100000 in
theorem ex56 : ExP 56 6 c56 rs56 := @fun _ _ _ ha h => call_ex (fn := Tryz.f56) rfl Tryz.func56 rfl (by kernel_rfl) rfl (Nat.max_eq_right ha) h
theorem run56 : RunP 56 6 c56 rs56 := @fun _ _ _ ha h => run_of ex56 ha h
@[go_sem] theorem kp57 (v : V) : demK 57 v = v.dem := rfl
def rs57 : List ResultVar := [.tmp 2]
theorem gc57 (H : Hp) (r : V × Hp) : pr.gc 57 H r = gcF H r := gcOne rfl H r
set_option maxRecDepth 100000 in
theorem ex57 : ExP 57 9 c57 rs57 := @fun _ _ _ ha h => call_ex (fn := Tryz.f57) rfl Tryz.func57 rfl (by kernel_rfl) rfl (Nat.max_eq_right ha) h
theorem run57 : RunP 57 9 c57 rs57 := @fun _ _ _ ha h => run_of ex57 ha h
@[go_sem] theorem kp58 (v : V) : demK 58 v = v.dem := rfl
def rs58 : List ResultVar := [.tmp 2]
theorem gc58 (H : Hp) (r : V × Hp) : pr.gc 58 H r = gcF H r := gcOne rfl H r
set_option maxRecDepth 100000 in
theorem ex58 : ExP 58 9 c58 rs58 := @fun _ _ _ ha h => call_ex (fn := Tryz.f58) rfl Tryz.func58 rfl (by kernel_rfl) rfl (Nat.max_eq_right ha) h
theorem run58 : RunP 58 9 c58 rs58 := @fun _ _ _ ha h => run_of ex58 ha h
@[go_sem] theorem kp63 (v : V) : demK 63 v = v.dem := rfl
def rs63 : List ResultVar := [.tmp 2]
theorem gc63 (H : Hp) (r : V × Hp) : pr.gc 63 H r = gcF H r := gcOne rfl H r
set_option maxRecDepth 100000 in
theorem ex63 : ExP 63 6 c63 rs63 := @fun _ _ _ ha h => call_ex (fn := Tryz.f63) rfl Tryz.func63 rfl (by kernel_rfl) rfl (Nat.max_eq_right ha) h
theorem run63 : RunP 63 6 c63 rs63 := @fun _ _ _ ha h => run_of ex63 ha h
@[go_sem] theorem kp64 (v : V) : demK 64 v = v.dem := rfl
def rs64 : List ResultVar := [.tmp 4]
theorem gc64 (H : Hp) (r : V × Hp) : pr.gc 64 H r = gcF H r := gcOne rfl H r
set_option maxRecDepth 100000 in
theorem ex64 : ExP 64 9 c64 rs64 := @fun _ _ _ ha h => call_ex (fn := Tryz.f64) rfl Tryz.func64 rfl (by kernel_rfl) rfl (Nat.max_eq_right ha) h
theorem run64 : RunP 64 9 c64 rs64 := @fun _ _ _ ha h => run_of ex64 ha h
@[go_sem] theorem kp65 (v : V) : demK 65 v = v.dem := rfl
def rs65 : List ResultVar := [.tmp 2]
theorem gc65 (H : Hp) (r : V × Hp) : pr.gc 65 H r = gcF H r := gcOne rfl H r
set_option maxRecDepth 100000 in
theorem ex65 : ExP 65 36 c65 rs65 := @fun _ _ _ ha h => call_ex (fn := Tryz.f65) rfl Tryz.func65 rfl (by kernel_rfl) rfl (Nat.max_eq_right ha) h
theorem run65 : RunP 65 36 c65 rs65 := @fun _ _ _ ha h => run_of ex65 ha h
@[go_sem] theorem kp66 (v : V) : demK 66 v = v.dem := rfl
def rs66 : List ResultVar := [.tmp 2]
theorem gc66 (H : Hp) (r : V × Hp) : pr.gc 66 H r = gcF H r := gcOne rfl H r
set_option maxRecDepth 100000 in
theorem ex66 : ExP 66 7 c66 rs66 := @fun _ _ _ ha h => call_ex (fn := Tryz.f66) rfl Tryz.func66 rfl (by kernel_rfl) rfl (Nat.max_eq_right ha) h
theorem run66 : RunP 66 7 c66 rs66 := @fun _ _ _ ha h => run_of ex66 ha h
@[go_sem] theorem kp67 (v : V) : demK 67 v = v.dem := rfl
def rs67 : List ResultVar := [.tmp 2]
theorem gc67 (H : Hp) (r : V × Hp) : pr.gc 67 H r = gcF H r := gcOne rfl H r
set_option maxRecDepth 100000 in
theorem ex67 : ExP 67 4 c67 rs67 := @fun _ _ _ ha h => call_ex (fn := Tryz.f67) rfl Tryz.func67 rfl (by kernel_rfl) rfl (Nat.max_eq_right ha) h
theorem run67 : RunP 67 4 c67 rs67 := @fun _ _ _ ha h => run_of ex67 ha h
@[go_sem] theorem kp110 (v : V) : demK 110 v = v.dem := rfl
def rs110 : List ResultVar := [.tmp 4]
theorem gc110 (H : Hp) (r : V × Hp) : pr.gc 110 H r = gcF H r := gcOne rfl H r
set_option maxRecDepth 100000 in
theorem ex110 : ExP 110 19 c110 rs110 := @fun _ _ _ ha h => call_ex (fn := Tryz.f110) rfl Tryz.func110 rfl (by kernel_rfl) rfl (Nat.max_eq_right ha) h
theorem run110 : RunP 110 19 c110 rs110 := @fun _ _ _ ha h => run_of ex110 ha h
@[go_sem] theorem kp114 (v : V) : demK 114 v = v.dem := rfl
def rs114 : List ResultVar := [.tmp 4]
theorem gc114 (H : Hp) (r : V × Hp) : pr.gc 114 H r = gcF H r := gcOne rfl H r
set_option maxRecDepth 100000 in
theorem ex114 : ExP 114 19 c114 rs114 := @fun _ _ _ ha h => call_ex (fn := Tryz.f114) rfl Tryz.func114 rfl (by kernel_rfl) rfl (Nat.max_eq_right ha) h
theorem run114 : RunP 114 19 c114 rs114 := @fun _ _ _ ha h => run_of ex114 ha h
@[go_sem] theorem kp115 (v : V) : demK 115 v = v.dem := rfl
def rs115 : List ResultVar := [.tmp 4]
@[go_sem] theorem gc115 (H : Hp) (r : V × Hp) : pr.gc 115 H r = r := gcZero rfl H r
set_option maxRecDepth 100000 in
theorem ex115 : ExP 115 27 c115 rs115 := @fun _ _ _ ha h => call_ex (fn := Tryz.f115) rfl Tryz.func115 rfl (by kernel_rfl) rfl (Nat.max_eq_right ha) h
theorem run115 : RunP 115 27 c115 rs115 := @fun _ _ _ ha h => run_of ex115 ha h
@[go_sem] theorem kp116 (v : V) : demK 116 v = v.dem := rfl
def rs116 : List ResultVar := []
@[go_sem] theorem gc116 (H : Hp) (r : V × Hp) : pr.gc 116 H r = r := gcZero rfl H r
set_option maxRecDepth 100000 in
theorem ex116 : ExP 116 19 c116 rs116 := @fun _ _ _ ha h => call_ex (fn := Tryz.f116) rfl Tryz.func116 rfl (by kernel_rfl) rfl (Nat.max_eq_right ha) h
theorem run116 : RunP 116 19 c116 rs116 := @fun _ _ _ ha h => run_of ex116 ha h
end
end Go.Proofs.YteeofpgnjekeaaaGreatDoor
/-
  Times, and the functions that look for one in a list; walked. No statement of the seat stands here.
-/
namespace Go.Proofs.YteeofpgnjekeaaaGreatDoor
open Go Go.An
set_option maxRecDepth 4000
set_option linter.unusedSimpArgs false
set_option linter.unusedVariables false

def okT (n : Int) : Bool := decide (0 ≤ n) && decide (n ≤ 1000000000000000)
theorem fn57 (n : Int) (H : Hp) : callL Tryz.prog pr 57 [.int .i64 n] H = some (.bool (okT n), H) := by
  refine run57 (Nat.le_of_ble_eq_true rfl) ?_
  unfold okT
  simp (disch := first | rfl | omega | exact lt_new _ | assumption | decide | (simp [tk_here, tk_app, tk_0, tk_S, gr_here, gr_app, gr_0, gr_S] <;> omega) | fail) only [r57_0, r57_1, c57, rs57, gc57, go_sem, ↓reduceIte, Nat.reduceLT, Nat.reduceEqDiff, Nat.reduceAdd, Nat.reduceMul, Nat.reduceSub, Int.reduceAdd, Int.reduceSub, Nat.reduceLeDiff, Int.reduceLT, Int.reduceLE, Int.reduceEq, Int.reduceNeg, Int.reduceToNat]
  repeat' ((first | refine guardB_dec (fun hy => ?_) (fun hy => ?_) | refine guardB_bool (fun hy => ?_) (fun hy => ?_) | refine guardQ_ite (fun hy => ?_) (fun hy => ?_) | refine brQ_dec (fun hy => ?_) (fun hy => ?_) | refine brQ_bool (fun hy => ?_) (fun hy => ?_)) <;> (try simp only [Bool.not_eq_true', Bool.not_eq_false', Bool.and_eq_true, Bool.or_eq_false_iff, decide_eq_true_eq, decide_eq_false_iff_not] at hy) <;> simp (disch := first | rfl | omega | exact lt_new _ | assumption | decide | (simp [tk_here, tk_app, tk_0, tk_S, gr_here, gr_app, gr_0, gr_S] <;> omega) | fail) only [r57_0, r57_1, c57, rs57, gc57, go_sem, ↓reduceIte, Nat.reduceLT, Nat.reduceEqDiff, Nat.reduceAdd, Nat.reduceMul, Nat.reduceSub, Int.reduceAdd, Int.reduceSub, Nat.reduceLeDiff, Int.reduceLT, Int.reduceLE, Int.reduceEq, Int.reduceNeg, Int.reduceToNat, hy])
  all_goals (try ((first | refine finQ_same ?_ | refine finQ_app ?_ | (rw [List.append_assoc]; refine finQ_app ?_)) <;> simp (disch := first | rfl | omega | exact lt_new _ | assumption | decide | (simp [tk_here, tk_app, tk_0, tk_S, gr_here, gr_app, gr_0, gr_S] <;> omega) | fail) only [go_sem, ↓reduceIte, Nat.reduceLT, Nat.reduceEqDiff, Nat.reduceAdd, Nat.reduceMul, Nat.reduceSub, Int.reduceAdd, Int.reduceSub, Nat.reduceLeDiff, Int.reduceLT, Int.reduceLE, Int.reduceEq, Int.reduceNeg, Int.reduceToNat, List.append_assoc, List.cons_append, List.nil_append, *]))
  all_goals (try first | rfl | (simp [*]; done) | grind)
theorem fn58 (n : Int) (H : Hp) : callL Tryz.prog pr 58 [.int .i64 n] H = some (.bool (okT n), H) := by
  refine run58 (Nat.le_of_ble_eq_true rfl) ?_
  unfold okT
  simp (disch := first | rfl | omega | exact lt_new _ | assumption | decide | (simp [tk_here, tk_app, tk_0, tk_S, gr_here, gr_app, gr_0, gr_S] <;> omega) | fail) only [r58_0, r58_1, c58, rs58, gc58, go_sem, ↓reduceIte, Nat.reduceLT, Nat.reduceEqDiff, Nat.reduceAdd, Nat.reduceMul, Nat.reduceSub, Int.reduceAdd, Int.reduceSub, Nat.reduceLeDiff, Int.reduceLT, Int.reduceLE, Int.reduceEq, Int.reduceNeg, Int.reduceToNat]
  repeat' ((first | refine guardB_dec (fun hy => ?_) (fun hy => ?_) | refine guardB_bool (fun hy => ?_) (fun hy => ?_) | refine guardQ_ite (fun hy => ?_) (fun hy => ?_) | refine brQ_dec (fun hy => ?_) (fun hy => ?_) | refine brQ_bool (fun hy => ?_) (fun hy => ?_)) <;> (try simp only [Bool.not_eq_true', Bool.not_eq_false', Bool.and_eq_true, Bool.or_eq_false_iff, decide_eq_true_eq, decide_eq_false_iff_not] at hy) <;> simp (disch := first | rfl | omega | exact lt_new _ | assumption | decide | (simp [tk_here, tk_app, tk_0, tk_S, gr_here, gr_app, gr_0, gr_S] <;> omega) | fail) only [r58_0, r58_1, c58, rs58, gc58, go_sem, ↓reduceIte, Nat.reduceLT, Nat.reduceEqDiff, Nat.reduceAdd, Nat.reduceMul, Nat.reduceSub, Int.reduceAdd, Int.reduceSub, Nat.reduceLeDiff, Int.reduceLT, Int.reduceLE, Int.reduceEq, Int.reduceNeg, Int.reduceToNat, hy])
  all_goals (try ((first | refine finQ_same ?_ | refine finQ_app ?_ | (rw [List.append_assoc]; refine finQ_app ?_)) <;> simp (disch := first | rfl | omega | exact lt_new _ | assumption | decide | (simp [tk_here, tk_app, tk_0, tk_S, gr_here, gr_app, gr_0, gr_S] <;> omega) | fail) only [go_sem, ↓reduceIte, Nat.reduceLT, Nat.reduceEqDiff, Nat.reduceAdd, Nat.reduceMul, Nat.reduceSub, Int.reduceAdd, Int.reduceSub, Nat.reduceLeDiff, Int.reduceLT, Int.reduceLE, Int.reduceEq, Int.reduceNeg, Int.reduceToNat, List.append_assoc, List.cons_append, List.nil_append, *]))
  all_goals (try first | rfl | (simp [*]; done) | grind)
theorem fn56 (n : Int) (H : Hp) : callL Tryz.prog pr 56 [.int .i64 n] H = some (.bool (!okT n), H) := by
  have h57 := fn57
  refine run56 (Nat.le_of_ble_eq_true rfl) ?_
  simp (disch := first | rfl | omega | exact lt_new _ | assumption | decide | (simp [tk_here, tk_app, tk_0, tk_S, gr_here, gr_app, gr_0, gr_S] <;> omega) | fail) only [r56_0, r56_1, c56, rs56, gc56, h57, go_sem, ↓reduceIte, Nat.reduceLT, Nat.reduceEqDiff, Nat.reduceAdd, Nat.reduceMul, Nat.reduceSub, Int.reduceAdd, Int.reduceSub, Nat.reduceLeDiff, Int.reduceLT, Int.reduceLE, Int.reduceEq, Int.reduceNeg, Int.reduceToNat]
  repeat' ((first | refine guardB_dec (fun hy => ?_) (fun hy => ?_) | refine guardB_bool (fun hy => ?_) (fun hy => ?_) | refine guardQ_ite (fun hy => ?_) (fun hy => ?_) | refine brQ_dec (fun hy => ?_) (fun hy => ?_) | refine brQ_bool (fun hy => ?_) (fun hy => ?_)) <;> (try simp only [Bool.not_eq_true', Bool.not_eq_false', Bool.and_eq_true, Bool.or_eq_false_iff, decide_eq_true_eq, decide_eq_false_iff_not] at hy) <;> simp (disch := first | rfl | omega | exact lt_new _ | assumption | decide | (simp [tk_here, tk_app, tk_0, tk_S, gr_here, gr_app, gr_0, gr_S] <;> omega) | fail) only [r56_0, r56_1, c56, rs56, gc56, h57, go_sem, ↓reduceIte, Nat.reduceLT, Nat.reduceEqDiff, Nat.reduceAdd, Nat.reduceMul, Nat.reduceSub, Int.reduceAdd, Int.reduceSub, Nat.reduceLeDiff, Int.reduceLT, Int.reduceLE, Int.reduceEq, Int.reduceNeg, Int.reduceToNat, hy])
  all_goals (try ((first | refine finQ_same ?_ | refine finQ_app ?_ | (rw [List.append_assoc]; refine finQ_app ?_)) <;> simp (disch := first | rfl | omega | exact lt_new _ | assumption | decide | (simp [tk_here, tk_app, tk_0, tk_S, gr_here, gr_app, gr_0, gr_S] <;> omega) | fail) only [go_sem, ↓reduceIte, Nat.reduceLT, Nat.reduceEqDiff, Nat.reduceAdd, Nat.reduceMul, Nat.reduceSub, Int.reduceAdd, Int.reduceSub, Nat.reduceLeDiff, Int.reduceLT, Int.reduceLE, Int.reduceEq, Int.reduceNeg, Int.reduceToNat, List.append_assoc, List.cons_append, List.nil_append, *]))
  all_goals (try first | rfl | (simp [*]; done) | grind)
theorem fn54 {b : Bool} {l : List Int} (H : Hp) : callL Tryz.prog pr 54 [slV b inE l] H = some (.bool (decide ((200 : Int) < l.length)), H) := by
  refine run54 (Nat.le_of_ble_eq_true rfl) ?_
  simp (disch := first | rfl | omega | exact lt_new _ | assumption | decide | (simp [tk_here, tk_app, tk_0, tk_S, gr_here, gr_app, gr_0, gr_S] <;> omega) | fail) only [r54_0, r54_1, c54, rs54, gc54, go_sem, ↓reduceIte, Nat.reduceLT, Nat.reduceEqDiff, Nat.reduceAdd, Nat.reduceMul, Nat.reduceSub, Int.reduceAdd, Int.reduceSub, Nat.reduceLeDiff, Int.reduceLT, Int.reduceLE, Int.reduceEq, Int.reduceNeg, Int.reduceToNat]
  repeat' ((first | refine guardB_dec (fun hy => ?_) (fun hy => ?_) | refine guardB_bool (fun hy => ?_) (fun hy => ?_) | refine guardQ_ite (fun hy => ?_) (fun hy => ?_) | refine brQ_dec (fun hy => ?_) (fun hy => ?_) | refine brQ_bool (fun hy => ?_) (fun hy => ?_)) <;> (try simp only [Bool.not_eq_true', Bool.not_eq_false', Bool.and_eq_true, Bool.or_eq_false_iff, decide_eq_true_eq, decide_eq_false_iff_not] at hy) <;> simp (disch := first | rfl | omega | exact lt_new _ | assumption | decide | (simp [tk_here, tk_app, tk_0, tk_S, gr_here, gr_app, gr_0, gr_S] <;> omega) | fail) only [r54_0, r54_1, c54, rs54, gc54, go_sem, ↓reduceIte, Nat.reduceLT, Nat.reduceEqDiff, Nat.reduceAdd, Nat.reduceMul, Nat.reduceSub, Int.reduceAdd, Int.reduceSub, Nat.reduceLeDiff, Int.reduceLT, Int.reduceLE, Int.reduceEq, Int.reduceNeg, Int.reduceToNat, hy])
  all_goals (try ((first | refine finQ_same ?_ | refine finQ_app ?_ | (rw [List.append_assoc]; refine finQ_app ?_)) <;> simp (disch := first | rfl | omega | exact lt_new _ | assumption | decide | (simp [tk_here, tk_app, tk_0, tk_S, gr_here, gr_app, gr_0, gr_S] <;> omega) | fail) only [go_sem, ↓reduceIte, Nat.reduceLT, Nat.reduceEqDiff, Nat.reduceAdd, Nat.reduceMul, Nat.reduceSub, Int.reduceAdd, Int.reduceSub, Nat.reduceLeDiff, Int.reduceLT, Int.reduceLE, Int.reduceEq, Int.reduceNeg, Int.reduceToNat, List.append_assoc, List.cons_append, List.nil_append, *]))
  all_goals (try first | rfl | (simp [*]; done) | grind)
theorem fn110L {b : Bool} {l : List Int} {H : Hp} (hlen : l.length < 2 ^ 62) (p : Int → Bool) (f : Nat) (ca cb : List V) (hk : ∀ v, demK f v = v.dem) (hf : ∀ x ∈ l, callL Tryz.prog pr f (ca ++ [.int .i64 x] ++ cb) H = some (.bool (p x), H)) : callL Tryz.prog pr 110 [slV b inE l, .fn f ca cb] H = some (.int .i64 (findI p l 0), H) := by
  have hfy := ne_demK hk
  refine run110 (Nat.le_of_ble_eq_true rfl) ?_
  simp (disch := first | rfl | omega | exact lt_new _ | assumption | decide | (simp [tk_here, tk_app, tk_0, tk_S, gr_here, gr_app, gr_0, gr_S] <;> omega) | fail) only [r110_0, r110_1, r110_2, r110_3, r110_4, r110_5, r110_6, r110_8, c110, rs110, gc110, go_sem, ↓reduceIte, Nat.reduceLT, Nat.reduceEqDiff, Nat.reduceAdd, Nat.reduceMul, Nat.reduceSub, Int.reduceAdd, Int.reduceSub, Nat.reduceLeDiff, Int.reduceLT, Int.reduceLE, Int.reduceEq, Int.reduceNeg, Int.reduceToNat]
  refine Wp_loop (fun m T D H' => ∃ i, m = l.length - i ∧ i ≤ l.length ∧ D = [] ∧ H' = H ∧ get T 0 = slV b inE l ∧ get T 1 = .fn f ca cb ∧ get T 7 = .int .i64 l.length ∧ get T 8 = .int .i64 i ∧ findI p l 0 = findI p (l.drop i) i) ?_ l.length _ _ _ ?_
  · rintro m T D H' ⟨i, rfl, hi, rfl, rfl, h0, h1, h7, h8, hp⟩
    by_cases hlt : i < l.length
    · have hlt' : (i : Int) < l.length := by omega
      have hpi := findI_drop p (inE.at_some hlt) i
      have hfi := hf _ (inE.at_mem hlt)
      have hld := fun H => @ld_cell0 _ Tryz.prog H _ inE l 3 1 i g3 rfl hlt
      simp (disch := first | rfl | omega | exact lt_new _ | assumption | decide | (simp [tk_here, tk_app, tk_0, tk_S, gr_here, gr_app, gr_0, gr_S] <;> omega) | fail) only [r110_0, r110_1, r110_2, r110_3, r110_4, r110_5, r110_6, l110_7, r110_8, c110, rs110, gc110, go_sem, ↓reduceIte, Nat.reduceLT, Nat.reduceEqDiff, Nat.reduceAdd, Nat.reduceMul, Nat.reduceSub, Int.reduceAdd, Int.reduceSub, Nat.reduceLeDiff, Int.reduceLT, Int.reduceLE, Int.reduceEq, Int.reduceNeg, Int.reduceToNat, h0, h1, h7, h8, hld, hk, hfi, hlt', decide_true]
      refine brQ_bool (fun hy => ?_) (fun hy => ?_)
      · rw [if_pos hy] at hpi
        simp (disch := first | rfl | omega | exact lt_new _ | assumption | decide | (simp [tk_here, tk_app, tk_0, tk_S, gr_here, gr_app, gr_0, gr_S] <;> omega) | fail) only [r110_0, r110_1, r110_2, r110_3, r110_4, r110_5, r110_6, l110_7, r110_8, c110, rs110, gc110, go_sem, ↓reduceIte, Nat.reduceLT, Nat.reduceEqDiff, Nat.reduceAdd, Nat.reduceMul, Nat.reduceSub, Int.reduceAdd, Int.reduceSub, Nat.reduceLeDiff, Int.reduceLT, Int.reduceLE, Int.reduceEq, Int.reduceNeg, Int.reduceToNat, h0, h1, h7, h8]
        refine finQ_same ?_
        simp (disch := first | rfl | omega | exact lt_new _ | assumption | decide | (simp [tk_here, tk_app, tk_0, tk_S, gr_here, gr_app, gr_0, gr_S] <;> omega) | fail) only [go_sem, ↓reduceIte, Nat.reduceLT, Nat.reduceEqDiff, Nat.reduceAdd, Nat.reduceMul, Nat.reduceSub, Int.reduceAdd, Int.reduceSub, Nat.reduceLeDiff, Int.reduceLT, Int.reduceLE, Int.reduceEq, Int.reduceNeg, Int.reduceToNat, hp, hpi]
      · rw [if_neg (by simp [hy])] at hpi
        simp (disch := first | rfl | omega | exact lt_new _ | assumption | decide | (simp [tk_here, tk_app, tk_0, tk_S, gr_here, gr_app, gr_0, gr_S] <;> omega) | fail) only [r110_0, r110_1, r110_2, r110_3, r110_4, r110_5, r110_6, l110_7, r110_8, c110, rs110, gc110, go_sem, ↓reduceIte, Nat.reduceLT, Nat.reduceEqDiff, Nat.reduceAdd, Nat.reduceMul, Nat.reduceSub, Int.reduceAdd, Int.reduceSub, Nat.reduceLeDiff, Int.reduceLT, Int.reduceLE, Int.reduceEq, Int.reduceNeg, Int.reduceToNat, h0, h1, h7, h8]
        exact ⟨_, by omega, i + 1, rfl, hlt, rfl, by rw [hp, hpi]; rfl⟩
    · obtain rfl : i = l.length := by omega
      simp (disch := first | rfl | omega | exact lt_new _ | assumption | decide | (simp [tk_here, tk_app, tk_0, tk_S, gr_here, gr_app, gr_0, gr_S] <;> omega) | fail) only [r110_0, r110_1, r110_2, r110_3, r110_4, r110_5, r110_6, l110_7, r110_8, c110, rs110, gc110, go_sem, ↓reduceIte, Nat.reduceLT, Nat.reduceEqDiff, Nat.reduceAdd, Nat.reduceMul, Nat.reduceSub, Int.reduceAdd, Int.reduceSub, Nat.reduceLeDiff, Int.reduceLT, Int.reduceLE, Int.reduceEq, Int.reduceNeg, Int.reduceToNat, h0, h1, h7, h8, Int.lt_irrefl, decide_false]
      refine finQ_same ?_
      rw [hp, List.drop_length]
      simp (disch := first | rfl | omega | exact lt_new _ | assumption | decide | (simp [tk_here, tk_app, tk_0, tk_S, gr_here, gr_app, gr_0, gr_S] <;> omega) | fail) only [go_sem, ↓reduceIte, Nat.reduceLT, Nat.reduceEqDiff, Nat.reduceAdd, Nat.reduceMul, Nat.reduceSub, Int.reduceAdd, Int.reduceSub, Nat.reduceLeDiff, Int.reduceLT, Int.reduceLE, Int.reduceEq, Int.reduceNeg, Int.reduceToNat, findI]
  · exact ⟨0, by simp [go_sem]⟩

theorem fn55L {b : Bool} {l : List Int} {H : Hp} (hlen : l.length < 2 ^ 62) (p : Int → Bool) (f : Nat) (ca cb : List V) (hk : ∀ v, demK f v = v.dem) (hf : ∀ x ∈ l, callL Tryz.prog pr f (ca ++ [.int .i64 x] ++ cb) H = some (.bool (p x), H)) : callL Tryz.prog pr 55 [slV b inE l, .fn f ca cb] H = some (.bool (l.any p), H) := by
  refine run55 (Nat.le_of_ble_eq_true rfl) ?_
  simp (disch := first | rfl | omega | exact lt_new _ | assumption | decide | (simp [tk_here, tk_app, tk_0, tk_S, gr_here, gr_app, gr_0, gr_S] <;> omega) | fail) only [r55_0, r55_1, c55, rs55, gc55, go_sem, ↓reduceIte, Nat.reduceLT, Nat.reduceEqDiff, Nat.reduceAdd, Nat.reduceMul, Nat.reduceSub, Int.reduceAdd, Int.reduceSub, Nat.reduceLeDiff, Int.reduceLT, Int.reduceLE, Int.reduceEq, Int.reduceNeg, Int.reduceToNat, fn110L hlen p f ca cb hk hf]
  refine finQ_same ?_
  simp (disch := first | rfl | omega | exact lt_new _ | assumption | decide | (simp [tk_here, tk_app, tk_0, tk_S, gr_here, gr_app, gr_0, gr_S] <;> omega) | fail) only [go_sem, ↓reduceIte, Nat.reduceLT, Nat.reduceEqDiff, Nat.reduceAdd, Nat.reduceMul, Nat.reduceSub, Int.reduceAdd, Int.reduceSub, Nat.reduceLeDiff, Int.reduceLT, Int.reduceLE, Int.reduceEq, Int.reduceNeg, Int.reduceToNat, findI_any p l 0 (by omega)]

@[go_sem] theorem ld_in {l : List Int} {i : Nat} {H : Hp} (h : i < l.length) : loadV Tryz.prog 3 H (.ipt (flatE inE l) (i * 1)) = some (.int .i64 (inE.at l i)) := ld_cell0 g3 rfl h
@[go_sem] theorem ld_in0 {l : List Int} {H : Hp} (h : 0 < l.length) : loadV Tryz.prog 3 H (.ipt (flatE inE l) 0) = some (.int .i64 (inE.at l 0)) := ld_in (i := 0) h
@[go_sem] theorem ld_bo {l : List Bool} {i : Nat} {H : Hp} (h : i < l.length) : loadV Tryz.prog 4 H (.ipt (flatE boE l) (i * 1)) = some (.bool (boE.at l i)) := ld_cell0 g4 rfl h
/-- A law's three numbers. -/
structure Tr where
  a : Int
  b : Int
  c : Int
  deriving DecidableEq
def trE : Enc Tr := ⟨fun p => [.int .i64 p.a, .int .i64 p.b, .int .i64 p.c], 3, ⟨0, 0, 0⟩, fun _ => rfl, by decide, fun p => by simp only [immL, slV_imm]; rfl⟩
theorem trE_f (p : Tr) : trE.f p = [.int .i64 p.a, .int .i64 p.b, .int .i64 p.c] := rfl
@[go_sem] theorem trE_w : trE.w = 3 := rfl
@[go_sem] theorem trE_l (p : Tr) : (trE.f p).length = 3 := rfl
@[go_sem] theorem trE_t (p : Tr) : (trE.f p).take 3 = trE.f p := rfl
@[go_sem] theorem trE_sa (p : Tr) : setAt [.int .i64 0, .int .i64 0, .int .i64 0] 0 (trE.f p) = trE.f p := rfl
@[go_sem] theorem trE_pa (p : Tr) : partK (some true) (some 3) (trE.f p) 0 = some (.agg (trE.f p)) := rfl
@[go_sem] theorem trE_0 (p : Tr) : (trE.f p)[0]? = some (.int .i64 p.a) := rfl
@[go_sem] theorem trE_1 (p : Tr) : (trE.f p)[1]? = some (.int .i64 p.b) := rfl
@[go_sem] theorem trE_2 (p : Tr) : (trE.f p)[2]? = some (.int .i64 p.c) := rfl
@[go_sem] theorem ld_trE {l : List Tr} {i : Nat} {H : Hp} (h : i < l.length) : loadV Tryz.prog 32 H (.ipt (flatE trE l) (i * 3)) = some (.agg (trE.f (trE.at l i))) := ld_agg g32 z32 rfl h
@[go_sem] theorem ld_trE_0 {l : List Tr} {i : Nat} {H : Hp} (h : i < l.length) : loadV Tryz.prog 3 H (.ipt (flatE trE l) (i * 3)) = some (.int .i64 (trE.at l i).a) := ld_cell0 g3 rfl h
@[go_sem] theorem ld_trE_1 {l : List Tr} {i : Nat} {H : Hp} (h : i < l.length) : loadV Tryz.prog 3 H (.ipt (flatE trE l) (i * 3 + 1)) = some (.int .i64 (trE.at l i).b) := ld_cell (j := 1) g3 rfl h (by omega)
@[go_sem] theorem ld_trE_2 {l : List Tr} {i : Nat} {H : Hp} (h : i < l.length) : loadV Tryz.prog 3 H (.ipt (flatE trE l) (i * 3 + 2)) = some (.int .i64 (trE.at l i).c) := ld_cell (j := 2) g3 rfl h (by omega)
def TrOk (p : Tr) : Prop := Inx p.a ∧ Inx p.b ∧ Inx p.c
theorem trE_3 (a b c : Int) : ([.int .i64 a, .int .i64 b, .int .i64 c] : List V) = trE.f ⟨a, b, c⟩ := rfl
@[go_sem] theorem ck_trE (x : Tr) : ckOks [.int .i64, .int .i64, .int .i64] (trE.f x) = true := rfl
@[go_sem] theorem eq_trE (x y : Tr) : eqCells (trE.f x) (trE.f y) = decide (x = y) := by
  obtain ⟨a, b, c⟩ := x
  obtain ⟨a', b', c'⟩ := y
  simp only [trE_f, eqCells_cons, eqCells_nil, eqCell_int, Tr.mk.injEq, Bool.decide_and, Bool.and_true]
@[go_sem] theorem pa3 (a b c : V) : partK (some true) (some 3) [a, b, c] 0 = some (.agg [a, b, c]) := rfl
@[go_sem] theorem sa3 (x y z a b c : V) : setAt [x, y, z] 0 [a, b, c] = [a, b, c] := rfl
@[go_sem] theorem sa3_1 (x y z a : V) : setAt [x, y, z] 1 [a] = [x, a, z] := rfl
@[go_sem] theorem sa3_2 (x y z a : V) : setAt [x, y, z] 2 [a] = [x, y, a] := rfl
/-- The last one that is shown ahead of a place. -/
def lastS (s : List Bool) : Nat → Int
  | 0 => -1
  | k + 1 => if boE.at s k = true then (k : Int) else lastS s k
theorem lastS_lt (s : List Bool) : ∀ k, -1 ≤ lastS s k ∧ lastS s k < k
  | 0 => by simp [lastS]
  | k + 1 => by
    have := lastS_lt s k
    unfold lastS
    split <;> omega
def delR (t : List Int) (s : List Bool) (k : Nat) : Tr := ⟨inE.at t k - inE.at t 0, inE.at t k - inE.at t (k - 1), if 0 ≤ lastS s k then inE.at t k - inE.at t (lastS s k).toNat else 0⟩
def dels (t : List Int) (s : List Bool) : Nat → List Tr
  | 0 => []
  | k + 1 => dels t s k ++ [delR t s k]
theorem dels_len (t : List Int) (s : List Bool) : ∀ k, (dels t s k).length = k
  | 0 => rfl
  | k + 1 => by simp [dels, dels_len t s k]
def delF (t : List Int) (s : List Bool) : List Tr × Int := if t.length ≠ s.length then ([], 10) else if 200 < t.length then ([], 3) else if (t.any fun n => !okT n) = true then ([], 1) else (dels t s t.length, 0)
theorem okT_at {t : List Int} (h : ¬ (t.any fun n => !okT n) = true) {i : Nat} (hi : i < t.length) : 0 ≤ inE.at t i ∧ inE.at t i ≤ 1000000000000000 := by
  simp only [List.any_eq_true, not_exists, not_and, Bool.not_eq_true', Bool.not_eq_false] at h
  have := h _ (inE.at_mem hi)
  simpa [okT] using this
theorem lo_max {k : Nat} : (if (k : Int) - 1 > 0 then (k : Int) - 1 else 0) = ((k - 1 : Nat) : Int) := by
  split <;> omega
set_option maxHeartbeats 4000000 in
theorem fn17 (bt bs : Bool) (t : List Int) (s : List Bool) (h1 : t.length ≤ 2 ^ 48) (h2 : s.length ≤ 2 ^ 48) (H : Hp) : callL Tryz.prog pr 17 [slV bt inE t, slV bs boE s] H = some (.tup [slV true trE (delF t s).1, .int .i64 (delF t s).2], H) := by
  have h54 := fn54 (b := bt) (l := t)
  have h55 := fun H => fn55L (b := bt) (l := t) (H := H) (by omega) (fun n => !okT n) 56 [] [] kp56 (fun x _ => fn56 x H)
  refine run17 (Nat.le_of_ble_eq_true rfl) ?_
  unfold delF
  by_cases ha : t.length = s.length
  case neg =>
    rw [if_pos ha]
    have ha2 : ¬ ((t.length : Int) = s.length) := by omega
    simp (disch := first | rfl | omega | exact lt_new _ | assumption | decide | (simp [tk_here, tk_app, tk_0, tk_S, gr_here, gr_app, gr_0, gr_S] <;> omega) | fail) only [r17_0, r17_1, r17_2, r17_3, r17_4, r17_5, r17_6, r17_7, r17_8, r17_9, r17_10, r17_11, r17_12, r17_13, r17_14, r17_15, r17_16, r17_17, r17_18, r17_20, c17, rs17, gc17, ha2, slV_nil, go_sem, ↓reduceIte, Nat.reduceLT, Nat.reduceEqDiff, Nat.reduceAdd, Nat.reduceMul, Nat.reduceSub, Int.reduceAdd, Int.reduceSub, Nat.reduceLeDiff, Int.reduceLT, Int.reduceLE, Int.reduceEq, Int.reduceNeg, Int.reduceToNat]
    repeat' ((first | refine guardB_dec (fun hy => ?_) (fun hy => ?_) | refine guardB_bool (fun hy => ?_) (fun hy => ?_) | refine guardQ_ite (fun hy => ?_) (fun hy => ?_) | refine brQ_dec (fun hy => ?_) (fun hy => ?_) | refine brQ_bool (fun hy => ?_) (fun hy => ?_)) <;> (try simp only [Bool.not_eq_true', Bool.not_eq_false', Bool.and_eq_true, Bool.or_eq_false_iff, decide_eq_true_eq, decide_eq_false_iff_not] at hy) <;> simp (disch := first | rfl | omega | exact lt_new _ | assumption | decide | (simp [tk_here, tk_app, tk_0, tk_S, gr_here, gr_app, gr_0, gr_S] <;> omega) | fail) only [r17_0, r17_1, r17_2, r17_3, r17_4, r17_5, r17_6, r17_7, r17_8, r17_9, r17_10, r17_11, r17_12, r17_13, r17_14, r17_15, r17_16, r17_17, r17_18, r17_20, c17, rs17, gc17, ha2, slV_nil, go_sem, ↓reduceIte, Nat.reduceLT, Nat.reduceEqDiff, Nat.reduceAdd, Nat.reduceMul, Nat.reduceSub, Int.reduceAdd, Int.reduceSub, Nat.reduceLeDiff, Int.reduceLT, Int.reduceLE, Int.reduceEq, Int.reduceNeg, Int.reduceToNat, hy])
    all_goals (try ((first | refine finQ_same ?_ | refine finQ_app ?_ | (rw [List.append_assoc]; refine finQ_app ?_)) <;> simp (disch := first | rfl | omega | exact lt_new _ | assumption | decide | (simp [tk_here, tk_app, tk_0, tk_S, gr_here, gr_app, gr_0, gr_S] <;> omega) | fail) only [go_sem, ↓reduceIte, Nat.reduceLT, Nat.reduceEqDiff, Nat.reduceAdd, Nat.reduceMul, Nat.reduceSub, Int.reduceAdd, Int.reduceSub, Nat.reduceLeDiff, Int.reduceLT, Int.reduceLE, Int.reduceEq, Int.reduceNeg, Int.reduceToNat, List.append_assoc, List.cons_append, List.nil_append, *]))
    all_goals (try first | rfl | (simp [*]; done) | grind)
  rw [if_neg (fun h => h ha)]
  have ha2 : (t.length : Int) = s.length := by omega
  by_cases hb : 200 < t.length
  case pos =>
    rw [if_pos hb]
    have hb2 : (200 : Int) < s.length := by omega
    simp (disch := first | rfl | omega | exact lt_new _ | assumption | decide | (simp [tk_here, tk_app, tk_0, tk_S, gr_here, gr_app, gr_0, gr_S] <;> omega) | fail) only [r17_0, r17_1, r17_2, r17_3, r17_4, r17_5, r17_6, r17_7, r17_8, r17_9, r17_10, r17_11, r17_12, r17_13, r17_14, r17_15, r17_16, r17_17, r17_18, r17_20, c17, rs17, gc17, ha2, h54, hb2, slV_nil, go_sem, ↓reduceIte, Nat.reduceLT, Nat.reduceEqDiff, Nat.reduceAdd, Nat.reduceMul, Nat.reduceSub, Int.reduceAdd, Int.reduceSub, Nat.reduceLeDiff, Int.reduceLT, Int.reduceLE, Int.reduceEq, Int.reduceNeg, Int.reduceToNat]
    repeat' ((first | refine guardB_dec (fun hy => ?_) (fun hy => ?_) | refine guardB_bool (fun hy => ?_) (fun hy => ?_) | refine guardQ_ite (fun hy => ?_) (fun hy => ?_) | refine brQ_dec (fun hy => ?_) (fun hy => ?_) | refine brQ_bool (fun hy => ?_) (fun hy => ?_)) <;> (try simp only [Bool.not_eq_true', Bool.not_eq_false', Bool.and_eq_true, Bool.or_eq_false_iff, decide_eq_true_eq, decide_eq_false_iff_not] at hy) <;> simp (disch := first | rfl | omega | exact lt_new _ | assumption | decide | (simp [tk_here, tk_app, tk_0, tk_S, gr_here, gr_app, gr_0, gr_S] <;> omega) | fail) only [r17_0, r17_1, r17_2, r17_3, r17_4, r17_5, r17_6, r17_7, r17_8, r17_9, r17_10, r17_11, r17_12, r17_13, r17_14, r17_15, r17_16, r17_17, r17_18, r17_20, c17, rs17, gc17, ha2, h54, hb2, slV_nil, go_sem, ↓reduceIte, Nat.reduceLT, Nat.reduceEqDiff, Nat.reduceAdd, Nat.reduceMul, Nat.reduceSub, Int.reduceAdd, Int.reduceSub, Nat.reduceLeDiff, Int.reduceLT, Int.reduceLE, Int.reduceEq, Int.reduceNeg, Int.reduceToNat, hy])
    all_goals (try ((first | refine finQ_same ?_ | refine finQ_app ?_ | (rw [List.append_assoc]; refine finQ_app ?_)) <;> simp (disch := first | rfl | omega | exact lt_new _ | assumption | decide | (simp [tk_here, tk_app, tk_0, tk_S, gr_here, gr_app, gr_0, gr_S] <;> omega) | fail) only [go_sem, ↓reduceIte, Nat.reduceLT, Nat.reduceEqDiff, Nat.reduceAdd, Nat.reduceMul, Nat.reduceSub, Int.reduceAdd, Int.reduceSub, Nat.reduceLeDiff, Int.reduceLT, Int.reduceLE, Int.reduceEq, Int.reduceNeg, Int.reduceToNat, List.append_assoc, List.cons_append, List.nil_append, *]))
    all_goals (try first | rfl | (simp [*]; done) | grind)
  rw [if_neg hb]
  have hb2 : ¬ (200 : Int) < s.length := by omega
  by_cases hc : (t.any fun n => !okT n) = true
  case pos =>
    rw [if_pos hc]
    simp (disch := first | rfl | omega | exact lt_new _ | assumption | decide | (simp [tk_here, tk_app, tk_0, tk_S, gr_here, gr_app, gr_0, gr_S] <;> omega) | fail) only [r17_0, r17_1, r17_2, r17_3, r17_4, r17_5, r17_6, r17_7, r17_8, r17_9, r17_10, r17_11, r17_12, r17_13, r17_14, r17_15, r17_16, r17_17, r17_18, r17_20, c17, rs17, gc17, ha2, h54, hb2, h55, hc, slV_nil, go_sem, ↓reduceIte, Nat.reduceLT, Nat.reduceEqDiff, Nat.reduceAdd, Nat.reduceMul, Nat.reduceSub, Int.reduceAdd, Int.reduceSub, Nat.reduceLeDiff, Int.reduceLT, Int.reduceLE, Int.reduceEq, Int.reduceNeg, Int.reduceToNat]
    repeat' ((first | refine guardB_dec (fun hy => ?_) (fun hy => ?_) | refine guardB_bool (fun hy => ?_) (fun hy => ?_) | refine guardQ_ite (fun hy => ?_) (fun hy => ?_) | refine brQ_dec (fun hy => ?_) (fun hy => ?_) | refine brQ_bool (fun hy => ?_) (fun hy => ?_)) <;> (try simp only [Bool.not_eq_true', Bool.not_eq_false', Bool.and_eq_true, Bool.or_eq_false_iff, decide_eq_true_eq, decide_eq_false_iff_not] at hy) <;> simp (disch := first | rfl | omega | exact lt_new _ | assumption | decide | (simp [tk_here, tk_app, tk_0, tk_S, gr_here, gr_app, gr_0, gr_S] <;> omega) | fail) only [r17_0, r17_1, r17_2, r17_3, r17_4, r17_5, r17_6, r17_7, r17_8, r17_9, r17_10, r17_11, r17_12, r17_13, r17_14, r17_15, r17_16, r17_17, r17_18, r17_20, c17, rs17, gc17, ha2, h54, hb2, h55, hc, slV_nil, go_sem, ↓reduceIte, Nat.reduceLT, Nat.reduceEqDiff, Nat.reduceAdd, Nat.reduceMul, Nat.reduceSub, Int.reduceAdd, Int.reduceSub, Nat.reduceLeDiff, Int.reduceLT, Int.reduceLE, Int.reduceEq, Int.reduceNeg, Int.reduceToNat, hy])
    all_goals (try ((first | refine finQ_same ?_ | refine finQ_app ?_ | (rw [List.append_assoc]; refine finQ_app ?_)) <;> simp (disch := first | rfl | omega | exact lt_new _ | assumption | decide | (simp [tk_here, tk_app, tk_0, tk_S, gr_here, gr_app, gr_0, gr_S] <;> omega) | fail) only [go_sem, ↓reduceIte, Nat.reduceLT, Nat.reduceEqDiff, Nat.reduceAdd, Nat.reduceMul, Nat.reduceSub, Int.reduceAdd, Int.reduceSub, Nat.reduceLeDiff, Int.reduceLT, Int.reduceLE, Int.reduceEq, Int.reduceNeg, Int.reduceToNat, List.append_assoc, List.cons_append, List.nil_append, *]))
    all_goals (try first | rfl | (simp [*]; done) | grind)
  rw [if_neg hc]
  have hc2 := Bool.not_eq_true _ ▸ hc
  simp (disch := first | rfl | omega | exact lt_new _ | assumption | decide | (simp [tk_here, tk_app, tk_0, tk_S, gr_here, gr_app, gr_0, gr_S] <;> omega) | fail) only [r17_0, r17_1, r17_2, r17_3, r17_4, r17_5, r17_6, r17_7, r17_8, r17_9, r17_10, r17_11, r17_12, r17_13, r17_14, r17_15, r17_16, r17_17, r17_18, r17_20, c17, rs17, gc17, ha2, h54, hb2, h55, hc2, go_sem, ↓reduceIte, Nat.reduceLT, Nat.reduceEqDiff, Nat.reduceAdd, Nat.reduceMul, Nat.reduceSub, Int.reduceAdd, Int.reduceSub, Nat.reduceLeDiff, Int.reduceLT, Int.reduceLE, Int.reduceEq, Int.reduceNeg, Int.reduceToNat]
  repeat' ((first | refine guardB_dec (fun hy => ?_) (fun hy => ?_) | refine guardB_bool (fun hy => ?_) (fun hy => ?_) | refine guardQ_ite (fun hy => ?_) (fun hy => ?_) | refine brQ_dec (fun hy => ?_) (fun hy => ?_) | refine brQ_bool (fun hy => ?_) (fun hy => ?_)) <;> (try simp only [Bool.not_eq_true', Bool.not_eq_false', Bool.and_eq_true, Bool.or_eq_false_iff, decide_eq_true_eq, decide_eq_false_iff_not] at hy) <;> simp (disch := first | rfl | omega | exact lt_new _ | assumption | decide | (simp [tk_here, tk_app, tk_0, tk_S, gr_here, gr_app, gr_0, gr_S] <;> omega) | fail) only [r17_0, r17_1, r17_2, r17_3, r17_4, r17_5, r17_6, r17_7, r17_8, r17_9, r17_10, r17_11, r17_12, r17_13, r17_14, r17_15, r17_16, r17_17, r17_18, r17_20, c17, rs17, gc17, ha2, h54, hb2, h55, hc2, go_sem, ↓reduceIte, Nat.reduceLT, Nat.reduceEqDiff, Nat.reduceAdd, Nat.reduceMul, Nat.reduceSub, Int.reduceAdd, Int.reduceSub, Nat.reduceLeDiff, Int.reduceLT, Int.reduceLE, Int.reduceEq, Int.reduceNeg, Int.reduceToNat, hy])
  refine Wp_loop (fun m T D H' => ∃ k G, m = t.length - k ∧ k ≤ t.length ∧ D = [] ∧ H' = H ++ .tok ((dels t s k).length * 3) :: G ∧ get T 0 = slV bt inE t ∧ get T 1 = slV bs boE s ∧ get T 6 = osV H.length trE (dels t s k) ∧ get T 7 = .int .i64 (lastS s k) ∧ get T 23 = slV bt inE t ∧ get T 24 = .int .i64 t.length ∧ get T 25 = .int .i64 k) ?_ t.length _ _ _ ?_
  case refine_2 => exact ⟨0, [], by simp (disch := first | rfl | omega | exact lt_new _ | assumption | decide | (simp [tk_here, tk_app, tk_0, tk_S, gr_here, gr_app, gr_0, gr_S] <;> omega) | fail) only [go_sem, ↓reduceIte, Nat.reduceLT, Nat.reduceEqDiff, Nat.reduceAdd, Nat.reduceMul, Nat.reduceSub, Int.reduceAdd, Int.reduceSub, Nat.reduceLeDiff, Int.reduceLT, Int.reduceLE, Int.reduceEq, Int.reduceNeg, Int.reduceToNat]; simp [dels, lastS, osV_nil, ha2]⟩
  rintro m T D H' ⟨k, G, rfl, hk, rfl, rfl, t0, t1, t6, t7, t23, t24, t25⟩
  have hdl := dels_len t s k
  by_cases hlt : k < t.length
  · have hlt' : (k : Int) < t.length := by omega
    have hls' : (k : Int) < s.length := by omega
    have hmx := lo_max (k := k)
    obtain ⟨a1, a2⟩ := okT_at hc hlt
    obtain ⟨b1, b2⟩ := okT_at hc (i := 0) (by omega)
    obtain ⟨c1, c2⟩ := okT_at hc (i := k - 1) (by omega)
    obtain ⟨d1, d2⟩ := lastS_lt s k
    have hdn : dels t s (k + 1) = dels t s k ++ [delR t s k] := rfl
    have hln : lastS s (k + 1) = if boE.at s k = true then (k : Int) else lastS s k := rfl
    by_cases hq : 0 ≤ lastS s k
    · obtain ⟨j, hj⟩ : ∃ j : Nat, lastS s k = j := ⟨(lastS s k).toNat, by omega⟩
      obtain ⟨e1, e2⟩ := okT_at hc (i := j) (by omega)
      have hr : ([.int .i64 (inE.at t k - inE.at t 0), .int .i64 (inE.at t k - inE.at t (k - 1)), .int .i64 (inE.at t k - inE.at t j)] : List V) = trE.f (delR t s k) := by
        unfold delR; rw [if_pos hq, hj]; rfl
      rw [hj] at t7 d1 d2
      have hj0 : (0 : Int) ≤ j := by omega
      simp (disch := first | rfl | omega | exact lt_new _ | assumption | decide | (simp [tk_here, tk_app, tk_0, tk_S, gr_here, gr_app, gr_0, gr_S] <;> omega) | fail) only [r17_0, r17_1, r17_2, r17_3, r17_4, r17_5, r17_6, r17_7, r17_8, r17_9, r17_10, r17_11, r17_12, r17_13, r17_14, r17_15, r17_16, r17_17, r17_18, l17_19, r17_20, c17, rs17, gc17, loadV_ptr, storeV_ptr, List.append_assoc, List.length_append, List.length_cons, List.length_nil, List.set_cons_zero, List.set_cons_succ, tk_here, tk_app, gr_here, gr_app, st_here, st_app, t0, t1, t6, t7, t23, t24, t25, hlt', hls', hmx, hr, hj0, go_sem, ↓reduceIte, Nat.reduceLT, Nat.reduceEqDiff, Nat.reduceAdd, Nat.reduceMul, Nat.reduceSub, Int.reduceAdd, Int.reduceSub, Nat.reduceLeDiff, Int.reduceLT, Int.reduceLE, Int.reduceEq, Int.reduceNeg, Int.reduceToNat]
      repeat' ((first | refine guardB_dec (fun hy => ?_) (fun hy => ?_) | refine guardB_bool (fun hy => ?_) (fun hy => ?_) | refine guardQ_ite (fun hy => ?_) (fun hy => ?_) | refine brQ_dec (fun hy => ?_) (fun hy => ?_) | refine brQ_bool (fun hy => ?_) (fun hy => ?_)) <;> (try simp only [Bool.not_eq_true', Bool.not_eq_false', Bool.and_eq_true, Bool.or_eq_false_iff, decide_eq_true_eq, decide_eq_false_iff_not] at hy) <;> simp (disch := first | rfl | omega | exact lt_new _ | assumption | decide | (simp [tk_here, tk_app, tk_0, tk_S, gr_here, gr_app, gr_0, gr_S] <;> omega) | fail) only [r17_0, r17_1, r17_2, r17_3, r17_4, r17_5, r17_6, r17_7, r17_8, r17_9, r17_10, r17_11, r17_12, r17_13, r17_14, r17_15, r17_16, r17_17, r17_18, l17_19, r17_20, c17, rs17, gc17, loadV_ptr, storeV_ptr, List.append_assoc, List.length_append, List.length_cons, List.length_nil, List.set_cons_zero, List.set_cons_succ, tk_here, tk_app, gr_here, gr_app, st_here, st_app, t0, t1, t6, t7, t23, t24, t25, hlt', hls', hmx, hr, hj0, go_sem, ↓reduceIte, Nat.reduceLT, Nat.reduceEqDiff, Nat.reduceAdd, Nat.reduceMul, Nat.reduceSub, Int.reduceAdd, Int.reduceSub, Nat.reduceLeDiff, Int.reduceLT, Int.reduceLE, Int.reduceEq, Int.reduceNeg, Int.reduceToNat, hy])
      all_goals exact ⟨_, by omega, k + 1, _, rfl, hlt, by rw [hdn, List.length_append]; rfl, by rw [hdn], by rw [hln]; simp [*], rfl⟩
    · have hr : ([.int .i64 (inE.at t k - inE.at t 0), .int .i64 (inE.at t k - inE.at t (k - 1)), .int .i64 0] : List V) = trE.f (delR t s k) := by
        unfold delR; rw [if_neg hq]; rfl
      have hr2 : setAt (trE.f (delR t s k)) 2 [.int .i64 0] = trE.f (delR t s k) := by rw [← hr]; rfl
      simp (disch := first | rfl | omega | exact lt_new _ | assumption | decide | (simp [tk_here, tk_app, tk_0, tk_S, gr_here, gr_app, gr_0, gr_S] <;> omega) | fail) only [r17_0, r17_1, r17_2, r17_3, r17_4, r17_5, r17_6, r17_7, r17_8, r17_9, r17_10, r17_11, r17_12, r17_13, r17_14, r17_15, r17_16, r17_17, r17_18, l17_19, r17_20, c17, rs17, gc17, loadV_ptr, storeV_ptr, List.append_assoc, List.length_append, List.length_cons, List.length_nil, List.set_cons_zero, List.set_cons_succ, tk_here, tk_app, gr_here, gr_app, st_here, st_app, t0, t1, t6, t7, t23, t24, t25, hlt', hls', hmx, hr, hr2, hq, go_sem, ↓reduceIte, Nat.reduceLT, Nat.reduceEqDiff, Nat.reduceAdd, Nat.reduceMul, Nat.reduceSub, Int.reduceAdd, Int.reduceSub, Nat.reduceLeDiff, Int.reduceLT, Int.reduceLE, Int.reduceEq, Int.reduceNeg, Int.reduceToNat]
      repeat' ((first | refine guardB_dec (fun hy => ?_) (fun hy => ?_) | refine guardB_bool (fun hy => ?_) (fun hy => ?_) | refine guardQ_ite (fun hy => ?_) (fun hy => ?_) | refine brQ_dec (fun hy => ?_) (fun hy => ?_) | refine brQ_bool (fun hy => ?_) (fun hy => ?_)) <;> (try simp only [Bool.not_eq_true', Bool.not_eq_false', Bool.and_eq_true, Bool.or_eq_false_iff, decide_eq_true_eq, decide_eq_false_iff_not] at hy) <;> simp (disch := first | rfl | omega | exact lt_new _ | assumption | decide | (simp [tk_here, tk_app, tk_0, tk_S, gr_here, gr_app, gr_0, gr_S] <;> omega) | fail) only [r17_0, r17_1, r17_2, r17_3, r17_4, r17_5, r17_6, r17_7, r17_8, r17_9, r17_10, r17_11, r17_12, r17_13, r17_14, r17_15, r17_16, r17_17, r17_18, l17_19, r17_20, c17, rs17, gc17, loadV_ptr, storeV_ptr, List.append_assoc, List.length_append, List.length_cons, List.length_nil, List.set_cons_zero, List.set_cons_succ, tk_here, tk_app, gr_here, gr_app, st_here, st_app, t0, t1, t6, t7, t23, t24, t25, hlt', hls', hmx, hr, hr2, hq, go_sem, ↓reduceIte, Nat.reduceLT, Nat.reduceEqDiff, Nat.reduceAdd, Nat.reduceMul, Nat.reduceSub, Int.reduceAdd, Int.reduceSub, Nat.reduceLeDiff, Int.reduceLT, Int.reduceLE, Int.reduceEq, Int.reduceNeg, Int.reduceToNat, hy])
      all_goals exact ⟨_, by omega, k + 1, _, rfl, hlt, by rw [hdn, List.length_append]; rfl, by rw [hdn], by rw [hln]; simp [*], rfl⟩
  · obtain rfl : k = t.length := by omega
    simp (disch := first | rfl | omega | exact lt_new _ | assumption | decide | (simp [tk_here, tk_app, tk_0, tk_S, gr_here, gr_app, gr_0, gr_S] <;> omega) | fail) only [r17_0, r17_1, r17_2, r17_3, r17_4, r17_5, r17_6, r17_7, r17_8, r17_9, r17_10, r17_11, r17_12, r17_13, r17_14, r17_15, r17_16, r17_17, r17_18, l17_19, r17_20, c17, rs17, gc17, loadV_ptr, storeV_ptr, List.append_assoc, List.length_append, List.length_cons, List.length_nil, List.set_cons_zero, List.set_cons_succ, tk_here, tk_app, gr_here, gr_app, st_here, st_app, t0, t1, t6, t7, t23, t24, t25, Int.lt_irrefl, go_sem, ↓reduceIte, Nat.reduceLT, Nat.reduceEqDiff, Nat.reduceAdd, Nat.reduceMul, Nat.reduceSub, Int.reduceAdd, Int.reduceSub, Nat.reduceLeDiff, Int.reduceLT, Int.reduceLE, Int.reduceEq, Int.reduceNeg, Int.reduceToNat]
    repeat' ((first | refine guardB_dec (fun hy => ?_) (fun hy => ?_) | refine guardB_bool (fun hy => ?_) (fun hy => ?_) | refine guardQ_ite (fun hy => ?_) (fun hy => ?_) | refine brQ_dec (fun hy => ?_) (fun hy => ?_) | refine brQ_bool (fun hy => ?_) (fun hy => ?_)) <;> (try simp only [Bool.not_eq_true', Bool.not_eq_false', Bool.and_eq_true, Bool.or_eq_false_iff, decide_eq_true_eq, decide_eq_false_iff_not] at hy) <;> simp (disch := first | rfl | omega | exact lt_new _ | assumption | decide | (simp [tk_here, tk_app, tk_0, tk_S, gr_here, gr_app, gr_0, gr_S] <;> omega) | fail) only [r17_0, r17_1, r17_2, r17_3, r17_4, r17_5, r17_6, r17_7, r17_8, r17_9, r17_10, r17_11, r17_12, r17_13, r17_14, r17_15, r17_16, r17_17, r17_18, l17_19, r17_20, c17, rs17, gc17, loadV_ptr, storeV_ptr, List.append_assoc, List.length_append, List.length_cons, List.length_nil, List.set_cons_zero, List.set_cons_succ, tk_here, tk_app, gr_here, gr_app, st_here, st_app, t0, t1, t6, t7, t23, t24, t25, Int.lt_irrefl, go_sem, ↓reduceIte, Nat.reduceLT, Nat.reduceEqDiff, Nat.reduceAdd, Nat.reduceMul, Nat.reduceSub, Int.reduceAdd, Int.reduceSub, Nat.reduceLeDiff, Int.reduceLT, Int.reduceLE, Int.reduceEq, Int.reduceNeg, Int.reduceToNat, hy])
    refine finQ_app ?_
    simp (disch := first | rfl | omega | exact lt_new _ | assumption | decide | (simp [tk_here, tk_app, tk_0, tk_S, gr_here, gr_app, gr_0, gr_S] <;> omega) | fail) only [go_sem, ↓reduceIte, Nat.reduceLT, Nat.reduceEqDiff, Nat.reduceAdd, Nat.reduceMul, Nat.reduceSub, Int.reduceAdd, Int.reduceSub, Nat.reduceLeDiff, Int.reduceLT, Int.reduceLE, Int.reduceEq, Int.reduceNeg, Int.reduceToNat]
end Go.Proofs.YteeofpgnjekeaaaGreatDoor
/-
  How long answers took, as the reference has it; walked. No statement of the seat stands here.
-/
namespace Go.Proofs.YteeofpgnjekeaaaGreatDoor
open Go Go.An
set_option maxRecDepth 4000
set_option linter.unusedSimpArgs false
set_option linter.unusedVariables false

structure Pr where
  a : Int
  b : Int
  deriving DecidableEq
def prE : Enc Pr := ⟨fun p => [.int .i64 p.a, .int .i64 p.b], 2, ⟨0, 0⟩, fun _ => rfl, by decide, fun p => by simp only [immL, slV_imm]; rfl⟩
theorem prE_f (p : Pr) : prE.f p = [.int .i64 p.a, .int .i64 p.b] := rfl
@[go_sem] theorem prE_w : prE.w = 2 := rfl
@[go_sem] theorem prE_l (p : Pr) : (prE.f p).length = 2 := rfl
@[go_sem] theorem prE_t (p : Pr) : (prE.f p).take 2 = prE.f p := rfl
@[go_sem] theorem prE_sa (p : Pr) : setAt [.int .i64 0, .int .i64 0] 0 (prE.f p) = prE.f p := rfl
@[go_sem] theorem prE_pa (p : Pr) : partK (some true) (some 2) (prE.f p) 0 = some (.agg (prE.f p)) := rfl
@[go_sem] theorem prE_0 (p : Pr) : (prE.f p)[0]? = some (.int .i64 p.a) := rfl
@[go_sem] theorem prE_1 (p : Pr) : (prE.f p)[1]? = some (.int .i64 p.b) := rfl
@[go_sem] theorem ld_prE {l : List Pr} {i : Nat} {H : Hp} (h : i < l.length) : loadV Tryz.prog 40 H (.ipt (flatE prE l) (i * 2)) = some (.agg (prE.f (prE.at l i))) := ld_agg g40 z40 rfl h
@[go_sem] theorem ld_prE_0 {l : List Pr} {i : Nat} {H : Hp} (h : i < l.length) : loadV Tryz.prog 3 H (.ipt (flatE prE l) (i * 2)) = some (.int .i64 (prE.at l i).a) := ld_cell0 g3 rfl h
@[go_sem] theorem ld_prE_1 {l : List Pr} {i : Nat} {H : Hp} (h : i < l.length) : loadV Tryz.prog 3 H (.ipt (flatE prE l) (i * 2 + 1)) = some (.int .i64 (prE.at l i).b) := ld_cell (j := 1) g3 rfl h (by omega)
def PrOk (p : Pr) : Prop := Inx p.a ∧ Inx p.b
theorem prE_2 (a b : Int) : ([.int .i64 a, .int .i64 b] : List V) = prE.f ⟨a, b⟩ := rfl
@[go_sem] theorem ck_prE (x : Pr) : ckOks [.int .i64, .int .i64] (prE.f x) = true := rfl
@[go_sem] theorem eq_prE (x y : Pr) : eqCells (prE.f x) (prE.f y) = decide (x = y) := by
  obtain ⟨a, b⟩ := x
  obtain ⟨a', b'⟩ := y
  simp only [prE_f, eqCells_cons, eqCells_nil, eqCell_int, Pr.mk.injEq, Bool.decide_and, Bool.and_true]
theorem fn63 {b : Bool} {l : List Pr} (H : Hp) : callL Tryz.prog pr 63 [slV b prE l] H = some (.bool (decide ((200 : Int) < l.length)), H) := by
  refine run63 (Nat.le_of_ble_eq_true rfl) ?_
  simp (disch := first | rfl | omega | exact lt_new _ | assumption | decide | (simp [tk_here, tk_app, tk_0, tk_S, gr_here, gr_app, gr_0, gr_S] <;> omega) | fail) only [r63_0, r63_1, c63, rs63, gc63, go_sem, ↓reduceIte, Nat.reduceLT, Nat.reduceEqDiff, Nat.reduceAdd, Nat.reduceMul, Nat.reduceSub, Int.reduceAdd, Int.reduceSub, Nat.reduceLeDiff, Int.reduceLT, Int.reduceLE, Int.reduceEq, Int.reduceNeg, Int.reduceToNat]
  repeat' ((first | refine guardB_dec (fun hy => ?_) (fun hy => ?_) | refine guardB_bool (fun hy => ?_) (fun hy => ?_) | refine guardQ_ite (fun hy => ?_) (fun hy => ?_) | refine brQ_dec (fun hy => ?_) (fun hy => ?_) | refine brQ_bool (fun hy => ?_) (fun hy => ?_)) <;> (try simp only [Bool.not_eq_true', Bool.not_eq_false', Bool.and_eq_true, Bool.or_eq_false_iff, decide_eq_true_eq, decide_eq_false_iff_not] at hy) <;> simp (disch := first | rfl | omega | exact lt_new _ | assumption | decide | (simp [tk_here, tk_app, tk_0, tk_S, gr_here, gr_app, gr_0, gr_S] <;> omega) | fail) only [r63_0, r63_1, c63, rs63, gc63, go_sem, ↓reduceIte, Nat.reduceLT, Nat.reduceEqDiff, Nat.reduceAdd, Nat.reduceMul, Nat.reduceSub, Int.reduceAdd, Int.reduceSub, Nat.reduceLeDiff, Int.reduceLT, Int.reduceLE, Int.reduceEq, Int.reduceNeg, Int.reduceToNat, hy])
  all_goals (try ((first | refine finQ_same ?_ | refine finQ_app ?_ | (rw [List.append_assoc]; refine finQ_app ?_)) <;> simp (disch := first | rfl | omega | exact lt_new _ | assumption | decide | (simp [tk_here, tk_app, tk_0, tk_S, gr_here, gr_app, gr_0, gr_S] <;> omega) | fail) only [go_sem, ↓reduceIte, Nat.reduceLT, Nat.reduceEqDiff, Nat.reduceAdd, Nat.reduceMul, Nat.reduceSub, Int.reduceAdd, Int.reduceSub, Nat.reduceLeDiff, Int.reduceLT, Int.reduceLE, Int.reduceEq, Int.reduceNeg, Int.reduceToNat, List.append_assoc, List.cons_append, List.nil_append, *]))
  all_goals (try first | rfl | (simp [*]; done) | grind)
def badP (p : Pr) : Bool := !okT p.b
theorem fn66 (p : Pr) (H : Hp) : callL Tryz.prog pr 66 [.agg (prE.f p)] H = some (.bool (badP p), H) := by
  have h57 := fn57
  refine run66 (Nat.le_of_ble_eq_true rfl) ?_
  unfold badP
  simp (disch := first | rfl | omega | exact lt_new _ | assumption | decide | (simp [tk_here, tk_app, tk_0, tk_S, gr_here, gr_app, gr_0, gr_S] <;> omega) | fail) only [r66_0, r66_1, c66, rs66, gc66, h57, go_sem, ↓reduceIte, Nat.reduceLT, Nat.reduceEqDiff, Nat.reduceAdd, Nat.reduceMul, Nat.reduceSub, Int.reduceAdd, Int.reduceSub, Nat.reduceLeDiff, Int.reduceLT, Int.reduceLE, Int.reduceEq, Int.reduceNeg, Int.reduceToNat]
  repeat' ((first | refine guardB_dec (fun hy => ?_) (fun hy => ?_) | refine guardB_bool (fun hy => ?_) (fun hy => ?_) | refine guardQ_ite (fun hy => ?_) (fun hy => ?_) | refine brQ_dec (fun hy => ?_) (fun hy => ?_) | refine brQ_bool (fun hy => ?_) (fun hy => ?_)) <;> (try simp only [Bool.not_eq_true', Bool.not_eq_false', Bool.and_eq_true, Bool.or_eq_false_iff, decide_eq_true_eq, decide_eq_false_iff_not] at hy) <;> simp (disch := first | rfl | omega | exact lt_new _ | assumption | decide | (simp [tk_here, tk_app, tk_0, tk_S, gr_here, gr_app, gr_0, gr_S] <;> omega) | fail) only [r66_0, r66_1, c66, rs66, gc66, h57, go_sem, ↓reduceIte, Nat.reduceLT, Nat.reduceEqDiff, Nat.reduceAdd, Nat.reduceMul, Nat.reduceSub, Int.reduceAdd, Int.reduceSub, Nat.reduceLeDiff, Int.reduceLT, Int.reduceLE, Int.reduceEq, Int.reduceNeg, Int.reduceToNat, hy])
  all_goals (try ((first | refine finQ_same ?_ | refine finQ_app ?_ | (rw [List.append_assoc]; refine finQ_app ?_)) <;> simp (disch := first | rfl | omega | exact lt_new _ | assumption | decide | (simp [tk_here, tk_app, tk_0, tk_S, gr_here, gr_app, gr_0, gr_S] <;> omega) | fail) only [go_sem, ↓reduceIte, Nat.reduceLT, Nat.reduceEqDiff, Nat.reduceAdd, Nat.reduceMul, Nat.reduceSub, Int.reduceAdd, Int.reduceSub, Nat.reduceLeDiff, Int.reduceLT, Int.reduceLE, Int.reduceEq, Int.reduceNeg, Int.reduceToNat, List.append_assoc, List.cons_append, List.nil_append, *]))
  all_goals (try first | rfl | (simp [*]; done) | grind)
theorem fn114L {α : Type} {E : Enc α} {b : Bool} {l : List α} {H : Hp} (hw : E.w = 2) (hlen : l.length < 2 ^ 62) (p : α → Bool) (f : Nat) (ca cb : List V) (hk : ∀ v, demK f v = v.dem) (hf : ∀ x ∈ l, callL Tryz.prog pr f (ca ++ [.agg (E.f x)] ++ cb) H = some (.bool (p x), H)) : callL Tryz.prog pr 114 [slV b E l, .fn f ca cb] H = some (.int .i64 (findI p l 0), H) := by
  have hfy := ne_demK hk
  refine run114 (Nat.le_of_ble_eq_true rfl) ?_
  simp (disch := first | rfl | omega | exact lt_new _ | assumption | decide | (simp [tk_here, tk_app, tk_0, tk_S, gr_here, gr_app, gr_0, gr_S] <;> omega) | fail) only [r114_0, r114_1, r114_2, r114_3, r114_4, r114_5, r114_6, r114_8, c114, rs114, gc114, go_sem, ↓reduceIte, Nat.reduceLT, Nat.reduceEqDiff, Nat.reduceAdd, Nat.reduceMul, Nat.reduceSub, Int.reduceAdd, Int.reduceSub, Nat.reduceLeDiff, Int.reduceLT, Int.reduceLE, Int.reduceEq, Int.reduceNeg, Int.reduceToNat]
  refine Wp_loop (fun m T D H' => ∃ i, m = l.length - i ∧ i ≤ l.length ∧ D = [] ∧ H' = H ∧ get T 0 = slV b E l ∧ get T 1 = .fn f ca cb ∧ get T 7 = .int .i64 l.length ∧ get T 8 = .int .i64 i ∧ findI p l 0 = findI p (l.drop i) i) ?_ l.length _ _ _ ?_
  · rintro m T D H' ⟨i, rfl, hi, rfl, rfl, h0, h1, h7, h8, hp⟩
    by_cases hlt : i < l.length
    · have hlt' : (i : Int) < l.length := by omega
      have hpi := findI_drop p (E.at_some hlt) i
      have hfi := hf _ (E.at_mem hlt)
      have hld := fun H => @ld_agg _ Tryz.prog H α E l 40 2 i g40 z40 hw hlt
      simp (disch := first | rfl | omega | exact lt_new _ | assumption | decide | (simp [tk_here, tk_app, tk_0, tk_S, gr_here, gr_app, gr_0, gr_S] <;> omega) | fail) only [r114_0, r114_1, r114_2, r114_3, r114_4, r114_5, r114_6, l114_7, r114_8, c114, rs114, gc114, go_sem, ↓reduceIte, Nat.reduceLT, Nat.reduceEqDiff, Nat.reduceAdd, Nat.reduceMul, Nat.reduceSub, Int.reduceAdd, Int.reduceSub, Nat.reduceLeDiff, Int.reduceLT, Int.reduceLE, Int.reduceEq, Int.reduceNeg, Int.reduceToNat, h0, h1, h7, h8, hld, hk, hfi, hlt', decide_true]
      refine brQ_bool (fun hy => ?_) (fun hy => ?_)
      · rw [if_pos hy] at hpi
        simp (disch := first | rfl | omega | exact lt_new _ | assumption | decide | (simp [tk_here, tk_app, tk_0, tk_S, gr_here, gr_app, gr_0, gr_S] <;> omega) | fail) only [r114_0, r114_1, r114_2, r114_3, r114_4, r114_5, r114_6, l114_7, r114_8, c114, rs114, gc114, go_sem, ↓reduceIte, Nat.reduceLT, Nat.reduceEqDiff, Nat.reduceAdd, Nat.reduceMul, Nat.reduceSub, Int.reduceAdd, Int.reduceSub, Nat.reduceLeDiff, Int.reduceLT, Int.reduceLE, Int.reduceEq, Int.reduceNeg, Int.reduceToNat, h0, h1, h7, h8]
        refine finQ_same ?_
        simp (disch := first | rfl | omega | exact lt_new _ | assumption | decide | (simp [tk_here, tk_app, tk_0, tk_S, gr_here, gr_app, gr_0, gr_S] <;> omega) | fail) only [go_sem, ↓reduceIte, Nat.reduceLT, Nat.reduceEqDiff, Nat.reduceAdd, Nat.reduceMul, Nat.reduceSub, Int.reduceAdd, Int.reduceSub, Nat.reduceLeDiff, Int.reduceLT, Int.reduceLE, Int.reduceEq, Int.reduceNeg, Int.reduceToNat, hp, hpi]
      · rw [if_neg (by simp [hy])] at hpi
        simp (disch := first | rfl | omega | exact lt_new _ | assumption | decide | (simp [tk_here, tk_app, tk_0, tk_S, gr_here, gr_app, gr_0, gr_S] <;> omega) | fail) only [r114_0, r114_1, r114_2, r114_3, r114_4, r114_5, r114_6, l114_7, r114_8, c114, rs114, gc114, go_sem, ↓reduceIte, Nat.reduceLT, Nat.reduceEqDiff, Nat.reduceAdd, Nat.reduceMul, Nat.reduceSub, Int.reduceAdd, Int.reduceSub, Nat.reduceLeDiff, Int.reduceLT, Int.reduceLE, Int.reduceEq, Int.reduceNeg, Int.reduceToNat, h0, h1, h7, h8]
        exact ⟨_, by omega, i + 1, rfl, hlt, rfl, by rw [hp, hpi]; rfl⟩
    · obtain rfl : i = l.length := by omega
      simp (disch := first | rfl | omega | exact lt_new _ | assumption | decide | (simp [tk_here, tk_app, tk_0, tk_S, gr_here, gr_app, gr_0, gr_S] <;> omega) | fail) only [r114_0, r114_1, r114_2, r114_3, r114_4, r114_5, r114_6, l114_7, r114_8, c114, rs114, gc114, go_sem, ↓reduceIte, Nat.reduceLT, Nat.reduceEqDiff, Nat.reduceAdd, Nat.reduceMul, Nat.reduceSub, Int.reduceAdd, Int.reduceSub, Nat.reduceLeDiff, Int.reduceLT, Int.reduceLE, Int.reduceEq, Int.reduceNeg, Int.reduceToNat, h0, h1, h7, h8, Int.lt_irrefl, decide_false]
      refine finQ_same ?_
      rw [hp, List.drop_length]
      simp (disch := first | rfl | omega | exact lt_new _ | assumption | decide | (simp [tk_here, tk_app, tk_0, tk_S, gr_here, gr_app, gr_0, gr_S] <;> omega) | fail) only [go_sem, ↓reduceIte, Nat.reduceLT, Nat.reduceEqDiff, Nat.reduceAdd, Nat.reduceMul, Nat.reduceSub, Int.reduceAdd, Int.reduceSub, Nat.reduceLeDiff, Int.reduceLT, Int.reduceLE, Int.reduceEq, Int.reduceNeg, Int.reduceToNat, findI]
  · exact ⟨0, by simp [go_sem]⟩

theorem fn64L {α : Type} {E : Enc α} {b : Bool} {l : List α} {H : Hp} (hw : E.w = 2) (hlen : l.length < 2 ^ 62) (p : α → Bool) (f : Nat) (ca cb : List V) (hk : ∀ v, demK f v = v.dem) (hf : ∀ x ∈ l, callL Tryz.prog pr f (ca ++ [.agg (E.f x)] ++ cb) H = some (.bool (p x), H)) : callL Tryz.prog pr 64 [slV b E l, .fn f ca cb] H = some (.bool (l.any p), H) := by
  refine run64 (Nat.le_of_ble_eq_true rfl) ?_
  simp (disch := first | rfl | omega | exact lt_new _ | assumption | decide | (simp [tk_here, tk_app, tk_0, tk_S, gr_here, gr_app, gr_0, gr_S] <;> omega) | fail) only [r64_0, r64_1, c64, rs64, gc64, go_sem, ↓reduceIte, Nat.reduceLT, Nat.reduceEqDiff, Nat.reduceAdd, Nat.reduceMul, Nat.reduceSub, Int.reduceAdd, Int.reduceSub, Nat.reduceLeDiff, Int.reduceLT, Int.reduceLE, Int.reduceEq, Int.reduceNeg, Int.reduceToNat, fn114L hw hlen p f ca cb hk hf]
  refine finQ_same ?_
  simp (disch := first | rfl | omega | exact lt_new _ | assumption | decide | (simp [tk_here, tk_app, tk_0, tk_S, gr_here, gr_app, gr_0, gr_S] <;> omega) | fail) only [go_sem, ↓reduceIte, Nat.reduceLT, Nat.reduceEqDiff, Nat.reduceAdd, Nat.reduceMul, Nat.reduceSub, Int.reduceAdd, Int.reduceSub, Nat.reduceLeDiff, Int.reduceLT, Int.reduceLE, Int.reduceEq, Int.reduceNeg, Int.reduceToNat, findI_any p l 0 (by omega)]

/-- The last one sent that an answer belongs to. -/
def hit (s : List Pr) (g : Pr) : Nat → Option Pr
  | 0 => none
  | k + 1 => if (prE.at s k).a = g.a ∧ (prE.at s k).b ≤ g.b then some ⟨g.a, g.b - (prE.at s k).b⟩ else hit s g k
def trips (s g : List Pr) : Nat → List Pr
  | 0 => []
  | k + 1 => trips s g k ++ (hit s (prE.at g k) s.length).toList
theorem trips_len (s g : List Pr) : ∀ k, (trips s g k).length ≤ k
  | 0 => Nat.le_refl _
  | k + 1 => by
    have := trips_len s g k
    unfold trips
    rw [List.length_append]
    cases hit s (prE.at g k) s.length <;> simp <;> omega
def tripF (s g : List Pr) : List Pr × Int := if 200 < s.length ∨ 200 < g.length then ([], 3) else if s.any badP = true ∨ g.any badP = true then ([], 1) else (trips s g g.length, 0)
theorem pany_at {l : List Pr} {p : Pr → Bool} {i : Nat} (hi : i < l.length) (h : p (prE.at l i) = true) : l.any p = true := List.any_eq_true.2 ⟨_, prE.at_mem hi, h⟩
theorem pany_no {l : List Pr} {p : Pr → Bool} (h : ∀ i < l.length, p (prE.at l i) = false) : l.any p = false := by
  rw [List.any_eq_false]
  intro x hx
  obtain ⟨j, hj, rfl⟩ := List.mem_iff_getElem.1 hx
  have := h j hj
  have e : prE.at l j = l[j] := by simp [Enc.at, List.getD, hj]
  rw [e] at this
  simp [this]
theorem okP_at {l : List Pr} (h : l.any badP = false) {i : Nat} (hi : i < l.length) : 0 ≤ (prE.at l i).b ∧ (prE.at l i).b ≤ 1000000000000000 := by
  rw [List.any_eq_false] at h
  have := h _ (prE.at_mem hi)
  simpa [badP, okT] using this
set_option maxHeartbeats 8000000 in
theorem fn22 (bs bg : Bool) (s g : List Pr) (h1 : s.length ≤ 2 ^ 48) (h2 : g.length ≤ 2 ^ 48) (H : Hp) : callL Tryz.prog pr 22 [slV bs prE s, slV bg prE g] H = some (.tup [slV true prE (tripF s g).1, .int .i64 (tripF s g).2], H) := by
  have h58 := fn58
  refine run22 (Nat.le_of_ble_eq_true rfl) ?_
  unfold tripF
  by_cases ha : 200 < s.length
  case pos =>
    rw [if_pos (.inl ha)]
    have ha2 : (200 : Int) < s.length := by omega
    simp (disch := first | rfl | omega | exact lt_new _ | assumption | decide | (simp [tk_here, tk_app, tk_0, tk_S, gr_here, gr_app, gr_0, gr_S] <;> omega) | fail) only [r22_0, r22_1, r22_2, r22_3, r22_4, r22_5, r22_6, r22_7, r22_9, r22_10, r22_11, r22_12, r22_13, r22_15, r22_16, r22_17, r22_18, r22_19, r22_20, r22_21, r22_22, r22_24, r22_26, c22, rs22, gc22, ha2, slV_nil, go_sem, ↓reduceIte, Nat.reduceLT, Nat.reduceEqDiff, Nat.reduceAdd, Nat.reduceMul, Nat.reduceSub, Int.reduceAdd, Int.reduceSub, Nat.reduceLeDiff, Int.reduceLT, Int.reduceLE, Int.reduceEq, Int.reduceNeg, Int.reduceToNat]
    repeat' ((first | refine guardB_dec (fun hy => ?_) (fun hy => ?_) | refine guardB_bool (fun hy => ?_) (fun hy => ?_) | refine guardQ_ite (fun hy => ?_) (fun hy => ?_) | refine brQ_dec (fun hy => ?_) (fun hy => ?_) | refine brQ_bool (fun hy => ?_) (fun hy => ?_)) <;> (try simp only [Bool.not_eq_true', Bool.not_eq_false', Bool.and_eq_true, Bool.or_eq_false_iff, decide_eq_true_eq, decide_eq_false_iff_not] at hy) <;> simp (disch := first | rfl | omega | exact lt_new _ | assumption | decide | (simp [tk_here, tk_app, tk_0, tk_S, gr_here, gr_app, gr_0, gr_S] <;> omega) | fail) only [r22_0, r22_1, r22_2, r22_3, r22_4, r22_5, r22_6, r22_7, r22_9, r22_10, r22_11, r22_12, r22_13, r22_15, r22_16, r22_17, r22_18, r22_19, r22_20, r22_21, r22_22, r22_24, r22_26, c22, rs22, gc22, ha2, slV_nil, go_sem, ↓reduceIte, Nat.reduceLT, Nat.reduceEqDiff, Nat.reduceAdd, Nat.reduceMul, Nat.reduceSub, Int.reduceAdd, Int.reduceSub, Nat.reduceLeDiff, Int.reduceLT, Int.reduceLE, Int.reduceEq, Int.reduceNeg, Int.reduceToNat, hy])
    all_goals (try ((first | refine finQ_same ?_ | refine finQ_app ?_ | (rw [List.append_assoc]; refine finQ_app ?_)) <;> simp (disch := first | rfl | omega | exact lt_new _ | assumption | decide | (simp [tk_here, tk_app, tk_0, tk_S, gr_here, gr_app, gr_0, gr_S] <;> omega) | fail) only [go_sem, ↓reduceIte, Nat.reduceLT, Nat.reduceEqDiff, Nat.reduceAdd, Nat.reduceMul, Nat.reduceSub, Int.reduceAdd, Int.reduceSub, Nat.reduceLeDiff, Int.reduceLT, Int.reduceLE, Int.reduceEq, Int.reduceNeg, Int.reduceToNat, List.append_assoc, List.cons_append, List.nil_append, *]))
    all_goals (try first | rfl | (simp [*]; done) | grind)
  have ha2 : ¬ (200 : Int) < s.length := by omega
  by_cases hb : 200 < g.length
  case pos =>
    rw [if_pos (.inr hb)]
    have hb2 : (200 : Int) < g.length := by omega
    simp (disch := first | rfl | omega | exact lt_new _ | assumption | decide | (simp [tk_here, tk_app, tk_0, tk_S, gr_here, gr_app, gr_0, gr_S] <;> omega) | fail) only [r22_0, r22_1, r22_2, r22_3, r22_4, r22_5, r22_6, r22_7, r22_9, r22_10, r22_11, r22_12, r22_13, r22_15, r22_16, r22_17, r22_18, r22_19, r22_20, r22_21, r22_22, r22_24, r22_26, c22, rs22, gc22, ha2, hb2, slV_nil, go_sem, ↓reduceIte, Nat.reduceLT, Nat.reduceEqDiff, Nat.reduceAdd, Nat.reduceMul, Nat.reduceSub, Int.reduceAdd, Int.reduceSub, Nat.reduceLeDiff, Int.reduceLT, Int.reduceLE, Int.reduceEq, Int.reduceNeg, Int.reduceToNat]
    repeat' ((first | refine guardB_dec (fun hy => ?_) (fun hy => ?_) | refine guardB_bool (fun hy => ?_) (fun hy => ?_) | refine guardQ_ite (fun hy => ?_) (fun hy => ?_) | refine brQ_dec (fun hy => ?_) (fun hy => ?_) | refine brQ_bool (fun hy => ?_) (fun hy => ?_)) <;> (try simp only [Bool.not_eq_true', Bool.not_eq_false', Bool.and_eq_true, Bool.or_eq_false_iff, decide_eq_true_eq, decide_eq_false_iff_not] at hy) <;> simp (disch := first | rfl | omega | exact lt_new _ | assumption | decide | (simp [tk_here, tk_app, tk_0, tk_S, gr_here, gr_app, gr_0, gr_S] <;> omega) | fail) only [r22_0, r22_1, r22_2, r22_3, r22_4, r22_5, r22_6, r22_7, r22_9, r22_10, r22_11, r22_12, r22_13, r22_15, r22_16, r22_17, r22_18, r22_19, r22_20, r22_21, r22_22, r22_24, r22_26, c22, rs22, gc22, ha2, hb2, slV_nil, go_sem, ↓reduceIte, Nat.reduceLT, Nat.reduceEqDiff, Nat.reduceAdd, Nat.reduceMul, Nat.reduceSub, Int.reduceAdd, Int.reduceSub, Nat.reduceLeDiff, Int.reduceLT, Int.reduceLE, Int.reduceEq, Int.reduceNeg, Int.reduceToNat, hy])
    all_goals (try ((first | refine finQ_same ?_ | refine finQ_app ?_ | (rw [List.append_assoc]; refine finQ_app ?_)) <;> simp (disch := first | rfl | omega | exact lt_new _ | assumption | decide | (simp [tk_here, tk_app, tk_0, tk_S, gr_here, gr_app, gr_0, gr_S] <;> omega) | fail) only [go_sem, ↓reduceIte, Nat.reduceLT, Nat.reduceEqDiff, Nat.reduceAdd, Nat.reduceMul, Nat.reduceSub, Int.reduceAdd, Int.reduceSub, Nat.reduceLeDiff, Int.reduceLT, Int.reduceLE, Int.reduceEq, Int.reduceNeg, Int.reduceToNat, List.append_assoc, List.cons_append, List.nil_append, *]))
    all_goals (try first | rfl | (simp [*]; done) | grind)
  have hb2 : ¬ (200 : Int) < g.length := by omega
  rw [if_neg (by omega)]
  simp (disch := first | rfl | omega | exact lt_new _ | assumption | decide | (simp [tk_here, tk_app, tk_0, tk_S, gr_here, gr_app, gr_0, gr_S] <;> omega) | fail) only [r22_0, r22_1, r22_2, r22_3, r22_4, r22_5, r22_6, r22_7, r22_9, r22_10, r22_11, r22_12, r22_13, r22_15, r22_16, r22_17, r22_18, r22_19, r22_20, r22_21, r22_22, r22_24, r22_26, c22, rs22, gc22, ha2, hb2, go_sem, ↓reduceIte, Nat.reduceLT, Nat.reduceEqDiff, Nat.reduceAdd, Nat.reduceMul, Nat.reduceSub, Int.reduceAdd, Int.reduceSub, Nat.reduceLeDiff, Int.reduceLT, Int.reduceLE, Int.reduceEq, Int.reduceNeg, Int.reduceToNat]
  repeat' ((first | refine guardB_dec (fun hy => ?_) (fun hy => ?_) | refine guardB_bool (fun hy => ?_) (fun hy => ?_) | refine guardQ_ite (fun hy => ?_) (fun hy => ?_) | refine brQ_dec (fun hy => ?_) (fun hy => ?_) | refine brQ_bool (fun hy => ?_) (fun hy => ?_)) <;> (try simp only [Bool.not_eq_true', Bool.not_eq_false', Bool.and_eq_true, Bool.or_eq_false_iff, decide_eq_true_eq, decide_eq_false_iff_not] at hy) <;> simp (disch := first | rfl | omega | exact lt_new _ | assumption | decide | (simp [tk_here, tk_app, tk_0, tk_S, gr_here, gr_app, gr_0, gr_S] <;> omega) | fail) only [r22_0, r22_1, r22_2, r22_3, r22_4, r22_5, r22_6, r22_7, r22_9, r22_10, r22_11, r22_12, r22_13, r22_15, r22_16, r22_17, r22_18, r22_19, r22_20, r22_21, r22_22, r22_24, r22_26, c22, rs22, gc22, ha2, hb2, go_sem, ↓reduceIte, Nat.reduceLT, Nat.reduceEqDiff, Nat.reduceAdd, Nat.reduceMul, Nat.reduceSub, Int.reduceAdd, Int.reduceSub, Nat.reduceLeDiff, Int.reduceLT, Int.reduceLE, Int.reduceEq, Int.reduceNeg, Int.reduceToNat, hy])
  refine Wp_loop (fun m T D H' => ∃ i, m = s.length - i ∧ i ≤ s.length ∧ D = [] ∧ H' = H ∧ get T 0 = slV bs prE s ∧ get T 1 = slV bg prE g ∧ get T 6 = .int .i64 i ∧ (∀ j < i, badP (prE.at s j) = false)) ?_ s.length _ _ _ ?_
  case refine_2 => exact ⟨0, by simp (disch := first | rfl | omega | exact lt_new _ | assumption | decide | (simp [tk_here, tk_app, tk_0, tk_S, gr_here, gr_app, gr_0, gr_S] <;> omega) | fail) only [go_sem, ↓reduceIte, Nat.reduceLT, Nat.reduceEqDiff, Nat.reduceAdd, Nat.reduceMul, Nat.reduceSub, Int.reduceAdd, Int.reduceSub, Nat.reduceLeDiff, Int.reduceLT, Int.reduceLE, Int.reduceEq, Int.reduceNeg, Int.reduceToNat]; simp⟩
  rintro m T D H' ⟨i, rfl, hi, rfl, rfl, t0, t1, t6, hall⟩
  by_cases hlt : i < s.length
  · have hlt' : (i : Int) < s.length := by omega
    by_cases hq : okT (prE.at s i).b = true
    · skip
      simp (disch := first | rfl | omega | exact lt_new _ | assumption | decide | (simp [tk_here, tk_app, tk_0, tk_S, gr_here, gr_app, gr_0, gr_S] <;> omega) | fail) only [l22_8, r22_4, r22_5, r22_7, t0, t1, t6, hlt', h58, hq, go_sem, ↓reduceIte, Nat.reduceLT, Nat.reduceEqDiff, Nat.reduceAdd, Nat.reduceMul, Nat.reduceSub, Int.reduceAdd, Int.reduceSub, Nat.reduceLeDiff, Int.reduceLT, Int.reduceLE, Int.reduceEq, Int.reduceNeg, Int.reduceToNat]
      repeat' ((first | refine guardB_dec (fun hy => ?_) (fun hy => ?_) | refine guardB_bool (fun hy => ?_) (fun hy => ?_) | refine guardQ_ite (fun hy => ?_) (fun hy => ?_) | refine brQ_dec (fun hy => ?_) (fun hy => ?_) | refine brQ_bool (fun hy => ?_) (fun hy => ?_)) <;> (try simp only [Bool.not_eq_true', Bool.not_eq_false', Bool.and_eq_true, Bool.or_eq_false_iff, decide_eq_true_eq, decide_eq_false_iff_not] at hy) <;> simp (disch := first | rfl | omega | exact lt_new _ | assumption | decide | (simp [tk_here, tk_app, tk_0, tk_S, gr_here, gr_app, gr_0, gr_S] <;> omega) | fail) only [l22_8, r22_4, r22_5, r22_7, t0, t1, t6, hlt', h58, hq, go_sem, ↓reduceIte, Nat.reduceLT, Nat.reduceEqDiff, Nat.reduceAdd, Nat.reduceMul, Nat.reduceSub, Int.reduceAdd, Int.reduceSub, Nat.reduceLeDiff, Int.reduceLT, Int.reduceLE, Int.reduceEq, Int.reduceNeg, Int.reduceToNat, hy])
      refine ⟨_, by omega, i + 1, rfl, hlt, rfl, fun j hj => ?_⟩
      by_cases e : j = i
      · subst e; simp [badP, hq]
      · exact hall j (by omega)
    · rw [Bool.not_eq_true] at hq
      rw [if_pos (.inl (pany_at hlt (by simp [badP, hq])))]
      simp (disch := first | rfl | omega | exact lt_new _ | assumption | decide | (simp [tk_here, tk_app, tk_0, tk_S, gr_here, gr_app, gr_0, gr_S] <;> omega) | fail) only [l22_8, r22_4, r22_5, r22_6, rs22, gc22, t0, t1, t6, hlt', h58, hq, slV_nil, go_sem, ↓reduceIte, Nat.reduceLT, Nat.reduceEqDiff, Nat.reduceAdd, Nat.reduceMul, Nat.reduceSub, Int.reduceAdd, Int.reduceSub, Nat.reduceLeDiff, Int.reduceLT, Int.reduceLE, Int.reduceEq, Int.reduceNeg, Int.reduceToNat]
      repeat' ((first | refine guardB_dec (fun hy => ?_) (fun hy => ?_) | refine guardB_bool (fun hy => ?_) (fun hy => ?_) | refine guardQ_ite (fun hy => ?_) (fun hy => ?_) | refine brQ_dec (fun hy => ?_) (fun hy => ?_) | refine brQ_bool (fun hy => ?_) (fun hy => ?_)) <;> (try simp only [Bool.not_eq_true', Bool.not_eq_false', Bool.and_eq_true, Bool.or_eq_false_iff, decide_eq_true_eq, decide_eq_false_iff_not] at hy) <;> simp (disch := first | rfl | omega | exact lt_new _ | assumption | decide | (simp [tk_here, tk_app, tk_0, tk_S, gr_here, gr_app, gr_0, gr_S] <;> omega) | fail) only [l22_8, r22_4, r22_5, r22_6, rs22, gc22, t0, t1, t6, hlt', h58, hq, slV_nil, go_sem, ↓reduceIte, Nat.reduceLT, Nat.reduceEqDiff, Nat.reduceAdd, Nat.reduceMul, Nat.reduceSub, Int.reduceAdd, Int.reduceSub, Nat.reduceLeDiff, Int.reduceLT, Int.reduceLE, Int.reduceEq, Int.reduceNeg, Int.reduceToNat, hy])
      all_goals (try ((first | refine finQ_same ?_ | refine finQ_app ?_ | (rw [List.append_assoc]; refine finQ_app ?_)) <;> simp (disch := first | rfl | omega | exact lt_new _ | assumption | decide | (simp [tk_here, tk_app, tk_0, tk_S, gr_here, gr_app, gr_0, gr_S] <;> omega) | fail) only [go_sem, ↓reduceIte, Nat.reduceLT, Nat.reduceEqDiff, Nat.reduceAdd, Nat.reduceMul, Nat.reduceSub, Int.reduceAdd, Int.reduceSub, Nat.reduceLeDiff, Int.reduceLT, Int.reduceLE, Int.reduceEq, Int.reduceNeg, Int.reduceToNat, List.append_assoc, List.cons_append, List.nil_append, *]))
      all_goals (try first | rfl | (simp [*]; done) | grind)
  obtain rfl : i = s.length := by omega
  have c5 := pany_no hall
  clear hall
  simp (disch := first | rfl | omega | exact lt_new _ | assumption | decide | (simp [tk_here, tk_app, tk_0, tk_S, gr_here, gr_app, gr_0, gr_S] <;> omega) | fail) only [l22_8, r22_4, r22_9, t0, t1, t6, Int.lt_irrefl, go_sem, ↓reduceIte, Nat.reduceLT, Nat.reduceEqDiff, Nat.reduceAdd, Nat.reduceMul, Nat.reduceSub, Int.reduceAdd, Int.reduceSub, Nat.reduceLeDiff, Int.reduceLT, Int.reduceLE, Int.reduceEq, Int.reduceNeg, Int.reduceToNat]
  repeat' ((first | refine guardB_dec (fun hy => ?_) (fun hy => ?_) | refine guardB_bool (fun hy => ?_) (fun hy => ?_) | refine guardQ_ite (fun hy => ?_) (fun hy => ?_) | refine brQ_dec (fun hy => ?_) (fun hy => ?_) | refine brQ_bool (fun hy => ?_) (fun hy => ?_)) <;> (try simp only [Bool.not_eq_true', Bool.not_eq_false', Bool.and_eq_true, Bool.or_eq_false_iff, decide_eq_true_eq, decide_eq_false_iff_not] at hy) <;> simp (disch := first | rfl | omega | exact lt_new _ | assumption | decide | (simp [tk_here, tk_app, tk_0, tk_S, gr_here, gr_app, gr_0, gr_S] <;> omega) | fail) only [l22_8, r22_4, r22_9, t0, t1, t6, Int.lt_irrefl, go_sem, ↓reduceIte, Nat.reduceLT, Nat.reduceEqDiff, Nat.reduceAdd, Nat.reduceMul, Nat.reduceSub, Int.reduceAdd, Int.reduceSub, Nat.reduceLeDiff, Int.reduceLT, Int.reduceLE, Int.reduceEq, Int.reduceNeg, Int.reduceToNat, hy])
  refine Wp_loop (fun m T D H1 => ∃ i, m = g.length - i ∧ i ≤ g.length ∧ D = [] ∧ H1 = H' ∧ get T 0 = slV bs prE s ∧ get T 1 = slV bg prE g ∧ get T 7 = .int .i64 i ∧ (∀ j < i, badP (prE.at g j) = false)) ?_ g.length _ _ _ ?_
  case refine_2 => exact ⟨0, by simp (disch := first | rfl | omega | exact lt_new _ | assumption | decide | (simp [tk_here, tk_app, tk_0, tk_S, gr_here, gr_app, gr_0, gr_S] <;> omega) | fail) only [go_sem, ↓reduceIte, Nat.reduceLT, Nat.reduceEqDiff, Nat.reduceAdd, Nat.reduceMul, Nat.reduceSub, Int.reduceAdd, Int.reduceSub, Nat.reduceLeDiff, Int.reduceLT, Int.reduceLE, Int.reduceEq, Int.reduceNeg, Int.reduceToNat, t0, t1]; simp⟩
  clear t0 t1 t6
  rintro m T D H' ⟨i, rfl, hi, rfl, rfl, t0, t1, t7, hall⟩
  by_cases hlt : i < g.length
  · have hlt' : (i : Int) < g.length := by omega
    by_cases hq : okT (prE.at g i).b = true
    · skip
      simp (disch := first | rfl | omega | exact lt_new _ | assumption | decide | (simp [tk_here, tk_app, tk_0, tk_S, gr_here, gr_app, gr_0, gr_S] <;> omega) | fail) only [l22_14, r22_10, r22_11, r22_13, t0, t1, t7, hlt', h58, hq, go_sem, ↓reduceIte, Nat.reduceLT, Nat.reduceEqDiff, Nat.reduceAdd, Nat.reduceMul, Nat.reduceSub, Int.reduceAdd, Int.reduceSub, Nat.reduceLeDiff, Int.reduceLT, Int.reduceLE, Int.reduceEq, Int.reduceNeg, Int.reduceToNat]
      repeat' ((first | refine guardB_dec (fun hy => ?_) (fun hy => ?_) | refine guardB_bool (fun hy => ?_) (fun hy => ?_) | refine guardQ_ite (fun hy => ?_) (fun hy => ?_) | refine brQ_dec (fun hy => ?_) (fun hy => ?_) | refine brQ_bool (fun hy => ?_) (fun hy => ?_)) <;> (try simp only [Bool.not_eq_true', Bool.not_eq_false', Bool.and_eq_true, Bool.or_eq_false_iff, decide_eq_true_eq, decide_eq_false_iff_not] at hy) <;> simp (disch := first | rfl | omega | exact lt_new _ | assumption | decide | (simp [tk_here, tk_app, tk_0, tk_S, gr_here, gr_app, gr_0, gr_S] <;> omega) | fail) only [l22_14, r22_10, r22_11, r22_13, t0, t1, t7, hlt', h58, hq, go_sem, ↓reduceIte, Nat.reduceLT, Nat.reduceEqDiff, Nat.reduceAdd, Nat.reduceMul, Nat.reduceSub, Int.reduceAdd, Int.reduceSub, Nat.reduceLeDiff, Int.reduceLT, Int.reduceLE, Int.reduceEq, Int.reduceNeg, Int.reduceToNat, hy])
      refine ⟨_, by omega, i + 1, rfl, hlt, rfl, fun j hj => ?_⟩
      by_cases e : j = i
      · subst e; simp [badP, hq]
      · exact hall j (by omega)
    · rw [Bool.not_eq_true] at hq
      rw [if_pos (.inr (pany_at hlt (by simp [badP, hq])))]
      simp (disch := first | rfl | omega | exact lt_new _ | assumption | decide | (simp [tk_here, tk_app, tk_0, tk_S, gr_here, gr_app, gr_0, gr_S] <;> omega) | fail) only [l22_14, r22_10, r22_11, r22_12, rs22, gc22, t0, t1, t7, hlt', h58, hq, slV_nil, go_sem, ↓reduceIte, Nat.reduceLT, Nat.reduceEqDiff, Nat.reduceAdd, Nat.reduceMul, Nat.reduceSub, Int.reduceAdd, Int.reduceSub, Nat.reduceLeDiff, Int.reduceLT, Int.reduceLE, Int.reduceEq, Int.reduceNeg, Int.reduceToNat]
      repeat' ((first | refine guardB_dec (fun hy => ?_) (fun hy => ?_) | refine guardB_bool (fun hy => ?_) (fun hy => ?_) | refine guardQ_ite (fun hy => ?_) (fun hy => ?_) | refine brQ_dec (fun hy => ?_) (fun hy => ?_) | refine brQ_bool (fun hy => ?_) (fun hy => ?_)) <;> (try simp only [Bool.not_eq_true', Bool.not_eq_false', Bool.and_eq_true, Bool.or_eq_false_iff, decide_eq_true_eq, decide_eq_false_iff_not] at hy) <;> simp (disch := first | rfl | omega | exact lt_new _ | assumption | decide | (simp [tk_here, tk_app, tk_0, tk_S, gr_here, gr_app, gr_0, gr_S] <;> omega) | fail) only [l22_14, r22_10, r22_11, r22_12, rs22, gc22, t0, t1, t7, hlt', h58, hq, slV_nil, go_sem, ↓reduceIte, Nat.reduceLT, Nat.reduceEqDiff, Nat.reduceAdd, Nat.reduceMul, Nat.reduceSub, Int.reduceAdd, Int.reduceSub, Nat.reduceLeDiff, Int.reduceLT, Int.reduceLE, Int.reduceEq, Int.reduceNeg, Int.reduceToNat, hy])
      all_goals (try ((first | refine finQ_same ?_ | refine finQ_app ?_ | (rw [List.append_assoc]; refine finQ_app ?_)) <;> simp (disch := first | rfl | omega | exact lt_new _ | assumption | decide | (simp [tk_here, tk_app, tk_0, tk_S, gr_here, gr_app, gr_0, gr_S] <;> omega) | fail) only [go_sem, ↓reduceIte, Nat.reduceLT, Nat.reduceEqDiff, Nat.reduceAdd, Nat.reduceMul, Nat.reduceSub, Int.reduceAdd, Int.reduceSub, Nat.reduceLeDiff, Int.reduceLT, Int.reduceLE, Int.reduceEq, Int.reduceNeg, Int.reduceToNat, List.append_assoc, List.cons_append, List.nil_append, *]))
      all_goals (try first | rfl | (simp [*]; done) | grind)
  obtain rfl : i = g.length := by omega
  have c6 := pany_no hall
  clear hall
  rw [if_neg (by simp [c5, c6])]
  simp (disch := first | rfl | omega | exact lt_new _ | assumption | decide | (simp [tk_here, tk_app, tk_0, tk_S, gr_here, gr_app, gr_0, gr_S] <;> omega) | fail) only [l22_14, r22_10, r22_15, r22_16, loadV_ptr, storeV_ptr, List.append_assoc, List.length_append, List.length_cons, List.length_nil, List.set_cons_zero, List.set_cons_succ, tk_here, tk_app, gr_here, gr_app, st_here, st_app, t0, t1, t7, Int.lt_irrefl, go_sem, ↓reduceIte, Nat.reduceLT, Nat.reduceEqDiff, Nat.reduceAdd, Nat.reduceMul, Nat.reduceSub, Int.reduceAdd, Int.reduceSub, Nat.reduceLeDiff, Int.reduceLT, Int.reduceLE, Int.reduceEq, Int.reduceNeg, Int.reduceToNat]
  repeat' ((first | refine guardB_dec (fun hy => ?_) (fun hy => ?_) | refine guardB_bool (fun hy => ?_) (fun hy => ?_) | refine guardQ_ite (fun hy => ?_) (fun hy => ?_) | refine brQ_dec (fun hy => ?_) (fun hy => ?_) | refine brQ_bool (fun hy => ?_) (fun hy => ?_)) <;> (try simp only [Bool.not_eq_true', Bool.not_eq_false', Bool.and_eq_true, Bool.or_eq_false_iff, decide_eq_true_eq, decide_eq_false_iff_not] at hy) <;> simp (disch := first | rfl | omega | exact lt_new _ | assumption | decide | (simp [tk_here, tk_app, tk_0, tk_S, gr_here, gr_app, gr_0, gr_S] <;> omega) | fail) only [l22_14, r22_10, r22_15, r22_16, loadV_ptr, storeV_ptr, List.append_assoc, List.length_append, List.length_cons, List.length_nil, List.set_cons_zero, List.set_cons_succ, tk_here, tk_app, gr_here, gr_app, st_here, st_app, t0, t1, t7, Int.lt_irrefl, go_sem, ↓reduceIte, Nat.reduceLT, Nat.reduceEqDiff, Nat.reduceAdd, Nat.reduceMul, Nat.reduceSub, Int.reduceAdd, Int.reduceSub, Nat.reduceLeDiff, Int.reduceLT, Int.reduceLE, Int.reduceEq, Int.reduceNeg, Int.reduceToNat, hy])
  refine Wp_loop (fun m T D H1 => ∃ k G, m = g.length - k ∧ k ≤ g.length ∧ D = [] ∧ H1 = H' ++ .tok ((trips s g k).length * 2) :: G ∧ get T 0 = slV bs prE s ∧ get T 1 = slV bg prE g ∧ get T 8 = osV H'.length prE (trips s g k) ∧ get T 9 = .int .i64 k) ?_ g.length _ _ _ ?_
  case refine_2 => exact ⟨0, [], by simp (disch := first | rfl | omega | exact lt_new _ | assumption | decide | (simp [tk_here, tk_app, tk_0, tk_S, gr_here, gr_app, gr_0, gr_S] <;> omega) | fail) only [go_sem, ↓reduceIte, Nat.reduceLT, Nat.reduceEqDiff, Nat.reduceAdd, Nat.reduceMul, Nat.reduceSub, Int.reduceAdd, Int.reduceSub, Nat.reduceLeDiff, Int.reduceLT, Int.reduceLE, Int.reduceEq, Int.reduceNeg, Int.reduceToNat, t0, t1]; simp [trips, osV_nil]⟩
  clear t0 t1 t7
  rintro m T D _ ⟨k, G, rfl, hk, rfl, rfl, t0, t1, t8, t9⟩
  have htl := trips_len s g k
  by_cases hlt : k < g.length
  · have hlt' : (k : Int) < g.length := by omega
    have hon : trips s g (k + 1) = trips s g k ++ (hit s (prE.at g k) s.length).toList := rfl
    obtain ⟨gb1, gb2⟩ := okP_at c6 hlt
    simp (disch := first | rfl | omega | exact lt_new _ | assumption | decide | (simp [tk_here, tk_app, tk_0, tk_S, gr_here, gr_app, gr_0, gr_S] <;> omega) | fail) only [l22_25, r22_17, r22_18, loadV_ptr, storeV_ptr, List.append_assoc, List.length_append, List.length_cons, List.length_nil, List.set_cons_zero, List.set_cons_succ, tk_here, tk_app, gr_here, gr_app, st_here, st_app, t0, t1, t8, t9, hlt', go_sem, ↓reduceIte, Nat.reduceLT, Nat.reduceEqDiff, Nat.reduceAdd, Nat.reduceMul, Nat.reduceSub, Int.reduceAdd, Int.reduceSub, Nat.reduceLeDiff, Int.reduceLT, Int.reduceLE, Int.reduceEq, Int.reduceNeg, Int.reduceToNat]
    repeat' ((first | refine guardB_dec (fun hy => ?_) (fun hy => ?_) | refine guardB_bool (fun hy => ?_) (fun hy => ?_) | refine guardQ_ite (fun hy => ?_) (fun hy => ?_) | refine brQ_dec (fun hy => ?_) (fun hy => ?_) | refine brQ_bool (fun hy => ?_) (fun hy => ?_)) <;> (try simp only [Bool.not_eq_true', Bool.not_eq_false', Bool.and_eq_true, Bool.or_eq_false_iff, decide_eq_true_eq, decide_eq_false_iff_not] at hy) <;> simp (disch := first | rfl | omega | exact lt_new _ | assumption | decide | (simp [tk_here, tk_app, tk_0, tk_S, gr_here, gr_app, gr_0, gr_S] <;> omega) | fail) only [l22_25, r22_17, r22_18, loadV_ptr, storeV_ptr, List.append_assoc, List.length_append, List.length_cons, List.length_nil, List.set_cons_zero, List.set_cons_succ, tk_here, tk_app, gr_here, gr_app, st_here, st_app, t0, t1, t8, t9, hlt', go_sem, ↓reduceIte, Nat.reduceLT, Nat.reduceEqDiff, Nat.reduceAdd, Nat.reduceMul, Nat.reduceSub, Int.reduceAdd, Int.reduceSub, Nat.reduceLeDiff, Int.reduceLT, Int.reduceLE, Int.reduceEq, Int.reduceNeg, Int.reduceToNat, hy])
    refine Wp_loop (fun m T D H1 => ∃ j, m = j ∧ j ≤ s.length ∧ D = [] ∧ H1 = H' ++ .tok ((trips s g k).length * 2) :: G ∧ get T 0 = slV bs prE s ∧ get T 1 = slV bg prE g ∧ get T 8 = osV H'.length prE (trips s g k) ∧ get T 9 = .int .i64 k ∧ get T 10 = .int .i64 ((j : Int) - 1) ∧ hit s (prE.at g k) s.length = hit s (prE.at g k) j) ?_ s.length _ _ _ ?_
    case refine_2 =>
      refine ⟨s.length, rfl, Nat.le_refl _, ?_⟩
      simp (disch := first | rfl | omega | exact lt_new _ | assumption | decide | (simp [tk_here, tk_app, tk_0, tk_S, gr_here, gr_app, gr_0, gr_S] <;> omega) | fail) only [go_sem, ↓reduceIte, Nat.reduceLT, Nat.reduceEqDiff, Nat.reduceAdd, Nat.reduceMul, Nat.reduceSub, Int.reduceAdd, Int.reduceSub, Nat.reduceLeDiff, Int.reduceLT, Int.reduceLE, Int.reduceEq, Int.reduceNeg, Int.reduceToNat, t0, t1, t8, t9]
      first | done | simp
    clear t0 t1 t8 t9
    rintro j T D _ ⟨_, rfl, hj, rfl, rfl, t0, t1, t8, t9, t10, hS⟩
    cases j with
    | zero =>
      have hon' : trips s g (k + 1) = trips s g k := by rw [hon, hS]; simp [hit]
      rw [show (((0 : Nat) : Int) - 1) = -1 from rfl] at t10
      simp (disch := first | rfl | omega | exact lt_new _ | assumption | decide | (simp [tk_here, tk_app, tk_0, tk_S, gr_here, gr_app, gr_0, gr_S] <;> omega) | fail) only [l22_23, r22_19, r22_24, loadV_ptr, storeV_ptr, List.append_assoc, List.length_append, List.length_cons, List.length_nil, List.set_cons_zero, List.set_cons_succ, tk_here, tk_app, gr_here, gr_app, st_here, st_app, t0, t1, t8, t9, t10, go_sem, ↓reduceIte, Nat.reduceLT, Nat.reduceEqDiff, Nat.reduceAdd, Nat.reduceMul, Nat.reduceSub, Int.reduceAdd, Int.reduceSub, Nat.reduceLeDiff, Int.reduceLT, Int.reduceLE, Int.reduceEq, Int.reduceNeg, Int.reduceToNat]
      repeat' ((first | refine guardB_dec (fun hy => ?_) (fun hy => ?_) | refine guardB_bool (fun hy => ?_) (fun hy => ?_) | refine guardQ_ite (fun hy => ?_) (fun hy => ?_) | refine brQ_dec (fun hy => ?_) (fun hy => ?_) | refine brQ_bool (fun hy => ?_) (fun hy => ?_)) <;> (try simp only [Bool.not_eq_true', Bool.not_eq_false', Bool.and_eq_true, Bool.or_eq_false_iff, decide_eq_true_eq, decide_eq_false_iff_not] at hy) <;> simp (disch := first | rfl | omega | exact lt_new _ | assumption | decide | (simp [tk_here, tk_app, tk_0, tk_S, gr_here, gr_app, gr_0, gr_S] <;> omega) | fail) only [l22_23, r22_19, r22_24, loadV_ptr, storeV_ptr, List.append_assoc, List.length_append, List.length_cons, List.length_nil, List.set_cons_zero, List.set_cons_succ, tk_here, tk_app, gr_here, gr_app, st_here, st_app, t0, t1, t8, t9, t10, go_sem, ↓reduceIte, Nat.reduceLT, Nat.reduceEqDiff, Nat.reduceAdd, Nat.reduceMul, Nat.reduceSub, Int.reduceAdd, Int.reduceSub, Nat.reduceLeDiff, Int.reduceLT, Int.reduceLE, Int.reduceEq, Int.reduceNeg, Int.reduceToNat, hy])
      exact ⟨_, by omega, k + 1, _, rfl, hlt, by rw [hon'], by rw [hon'], rfl⟩
    | succ j =>
      have hj0 : (0 : Int) ≤ j := by omega
      have hjs : j < s.length := by omega
      have hjs' : (j : Int) < s.length := by omega
      obtain ⟨sb1, sb2⟩ := okP_at c5 hjs
      rw [show (((j + 1 : Nat) : Int) - 1) = j by omega] at t10
      have hls : hit s (prE.at g k) (j + 1) = if (prE.at s j).a = (prE.at g k).a ∧ (prE.at s j).b ≤ (prE.at g k).b then some ⟨(prE.at g k).a, (prE.at g k).b - (prE.at s j).b⟩ else hit s (prE.at g k) j := rfl
      by_cases q1 : (prE.at s j).a = (prE.at g k).a
      · by_cases q2 : (prE.at s j).b ≤ (prE.at g k).b
        · rw [if_pos ⟨q1, q2⟩] at hls
          rw [hS, hls] at hon
          have hr := prE_2 (prE.at g k).a ((prE.at g k).b - (prE.at s j).b)
          simp (disch := first | rfl | omega | exact lt_new _ | assumption | decide | (simp [tk_here, tk_app, tk_0, tk_S, gr_here, gr_app, gr_0, gr_S] <;> omega) | fail) only [l22_23, r22_19, r22_20, r22_21, r22_24, loadV_ptr, storeV_ptr, List.append_assoc, List.length_append, List.length_cons, List.length_nil, List.set_cons_zero, List.set_cons_succ, tk_here, tk_app, gr_here, gr_app, st_here, st_app, t0, t1, t8, t9, t10, hj0, hlt', hjs', q1, q2, hr, go_sem, ↓reduceIte, Nat.reduceLT, Nat.reduceEqDiff, Nat.reduceAdd, Nat.reduceMul, Nat.reduceSub, Int.reduceAdd, Int.reduceSub, Nat.reduceLeDiff, Int.reduceLT, Int.reduceLE, Int.reduceEq, Int.reduceNeg, Int.reduceToNat]
          repeat' ((first | refine guardB_dec (fun hy => ?_) (fun hy => ?_) | refine guardB_bool (fun hy => ?_) (fun hy => ?_) | refine guardQ_ite (fun hy => ?_) (fun hy => ?_) | refine brQ_dec (fun hy => ?_) (fun hy => ?_) | refine brQ_bool (fun hy => ?_) (fun hy => ?_)) <;> (try simp only [Bool.not_eq_true', Bool.not_eq_false', Bool.and_eq_true, Bool.or_eq_false_iff, decide_eq_true_eq, decide_eq_false_iff_not] at hy) <;> simp (disch := first | rfl | omega | exact lt_new _ | assumption | decide | (simp [tk_here, tk_app, tk_0, tk_S, gr_here, gr_app, gr_0, gr_S] <;> omega) | fail) only [l22_23, r22_19, r22_20, r22_21, r22_24, loadV_ptr, storeV_ptr, List.append_assoc, List.length_append, List.length_cons, List.length_nil, List.set_cons_zero, List.set_cons_succ, tk_here, tk_app, gr_here, gr_app, st_here, st_app, t0, t1, t8, t9, t10, hj0, hlt', hjs', q1, q2, hr, go_sem, ↓reduceIte, Nat.reduceLT, Nat.reduceEqDiff, Nat.reduceAdd, Nat.reduceMul, Nat.reduceSub, Int.reduceAdd, Int.reduceSub, Nat.reduceLeDiff, Int.reduceLT, Int.reduceLE, Int.reduceEq, Int.reduceNeg, Int.reduceToNat, hy])
          exact ⟨_, by omega, k + 1, _, rfl, hlt, by rw [hon, List.length_append]; rfl, by rw [hon]; rfl, rfl⟩
        · rw [if_neg (fun z => q2 z.2)] at hls
          simp (disch := first | rfl | omega | exact lt_new _ | assumption | decide | (simp [tk_here, tk_app, tk_0, tk_S, gr_here, gr_app, gr_0, gr_S] <;> omega) | fail) only [l22_23, r22_19, r22_20, r22_22, loadV_ptr, storeV_ptr, List.append_assoc, List.length_append, List.length_cons, List.length_nil, List.set_cons_zero, List.set_cons_succ, tk_here, tk_app, gr_here, gr_app, st_here, st_app, t0, t1, t8, t9, t10, hj0, hlt', hjs', q1, q2, go_sem, ↓reduceIte, Nat.reduceLT, Nat.reduceEqDiff, Nat.reduceAdd, Nat.reduceMul, Nat.reduceSub, Int.reduceAdd, Int.reduceSub, Nat.reduceLeDiff, Int.reduceLT, Int.reduceLE, Int.reduceEq, Int.reduceNeg, Int.reduceToNat]
          repeat' ((first | refine guardB_dec (fun hy => ?_) (fun hy => ?_) | refine guardB_bool (fun hy => ?_) (fun hy => ?_) | refine guardQ_ite (fun hy => ?_) (fun hy => ?_) | refine brQ_dec (fun hy => ?_) (fun hy => ?_) | refine brQ_bool (fun hy => ?_) (fun hy => ?_)) <;> (try simp only [Bool.not_eq_true', Bool.not_eq_false', Bool.and_eq_true, Bool.or_eq_false_iff, decide_eq_true_eq, decide_eq_false_iff_not] at hy) <;> simp (disch := first | rfl | omega | exact lt_new _ | assumption | decide | (simp [tk_here, tk_app, tk_0, tk_S, gr_here, gr_app, gr_0, gr_S] <;> omega) | fail) only [l22_23, r22_19, r22_20, r22_22, loadV_ptr, storeV_ptr, List.append_assoc, List.length_append, List.length_cons, List.length_nil, List.set_cons_zero, List.set_cons_succ, tk_here, tk_app, gr_here, gr_app, st_here, st_app, t0, t1, t8, t9, t10, hj0, hlt', hjs', q1, q2, go_sem, ↓reduceIte, Nat.reduceLT, Nat.reduceEqDiff, Nat.reduceAdd, Nat.reduceMul, Nat.reduceSub, Int.reduceAdd, Int.reduceSub, Nat.reduceLeDiff, Int.reduceLT, Int.reduceLE, Int.reduceEq, Int.reduceNeg, Int.reduceToNat, hy])
          exact ⟨_, by omega, j, rfl, by omega, rfl, by rw [hS, hls]⟩
      · rw [if_neg (fun z => q1 z.1)] at hls
        simp (disch := first | rfl | omega | exact lt_new _ | assumption | decide | (simp [tk_here, tk_app, tk_0, tk_S, gr_here, gr_app, gr_0, gr_S] <;> omega) | fail) only [l22_23, r22_19, r22_20, r22_22, loadV_ptr, storeV_ptr, List.append_assoc, List.length_append, List.length_cons, List.length_nil, List.set_cons_zero, List.set_cons_succ, tk_here, tk_app, gr_here, gr_app, st_here, st_app, t0, t1, t8, t9, t10, hj0, hlt', hjs', q1, go_sem, ↓reduceIte, Nat.reduceLT, Nat.reduceEqDiff, Nat.reduceAdd, Nat.reduceMul, Nat.reduceSub, Int.reduceAdd, Int.reduceSub, Nat.reduceLeDiff, Int.reduceLT, Int.reduceLE, Int.reduceEq, Int.reduceNeg, Int.reduceToNat]
        repeat' ((first | refine guardB_dec (fun hy => ?_) (fun hy => ?_) | refine guardB_bool (fun hy => ?_) (fun hy => ?_) | refine guardQ_ite (fun hy => ?_) (fun hy => ?_) | refine brQ_dec (fun hy => ?_) (fun hy => ?_) | refine brQ_bool (fun hy => ?_) (fun hy => ?_)) <;> (try simp only [Bool.not_eq_true', Bool.not_eq_false', Bool.and_eq_true, Bool.or_eq_false_iff, decide_eq_true_eq, decide_eq_false_iff_not] at hy) <;> simp (disch := first | rfl | omega | exact lt_new _ | assumption | decide | (simp [tk_here, tk_app, tk_0, tk_S, gr_here, gr_app, gr_0, gr_S] <;> omega) | fail) only [l22_23, r22_19, r22_20, r22_22, loadV_ptr, storeV_ptr, List.append_assoc, List.length_append, List.length_cons, List.length_nil, List.set_cons_zero, List.set_cons_succ, tk_here, tk_app, gr_here, gr_app, st_here, st_app, t0, t1, t8, t9, t10, hj0, hlt', hjs', q1, go_sem, ↓reduceIte, Nat.reduceLT, Nat.reduceEqDiff, Nat.reduceAdd, Nat.reduceMul, Nat.reduceSub, Int.reduceAdd, Int.reduceSub, Nat.reduceLeDiff, Int.reduceLT, Int.reduceLE, Int.reduceEq, Int.reduceNeg, Int.reduceToNat, hy])
        exact ⟨_, by omega, j, rfl, by omega, rfl, by rw [hS, hls]⟩
  · obtain rfl : k = g.length := by omega
    simp (disch := first | rfl | omega | exact lt_new _ | assumption | decide | (simp [tk_here, tk_app, tk_0, tk_S, gr_here, gr_app, gr_0, gr_S] <;> omega) | fail) only [l22_25, r22_17, r22_26, rs22, gc22, loadV_ptr, storeV_ptr, List.append_assoc, List.length_append, List.length_cons, List.length_nil, List.set_cons_zero, List.set_cons_succ, tk_here, tk_app, gr_here, gr_app, st_here, st_app, t0, t1, t8, t9, Int.lt_irrefl, go_sem, ↓reduceIte, Nat.reduceLT, Nat.reduceEqDiff, Nat.reduceAdd, Nat.reduceMul, Nat.reduceSub, Int.reduceAdd, Int.reduceSub, Nat.reduceLeDiff, Int.reduceLT, Int.reduceLE, Int.reduceEq, Int.reduceNeg, Int.reduceToNat]
    repeat' ((first | refine guardB_dec (fun hy => ?_) (fun hy => ?_) | refine guardB_bool (fun hy => ?_) (fun hy => ?_) | refine guardQ_ite (fun hy => ?_) (fun hy => ?_) | refine brQ_dec (fun hy => ?_) (fun hy => ?_) | refine brQ_bool (fun hy => ?_) (fun hy => ?_)) <;> (try simp only [Bool.not_eq_true', Bool.not_eq_false', Bool.and_eq_true, Bool.or_eq_false_iff, decide_eq_true_eq, decide_eq_false_iff_not] at hy) <;> simp (disch := first | rfl | omega | exact lt_new _ | assumption | decide | (simp [tk_here, tk_app, tk_0, tk_S, gr_here, gr_app, gr_0, gr_S] <;> omega) | fail) only [l22_25, r22_17, r22_26, rs22, gc22, loadV_ptr, storeV_ptr, List.append_assoc, List.length_append, List.length_cons, List.length_nil, List.set_cons_zero, List.set_cons_succ, tk_here, tk_app, gr_here, gr_app, st_here, st_app, t0, t1, t8, t9, Int.lt_irrefl, go_sem, ↓reduceIte, Nat.reduceLT, Nat.reduceEqDiff, Nat.reduceAdd, Nat.reduceMul, Nat.reduceSub, Int.reduceAdd, Int.reduceSub, Nat.reduceLeDiff, Int.reduceLT, Int.reduceLE, Int.reduceEq, Int.reduceNeg, Int.reduceToNat, hy])
    refine finQ_app ?_
    simp (disch := first | rfl | omega | exact lt_new _ | assumption | decide | (simp [tk_here, tk_app, tk_0, tk_S, gr_here, gr_app, gr_0, gr_S] <;> omega) | fail) only [go_sem, ↓reduceIte, Nat.reduceLT, Nat.reduceEqDiff, Nat.reduceAdd, Nat.reduceMul, Nat.reduceSub, Int.reduceAdd, Int.reduceSub, Nat.reduceLeDiff, Int.reduceLT, Int.reduceLE, Int.reduceEq, Int.reduceNeg, Int.reduceToNat]
end Go.Proofs.YteeofpgnjekeaaaGreatDoor
/-
  Lists put one behind the other, by the library; walked. No statement of the seat stands here.
-/
namespace Go.Proofs.YteeofpgnjekeaaaGreatDoor
open Go Go.An
set_option maxRecDepth 4000
set_option linter.unusedSimpArgs false
set_option linter.unusedVariables false

theorem gw37 (m : Nat) (H : Hp) (h : 0 < m) (h2 : m ≤ 2 ^ 30) : builtinV Tryz.prog .append #[37, 3] [.nilslice, .int .i64 (m : Int)] H = some (.slice H.length 0 0 m 2 .full, H ++ [.row 0 (repeatV [.int .i64 0, .int .i64 0] m) true]) := by
  unfold builtinV
  simp only [u3]
  unfold growV
  rw [u37]
  simp only [z40, y40, o40, Option.bind_some]
  rw [if_pos ⟨by decide, rfl, rfl, by omega, by omega, by omega⟩, Int.toNat_natCast]
  rfl
theorem cap37 : capV Tryz.prog 37 .nilslice = some (.int .i64 0) := by
  unfold capV
  rw [u37]
  rfl
theorem sl37 (H : Hp) : sliceV Tryz.prog 37 H .nilslice none (some (.int .i64 0)) = some .nilslice := by
  unfold sliceV
  rw [u37]
  simp only [z40, boundV, Option.bind_some]
  rfl
theorem sl37r (H : Hp) (id m : Nat) : sliceV Tryz.prog 37 H (.slice id 0 0 m 2 .full) none (some (.int .i64 0)) = some (.slice id 0 0 0 2 .full) := by
  unfold sliceV
  rw [u37]
  simp only [z40, boundV, Option.bind_some]
  rw [if_pos ⟨trivial, by omega, by omega, by omega⟩]
  rfl
theorem fn115 (m : Nat) (H : Hp) (h2 : m ≤ 2 ^ 30) : callL Tryz.prog pr 115 [.nilslice, .int .i64 (m : Int)] H = some (if m = 0 then (.nilslice, H) else (.slice H.length 0 0 0 2 .full, H ++ [.row 0 (repeatV [.int .i64 0, .int .i64 0] m) true])) := by
  refine run115 (Nat.le_of_ble_eq_true rfl) ?_
  have h0 : ¬ (m : Int) < 0 := by omega
  by_cases hm : m = 0
  · skip
    subst hm
    rw [if_pos rfl]
    have e0 : ((0 : Nat) : Int) = 0 := rfl
    simp (disch := first | rfl | omega | exact lt_new _ | assumption | decide | (simp [tk_here, tk_app, tk_0, tk_S, gr_here, gr_app, gr_0, gr_S] <;> omega) | fail) only [r115_0, r115_1, r115_2, r115_3, r115_4, r115_5, r115_6, c115, rs115, gc115, e0, cap37, Int.lt_irrefl, Int.sub_zero, go_sem, ↓reduceIte, Nat.reduceLT, Nat.reduceEqDiff, Nat.reduceAdd, Nat.reduceMul, Nat.reduceSub, Int.reduceAdd, Int.reduceSub, Nat.reduceLeDiff, Int.reduceLT, Int.reduceLE, Int.reduceEq, Int.reduceNeg, Int.reduceToNat]
    repeat' ((first | refine guardB_dec (fun hy => ?_) (fun hy => ?_) | refine guardB_bool (fun hy => ?_) (fun hy => ?_) | refine guardQ_ite (fun hy => ?_) (fun hy => ?_) | refine brQ_dec (fun hy => ?_) (fun hy => ?_) | refine brQ_bool (fun hy => ?_) (fun hy => ?_)) <;> (try simp only [Bool.not_eq_true', Bool.not_eq_false', Bool.and_eq_true, Bool.or_eq_false_iff, decide_eq_true_eq, decide_eq_false_iff_not] at hy) <;> simp (disch := first | rfl | omega | exact lt_new _ | assumption | decide | (simp [tk_here, tk_app, tk_0, tk_S, gr_here, gr_app, gr_0, gr_S] <;> omega) | fail) only [r115_0, r115_1, r115_2, r115_3, r115_4, r115_5, r115_6, c115, rs115, gc115, e0, cap37, Int.lt_irrefl, Int.sub_zero, go_sem, ↓reduceIte, Nat.reduceLT, Nat.reduceEqDiff, Nat.reduceAdd, Nat.reduceMul, Nat.reduceSub, Int.reduceAdd, Int.reduceSub, Nat.reduceLeDiff, Int.reduceLT, Int.reduceLE, Int.reduceEq, Int.reduceNeg, Int.reduceToNat, hy])
    all_goals (try ((first | refine finQ_same ?_ | refine finQ_app ?_ | (rw [List.append_assoc]; refine finQ_app ?_)) <;> simp (disch := first | rfl | omega | exact lt_new _ | assumption | decide | (simp [tk_here, tk_app, tk_0, tk_S, gr_here, gr_app, gr_0, gr_S] <;> omega) | fail) only [go_sem, ↓reduceIte, Nat.reduceLT, Nat.reduceEqDiff, Nat.reduceAdd, Nat.reduceMul, Nat.reduceSub, Int.reduceAdd, Int.reduceSub, Nat.reduceLeDiff, Int.reduceLT, Int.reduceLE, Int.reduceEq, Int.reduceNeg, Int.reduceToNat, List.append_assoc, List.cons_append, List.nil_append, *]))
    all_goals (try first | rfl | (simp [*]; done) | grind)
  · have hm0 : (0 : Int) < m := by omega
    have hg := fun H => gw37 m H (by omega) h2
    rw [if_neg hm]
    simp (disch := first | rfl | omega | exact lt_new _ | assumption | decide | (simp [tk_here, tk_app, tk_0, tk_S, gr_here, gr_app, gr_0, gr_S] <;> omega) | fail) only [r115_0, r115_1, r115_2, r115_3, r115_4, r115_5, r115_6, c115, rs115, gc115, h0, hm0, cap37, sl37, sl37r, hg, Int.sub_zero, go_sem, ↓reduceIte, Nat.reduceLT, Nat.reduceEqDiff, Nat.reduceAdd, Nat.reduceMul, Nat.reduceSub, Int.reduceAdd, Int.reduceSub, Nat.reduceLeDiff, Int.reduceLT, Int.reduceLE, Int.reduceEq, Int.reduceNeg, Int.reduceToNat]
    repeat' ((first | refine guardB_dec (fun hy => ?_) (fun hy => ?_) | refine guardB_bool (fun hy => ?_) (fun hy => ?_) | refine guardQ_ite (fun hy => ?_) (fun hy => ?_) | refine brQ_dec (fun hy => ?_) (fun hy => ?_) | refine brQ_bool (fun hy => ?_) (fun hy => ?_)) <;> (try simp only [Bool.not_eq_true', Bool.not_eq_false', Bool.and_eq_true, Bool.or_eq_false_iff, decide_eq_true_eq, decide_eq_false_iff_not] at hy) <;> simp (disch := first | rfl | omega | exact lt_new _ | assumption | decide | (simp [tk_here, tk_app, tk_0, tk_S, gr_here, gr_app, gr_0, gr_S] <;> omega) | fail) only [r115_0, r115_1, r115_2, r115_3, r115_4, r115_5, r115_6, c115, rs115, gc115, h0, hm0, cap37, sl37, sl37r, hg, Int.sub_zero, go_sem, ↓reduceIte, Nat.reduceLT, Nat.reduceEqDiff, Nat.reduceAdd, Nat.reduceMul, Nat.reduceSub, Int.reduceAdd, Int.reduceSub, Nat.reduceLeDiff, Int.reduceLT, Int.reduceLE, Int.reduceEq, Int.reduceNeg, Int.reduceToNat, hy])
    all_goals (try ((first | refine finQ_same ?_ | refine finQ_app ?_ | (rw [List.append_assoc]; refine finQ_app ?_)) <;> simp (disch := first | rfl | omega | exact lt_new _ | assumption | decide | (simp [tk_here, tk_app, tk_0, tk_S, gr_here, gr_app, gr_0, gr_S] <;> omega) | fail) only [go_sem, ↓reduceIte, Nat.reduceLT, Nat.reduceEqDiff, Nat.reduceAdd, Nat.reduceMul, Nat.reduceSub, Int.reduceAdd, Int.reduceSub, Nat.reduceLeDiff, Int.reduceLT, Int.reduceLE, Int.reduceEq, Int.reduceNeg, Int.reduceToNat, List.append_assoc, List.cons_append, List.nil_append, *]))
    all_goals (try first | rfl | (simp [*]; done) | grind)
end Go.Proofs.YteeofpgnjekeaaaGreatDoor
/-
  The library's way backward through a list: what it is made of. No statement of the seat stands here.
-/
namespace Go.Proofs.YteeofpgnjekeaaaGreatDoor
open Go Go.An
set_option maxRecDepth 4000
set_option linter.unusedSimpArgs false
set_option linter.unusedVariables false

theorem fn67 (b : Bool) (s : List Pr) (H : Hp) : callL Tryz.prog pr 67 [slV b prE s] H = some (.fn 116 [] [.ipt [slV b prE s] 0], H) := by
  refine run67 (Nat.le_of_ble_eq_true rfl) ?_
  simp (disch := first | rfl | omega | exact lt_new _ | assumption | decide | (simp [tk_here, tk_app, tk_0, tk_S, gr_here, gr_app, gr_0, gr_S] <;> omega) | fail) only [r67_0, r67_1, c67, rs67, gc67, go_sem, ↓reduceIte, Nat.reduceLT, Nat.reduceEqDiff, Nat.reduceAdd, Nat.reduceMul, Nat.reduceSub, Int.reduceAdd, Int.reduceSub, Nat.reduceLeDiff, Int.reduceLT, Int.reduceLE, Int.reduceEq, Int.reduceNeg, Int.reduceToNat]
  repeat' ((first | refine guardB_dec (fun hy => ?_) (fun hy => ?_) | refine guardB_bool (fun hy => ?_) (fun hy => ?_) | refine guardQ_ite (fun hy => ?_) (fun hy => ?_) | refine brQ_dec (fun hy => ?_) (fun hy => ?_) | refine brQ_bool (fun hy => ?_) (fun hy => ?_)) <;> (try simp only [Bool.not_eq_true', Bool.not_eq_false', Bool.and_eq_true, Bool.or_eq_false_iff, decide_eq_true_eq, decide_eq_false_iff_not] at hy) <;> simp (disch := first | rfl | omega | exact lt_new _ | assumption | decide | (simp [tk_here, tk_app, tk_0, tk_S, gr_here, gr_app, gr_0, gr_S] <;> omega) | fail) only [r67_0, r67_1, c67, rs67, gc67, go_sem, ↓reduceIte, Nat.reduceLT, Nat.reduceEqDiff, Nat.reduceAdd, Nat.reduceMul, Nat.reduceSub, Int.reduceAdd, Int.reduceSub, Nat.reduceLeDiff, Int.reduceLT, Int.reduceLE, Int.reduceEq, Int.reduceNeg, Int.reduceToNat, hy])
  all_goals (try ((first | refine finQ_same ?_ | refine finQ_app ?_ | (rw [List.append_assoc]; refine finQ_app ?_)) <;> simp (disch := first | rfl | omega | exact lt_new _ | assumption | decide | (simp [tk_here, tk_app, tk_0, tk_S, gr_here, gr_app, gr_0, gr_S] <;> omega) | fail) only [go_sem, ↓reduceIte, Nat.reduceLT, Nat.reduceEqDiff, Nat.reduceAdd, Nat.reduceMul, Nat.reduceSub, Int.reduceAdd, Int.reduceSub, Nat.reduceLeDiff, Int.reduceLT, Int.reduceLE, Int.reduceEq, Int.reduceNeg, Int.reduceToNat, List.append_assoc, List.cons_append, List.nil_append, *]))
  all_goals (try first | rfl | (simp [*]; done) | grind)
/-- The pairs of a list of two lists, one behind the other: how many. -/
theorem ld37 (b b' : Bool) (s g : List Pr) (H : Hp) : loadV Tryz.prog 37 H (.ipt [slV b prE s, slV b' prE g] 0) = some (slV b prE s) ∧ loadV Tryz.prog 37 H (.ipt [slV b prE s, slV b' prE g] 1) = some (slV b' prE g) := by
  have hg : aggT Tryz.prog 37 = some false := by kernel_rfl
  constructor <;> · rw [loadV_ipt]; unfold partV; rw [hg]; rfl
end Go.Proofs.YteeofpgnjekeaaaGreatDoor
/-
  Two lists put one behind the other, by the library; walked. No statement of the seat stands here.
-/
namespace Go.Proofs.YteeofpgnjekeaaaGreatDoor
open Go Go.An
set_option maxRecDepth 4000
set_option linter.unusedSimpArgs false
set_option linter.unusedVariables false

theorem rep2_len (m : Nat) : (repeatV [V.int .i64 0, V.int .i64 0] m).length = m * 2 := by
  induction m with
  | zero => rfl
  | succ m ih => simp only [repeatV, List.length_append, ih, List.length_cons, List.length_nil]; omega
/-- A list behind what lies in a row that has room for it. -/
theorem ap_room {H : Hp} {cs : List V} {n : Nat} {b : Bool} {l : List Pr} (h1 : (n + l.length) * 2 ≤ cs.length) (h2 : n + l.length ≤ 2 ^ 20) :
    appOf 2 16 (H ++ [.row 0 cs true]) (.slice H.length 0 0 n 2 .full) (slV b prE l) = some (.slice H.length 0 0 (n + l.length) 2 .full, H ++ [.row 0 (setAt cs (n * 2) (flatE prE l)) true]) := by
  have hw : prE.w = 2 := rfl
  have hfl := flatE_len (E := prE) (l := l)
  rw [hw] at hfl
  have hfc := flatE_cells prE l
  unfold appOf
  rw [src_slV]
  simp only [Option.bind_some]
  rw [if_pos ⟨hfl, hfc⟩]
  simp only [getRow_last, Option.bind_some]
  rw [if_pos ⟨trivial, by omega, by omega, by omega⟩]
  by_cases hz : l.length = 0
  · obtain rfl : l = [] := List.eq_nil_of_length_eq_zero hz
    simp [flatE, setAt]
  · rw [if_neg hz, if_pos trivial, if_pos (by omega), set_last, Nat.zero_add]
theorem two_room {s g : List Pr} : setAt (setAt (repeatV [V.int .i64 0, V.int .i64 0] (s.length + g.length)) 0 (flatE prE s)) (s.length * 2) (flatE prE g) = flatE prE (s ++ g) := by
  have hs := flatE_len (E := prE) (l := s)
  have hg := flatE_len (E := prE) (l := g)
  have hw : prE.w = 2 := rfl
  rw [hw] at hs hg
  have hr := rep2_len (s.length + g.length)
  rw [flatE_app]
  have e1 : setAt (repeatV [V.int .i64 0, V.int .i64 0] (s.length + g.length)) 0 (flatE prE s) = flatE prE s ++ (repeatV [V.int .i64 0, V.int .i64 0] (s.length + g.length)).drop (s.length * 2) := by
    simp [setAt, hs]
  rw [e1]
  show List.take _ _ ++ _ ++ List.drop _ _ = _
  rw [List.take_append_of_le_length (by omega), List.take_of_length_le (by omega), List.drop_eq_nil_of_le (by simp; omega), List.append_nil]
theorem len157 (a b : V) (H : Hp) : lenV Tryz.prog 157 H (.isl [a, b] 2 1) = some (.int .i64 2) := by
  unfold lenV
  rw [u157]
  rfl
theorem ix157 (a b : V) (i : Nat) (h : i < 2) : indexAddrV Tryz.prog 157 (.isl [a, b] 2 1) (.int .i64 (i : Int)) = some (.ipt [a, b] i) := by
  unfold indexAddrV
  rw [u157]
  have e : szOf Tryz.prog 37 = some 1 := by kernel_rfl
  simp only [e]
  rw [if_pos ⟨trivial, by omega, rfl, by omega, by omega⟩]
  simp
def two (s g : List Pr) : Nat → Nat
  | 0 => 0
  | 1 => s.length
  | _ => s.length + g.length
def room (s g : List Pr) : Nat → List V
  | 0 => repeatV [V.int .i64 0, V.int .i64 0] (s.length + g.length)
  | 1 => setAt (repeatV [V.int .i64 0, V.int .i64 0] (s.length + g.length)) 0 (flatE prE s)
  | _ => flatE prE (s ++ g)
set_option maxHeartbeats 4000000 in
theorem fn65 (b b' : Bool) (s g : List Pr) (h1 : s.length ≤ 200) (h2 : g.length ≤ 200) (H : Hp) : ∃ b2, callL Tryz.prog pr 65 [.isl [slV b prE s, slV b' prE g] 2 1] H = some (slV b2 prE (s ++ g), H) := by
  suffices h : ∃ r, callL Tryz.prog pr 65 [.isl [slV b prE s, slV b' prE g] 2 1] H = some r ∧ ∃ b2, r = (slV b2 prE (s ++ g), H) by
    obtain ⟨_, e, b2, rfl⟩ := h
    exact ⟨b2, e⟩
  refine ex65 (Nat.le_of_ble_eq_true rfl) ?_
  have hix := ix157 (slV b prE s) (slV b' prE g)
  simp (disch := first | rfl | omega | exact lt_new _ | assumption | decide | (simp [tk_here, tk_app, tk_0, tk_S, gr_here, gr_app, gr_0, gr_S] <;> omega) | fail) only [r65_0, r65_1, r65_2, r65_3, r65_4, r65_5, r65_6, r65_7, r65_8, r65_10, r65_11, r65_12, r65_13, r65_14, r65_15, r65_17, c65, rs65, gc65, len157, go_sem, ↓reduceIte, Nat.reduceLT, Nat.reduceEqDiff, Nat.reduceAdd, Nat.reduceMul, Nat.reduceSub, Int.reduceAdd, Int.reduceSub, Nat.reduceLeDiff, Int.reduceLT, Int.reduceLE, Int.reduceEq, Int.reduceNeg, Int.reduceToNat]
  repeat' ((first | refine guardB_dec (fun hy => ?_) (fun hy => ?_) | refine guardB_bool (fun hy => ?_) (fun hy => ?_) | refine guardQ_ite (fun hy => ?_) (fun hy => ?_) | refine brQ_dec (fun hy => ?_) (fun hy => ?_) | refine brQ_bool (fun hy => ?_) (fun hy => ?_)) <;> (try simp only [Bool.not_eq_true', Bool.not_eq_false', Bool.and_eq_true, Bool.or_eq_false_iff, decide_eq_true_eq, decide_eq_false_iff_not] at hy) <;> simp (disch := first | rfl | omega | exact lt_new _ | assumption | decide | (simp [tk_here, tk_app, tk_0, tk_S, gr_here, gr_app, gr_0, gr_S] <;> omega) | fail) only [r65_0, r65_1, r65_2, r65_3, r65_4, r65_5, r65_6, r65_7, r65_8, r65_10, r65_11, r65_12, r65_13, r65_14, r65_15, r65_17, c65, rs65, gc65, len157, go_sem, ↓reduceIte, Nat.reduceLT, Nat.reduceEqDiff, Nat.reduceAdd, Nat.reduceMul, Nat.reduceSub, Int.reduceAdd, Int.reduceSub, Nat.reduceLeDiff, Int.reduceLT, Int.reduceLE, Int.reduceEq, Int.reduceNeg, Int.reduceToNat, hy])
  refine Wp_loop (fun m T D H' => ∃ i : Nat, m = 2 - i ∧ i ≤ 2 ∧ D = [] ∧ H' = H ∧ get T 0 = .isl [slV b prE s, slV b' prE g] 2 1 ∧ get T 9 = .isl [slV b prE s, slV b' prE g] 2 1 ∧ get T 10 = .int .i64 2 ∧ get T 11 = .int .i64 i ∧ get T 3 = .int .i64 (two s g i)) ?_ 2 _ _ _ ?_
  case refine_2 => exact ⟨0, rfl, by omega, by simp (disch := first | rfl | omega | exact lt_new _ | assumption | decide | (simp [tk_here, tk_app, tk_0, tk_S, gr_here, gr_app, gr_0, gr_S] <;> omega) | fail) only [go_sem, ↓reduceIte, Nat.reduceLT, Nat.reduceEqDiff, Nat.reduceAdd, Nat.reduceMul, Nat.reduceSub, Int.reduceAdd, Int.reduceSub, Nat.reduceLeDiff, Int.reduceLT, Int.reduceLE, Int.reduceEq, Int.reduceNeg, Int.reduceToNat]; simp [two]⟩
  · rintro m T D H' ⟨i, rfl, hi, rfl, rfl, t0, t9, t10, t11, t3⟩
    obtain ⟨ld0, ld1⟩ := ld37 b b' s g H'
    have b0 : two s g 0 = 0 := rfl
    have b1 : two s g 1 = s.length := rfl
    have b2 : two s g 2 = s.length + g.length := rfl
    rcases (by omega : i = 0 ∨ i = 1 ∨ i = 2) with rfl | rfl | rfl
    · have hx := hix 0 (by omega)
      simp only [Int.natCast_zero] at hx t11
      have e : ((two s g 0 : Nat) : Int) + s.length = ((two s g 1 : Nat) : Int) := by omega
      have hn : ¬ ((two s g 1 : Nat) : Int) < 0 := by omega
      simp (disch := first | rfl | omega | exact lt_new _ | assumption | decide | (simp [tk_here, tk_app, tk_0, tk_S, gr_here, gr_app, gr_0, gr_S] <;> omega) | fail) only [r65_0, r65_1, r65_2, r65_3, r65_4, r65_5, r65_6, r65_7, r65_8, l65_9, r65_10, r65_11, r65_12, r65_13, r65_14, r65_15, l65_16, r65_17, c65, rs65, gc65, len157, hx, ld0, t0, t9, t10, t11, t3, e, hn, go_sem, ↓reduceIte, Nat.reduceLT, Nat.reduceEqDiff, Nat.reduceAdd, Nat.reduceMul, Nat.reduceSub, Int.reduceAdd, Int.reduceSub, Nat.reduceLeDiff, Int.reduceLT, Int.reduceLE, Int.reduceEq, Int.reduceNeg, Int.reduceToNat]
      repeat' ((first | refine guardB_dec (fun hy => ?_) (fun hy => ?_) | refine guardB_bool (fun hy => ?_) (fun hy => ?_) | refine guardQ_ite (fun hy => ?_) (fun hy => ?_) | refine brQ_dec (fun hy => ?_) (fun hy => ?_) | refine brQ_bool (fun hy => ?_) (fun hy => ?_)) <;> (try simp only [Bool.not_eq_true', Bool.not_eq_false', Bool.and_eq_true, Bool.or_eq_false_iff, decide_eq_true_eq, decide_eq_false_iff_not] at hy) <;> simp (disch := first | rfl | omega | exact lt_new _ | assumption | decide | (simp [tk_here, tk_app, tk_0, tk_S, gr_here, gr_app, gr_0, gr_S] <;> omega) | fail) only [r65_0, r65_1, r65_2, r65_3, r65_4, r65_5, r65_6, r65_7, r65_8, l65_9, r65_10, r65_11, r65_12, r65_13, r65_14, r65_15, l65_16, r65_17, c65, rs65, gc65, len157, hx, ld0, t0, t9, t10, t11, t3, e, hn, go_sem, ↓reduceIte, Nat.reduceLT, Nat.reduceEqDiff, Nat.reduceAdd, Nat.reduceMul, Nat.reduceSub, Int.reduceAdd, Int.reduceSub, Nat.reduceLeDiff, Int.reduceLT, Int.reduceLE, Int.reduceEq, Int.reduceNeg, Int.reduceToNat, hy])
      exact ⟨_, by omega, 1, rfl, by omega, rfl, rfl⟩
    · have hx := hix 1 (by omega)
      simp only [Int.natCast_one] at hx t11
      have e : ((two s g 1 : Nat) : Int) + g.length = ((two s g 2 : Nat) : Int) := by omega
      have hn : ¬ ((two s g 2 : Nat) : Int) < 0 := by omega
      simp (disch := first | rfl | omega | exact lt_new _ | assumption | decide | (simp [tk_here, tk_app, tk_0, tk_S, gr_here, gr_app, gr_0, gr_S] <;> omega) | fail) only [r65_0, r65_1, r65_2, r65_3, r65_4, r65_5, r65_6, r65_7, r65_8, l65_9, r65_10, r65_11, r65_12, r65_13, r65_14, r65_15, l65_16, r65_17, c65, rs65, gc65, len157, hx, ld1, t0, t9, t10, t11, t3, e, hn, go_sem, ↓reduceIte, Nat.reduceLT, Nat.reduceEqDiff, Nat.reduceAdd, Nat.reduceMul, Nat.reduceSub, Int.reduceAdd, Int.reduceSub, Nat.reduceLeDiff, Int.reduceLT, Int.reduceLE, Int.reduceEq, Int.reduceNeg, Int.reduceToNat]
      repeat' ((first | refine guardB_dec (fun hy => ?_) (fun hy => ?_) | refine guardB_bool (fun hy => ?_) (fun hy => ?_) | refine guardQ_ite (fun hy => ?_) (fun hy => ?_) | refine brQ_dec (fun hy => ?_) (fun hy => ?_) | refine brQ_bool (fun hy => ?_) (fun hy => ?_)) <;> (try simp only [Bool.not_eq_true', Bool.not_eq_false', Bool.and_eq_true, Bool.or_eq_false_iff, decide_eq_true_eq, decide_eq_false_iff_not] at hy) <;> simp (disch := first | rfl | omega | exact lt_new _ | assumption | decide | (simp [tk_here, tk_app, tk_0, tk_S, gr_here, gr_app, gr_0, gr_S] <;> omega) | fail) only [r65_0, r65_1, r65_2, r65_3, r65_4, r65_5, r65_6, r65_7, r65_8, l65_9, r65_10, r65_11, r65_12, r65_13, r65_14, r65_15, l65_16, r65_17, c65, rs65, gc65, len157, hx, ld1, t0, t9, t10, t11, t3, e, hn, go_sem, ↓reduceIte, Nat.reduceLT, Nat.reduceEqDiff, Nat.reduceAdd, Nat.reduceMul, Nat.reduceSub, Int.reduceAdd, Int.reduceSub, Nat.reduceLeDiff, Int.reduceLT, Int.reduceLE, Int.reduceEq, Int.reduceNeg, Int.reduceToNat, hy])
      exact ⟨_, by omega, 2, rfl, by omega, rfl, rfl⟩
    · have t3' := t3
      rw [b2] at t3'
      have h115 := fun H => fn115 (s.length + g.length) H (by omega)
      by_cases hz : s.length + g.length = 0
      · obtain rfl : s = [] := List.eq_nil_of_length_eq_zero (by omega)
        obtain rfl : g = [] := List.eq_nil_of_length_eq_zero (by omega)
        have h115' : ∀ H, callL Tryz.prog pr 115 [.nilslice, .int .i64 0] H = some (.nilslice, H) := fun H => by
          have := h115 H
          rw [if_pos hz] at this
          exact this
        have t3' : get T 3 = .int .i64 0 := t3'
        have hap : ∀ b H, appOf 2 16 H .nilslice (slV b prE []) = some (.nilslice, H) := by
          intro b H
          unfold appOf
          rw [src_slV]
          rfl
        have hln : ∀ b H, lenV Tryz.prog 37 H (slV b prE []) = some (.int .i64 0) := fun b H => ns37 b prE []
        simp (disch := first | rfl | omega | exact lt_new _ | assumption | decide | (simp [tk_here, tk_app, tk_0, tk_S, gr_here, gr_app, gr_0, gr_S] <;> omega) | fail) only [l65_9, r65_3, r65_10, r65_11, len157, t0, t9, t10, t11, t3', h115', go_sem, ↓reduceIte, Nat.reduceLT, Nat.reduceEqDiff, Nat.reduceAdd, Nat.reduceMul, Nat.reduceSub, Int.reduceAdd, Int.reduceSub, Nat.reduceLeDiff, Int.reduceLT, Int.reduceLE, Int.reduceEq, Int.reduceNeg, Int.reduceToNat]
        repeat' ((first | refine guardB_dec (fun hy => ?_) (fun hy => ?_) | refine guardB_bool (fun hy => ?_) (fun hy => ?_) | refine guardQ_ite (fun hy => ?_) (fun hy => ?_) | refine brQ_dec (fun hy => ?_) (fun hy => ?_) | refine brQ_bool (fun hy => ?_) (fun hy => ?_)) <;> (try simp only [Bool.not_eq_true', Bool.not_eq_false', Bool.and_eq_true, Bool.or_eq_false_iff, decide_eq_true_eq, decide_eq_false_iff_not] at hy) <;> simp (disch := first | rfl | omega | exact lt_new _ | assumption | decide | (simp [tk_here, tk_app, tk_0, tk_S, gr_here, gr_app, gr_0, gr_S] <;> omega) | fail) only [l65_9, r65_3, r65_10, r65_11, len157, t0, t9, t10, t11, t3', h115', go_sem, ↓reduceIte, Nat.reduceLT, Nat.reduceEqDiff, Nat.reduceAdd, Nat.reduceMul, Nat.reduceSub, Int.reduceAdd, Int.reduceSub, Nat.reduceLeDiff, Int.reduceLT, Int.reduceLE, Int.reduceEq, Int.reduceNeg, Int.reduceToNat, hy])
        refine Wp_loop (fun m T D H1 => ∃ i : Nat, m = 2 - i ∧ i ≤ 2 ∧ D = [] ∧ H1 = H' ∧ get T 25 = .isl [slV b prE [], slV b' prE []] 2 1 ∧ get T 26 = .int .i64 2 ∧ get T 27 = .int .i64 i ∧ get T 6 = .nilslice) ?_ 2 _ _ _ ?_
        case refine_2 => exact ⟨0, rfl, by omega, by simp (disch := first | rfl | omega | exact lt_new _ | assumption | decide | (simp [tk_here, tk_app, tk_0, tk_S, gr_here, gr_app, gr_0, gr_S] <;> omega) | fail) only [go_sem, ↓reduceIte, Nat.reduceLT, Nat.reduceEqDiff, Nat.reduceAdd, Nat.reduceMul, Nat.reduceSub, Int.reduceAdd, Int.reduceSub, Nat.reduceLeDiff, Int.reduceLT, Int.reduceLE, Int.reduceEq, Int.reduceNeg, Int.reduceToNat]⟩
        clear t0 t9 t10 t11 t3 t3'
        rintro m T D _ ⟨i, rfl, hi, rfl, rfl, t25, t26, t27, t6⟩
        rcases (by omega : i = 0 ∨ i = 1 ∨ i = 2) with rfl | rfl | rfl
        · have hx := hix 0 (by omega)
          simp only [Int.natCast_zero] at hx t27
          simp (disch := first | rfl | omega | exact lt_new _ | assumption | decide | (simp [tk_here, tk_app, tk_0, tk_S, gr_here, gr_app, gr_0, gr_S] <;> omega) | fail) only [l65_16, r65_12, r65_13, r65_14, r65_15, hx, ld0, t25, t26, t27, t6, hap, go_sem, ↓reduceIte, Nat.reduceLT, Nat.reduceEqDiff, Nat.reduceAdd, Nat.reduceMul, Nat.reduceSub, Int.reduceAdd, Int.reduceSub, Nat.reduceLeDiff, Int.reduceLT, Int.reduceLE, Int.reduceEq, Int.reduceNeg, Int.reduceToNat]
          repeat' ((first | refine guardB_dec (fun hy => ?_) (fun hy => ?_) | refine guardB_bool (fun hy => ?_) (fun hy => ?_) | refine guardQ_ite (fun hy => ?_) (fun hy => ?_) | refine brQ_dec (fun hy => ?_) (fun hy => ?_) | refine brQ_bool (fun hy => ?_) (fun hy => ?_)) <;> (try simp only [Bool.not_eq_true', Bool.not_eq_false', Bool.and_eq_true, Bool.or_eq_false_iff, decide_eq_true_eq, decide_eq_false_iff_not] at hy) <;> simp (disch := first | rfl | omega | exact lt_new _ | assumption | decide | (simp [tk_here, tk_app, tk_0, tk_S, gr_here, gr_app, gr_0, gr_S] <;> omega) | fail) only [l65_16, r65_12, r65_13, r65_14, r65_15, hx, ld0, t25, t26, t27, t6, hap, go_sem, ↓reduceIte, Nat.reduceLT, Nat.reduceEqDiff, Nat.reduceAdd, Nat.reduceMul, Nat.reduceSub, Int.reduceAdd, Int.reduceSub, Nat.reduceLeDiff, Int.reduceLT, Int.reduceLE, Int.reduceEq, Int.reduceNeg, Int.reduceToNat, hy])
          exact ⟨_, by omega, 1, rfl, by omega, rfl⟩
        · have hx := hix 1 (by omega)
          simp only [Int.natCast_one] at hx t27
          simp (disch := first | rfl | omega | exact lt_new _ | assumption | decide | (simp [tk_here, tk_app, tk_0, tk_S, gr_here, gr_app, gr_0, gr_S] <;> omega) | fail) only [l65_16, r65_12, r65_13, r65_14, r65_15, hx, ld1, t25, t26, t27, t6, hap, go_sem, ↓reduceIte, Nat.reduceLT, Nat.reduceEqDiff, Nat.reduceAdd, Nat.reduceMul, Nat.reduceSub, Int.reduceAdd, Int.reduceSub, Nat.reduceLeDiff, Int.reduceLT, Int.reduceLE, Int.reduceEq, Int.reduceNeg, Int.reduceToNat]
          repeat' ((first | refine guardB_dec (fun hy => ?_) (fun hy => ?_) | refine guardB_bool (fun hy => ?_) (fun hy => ?_) | refine guardQ_ite (fun hy => ?_) (fun hy => ?_) | refine brQ_dec (fun hy => ?_) (fun hy => ?_) | refine brQ_bool (fun hy => ?_) (fun hy => ?_)) <;> (try simp only [Bool.not_eq_true', Bool.not_eq_false', Bool.and_eq_true, Bool.or_eq_false_iff, decide_eq_true_eq, decide_eq_false_iff_not] at hy) <;> simp (disch := first | rfl | omega | exact lt_new _ | assumption | decide | (simp [tk_here, tk_app, tk_0, tk_S, gr_here, gr_app, gr_0, gr_S] <;> omega) | fail) only [l65_16, r65_12, r65_13, r65_14, r65_15, hx, ld1, t25, t26, t27, t6, hap, go_sem, ↓reduceIte, Nat.reduceLT, Nat.reduceEqDiff, Nat.reduceAdd, Nat.reduceMul, Nat.reduceSub, Int.reduceAdd, Int.reduceSub, Nat.reduceLeDiff, Int.reduceLT, Int.reduceLE, Int.reduceEq, Int.reduceNeg, Int.reduceToNat, hy])
          exact ⟨_, by omega, 2, rfl, by omega, rfl⟩
        · skip
          simp (disch := first | rfl | omega | exact lt_new _ | assumption | decide | (simp [tk_here, tk_app, tk_0, tk_S, gr_here, gr_app, gr_0, gr_S] <;> omega) | fail) only [l65_16, r65_12, r65_17, rs65, gc65, t25, t26, t27, t6, go_sem, ↓reduceIte, Nat.reduceLT, Nat.reduceEqDiff, Nat.reduceAdd, Nat.reduceMul, Nat.reduceSub, Int.reduceAdd, Int.reduceSub, Nat.reduceLeDiff, Int.reduceLT, Int.reduceLE, Int.reduceEq, Int.reduceNeg, Int.reduceToNat]
          repeat' ((first | refine guardB_dec (fun hy => ?_) (fun hy => ?_) | refine guardB_bool (fun hy => ?_) (fun hy => ?_) | refine guardQ_ite (fun hy => ?_) (fun hy => ?_) | refine brQ_dec (fun hy => ?_) (fun hy => ?_) | refine brQ_bool (fun hy => ?_) (fun hy => ?_)) <;> (try simp only [Bool.not_eq_true', Bool.not_eq_false', Bool.and_eq_true, Bool.or_eq_false_iff, decide_eq_true_eq, decide_eq_false_iff_not] at hy) <;> simp (disch := first | rfl | omega | exact lt_new _ | assumption | decide | (simp [tk_here, tk_app, tk_0, tk_S, gr_here, gr_app, gr_0, gr_S] <;> omega) | fail) only [l65_16, r65_12, r65_17, rs65, gc65, t25, t26, t27, t6, go_sem, ↓reduceIte, Nat.reduceLT, Nat.reduceEqDiff, Nat.reduceAdd, Nat.reduceMul, Nat.reduceSub, Int.reduceAdd, Int.reduceSub, Nat.reduceLeDiff, Int.reduceLT, Int.reduceLE, Int.reduceEq, Int.reduceNeg, Int.reduceToNat, hy])
          refine ⟨true, ?_⟩
          refine finQ_same ?_
          simp (disch := first | rfl | omega | exact lt_new _ | assumption | decide | (simp [tk_here, tk_app, tk_0, tk_S, gr_here, gr_app, gr_0, gr_S] <;> omega) | fail) only [go_sem, ↓reduceIte, Nat.reduceLT, Nat.reduceEqDiff, Nat.reduceAdd, Nat.reduceMul, Nat.reduceSub, Int.reduceAdd, Int.reduceSub, Nat.reduceLeDiff, Int.reduceLT, Int.reduceLE, Int.reduceEq, Int.reduceNeg, Int.reduceToNat, slV_nil, List.append_nil]
          done
      · have h115' : ∀ H, callL Tryz.prog pr 115 [.nilslice, .int .i64 ((s.length + g.length : Nat) : Int)] H = some (.slice H.length 0 0 0 2 .full, H ++ [.row 0 (repeatV [.int .i64 0, .int .i64 0] (s.length + g.length)) true]) := fun H => by rw [h115, if_neg hz]
        have hr := rep2_len (s.length + g.length)
        simp (disch := first | rfl | omega | exact lt_new _ | assumption | decide | (simp [tk_here, tk_app, tk_0, tk_S, gr_here, gr_app, gr_0, gr_S] <;> omega) | fail) only [l65_9, r65_3, r65_10, r65_11, len157, t0, t9, t10, t11, t3', h115', go_sem, ↓reduceIte, Nat.reduceLT, Nat.reduceEqDiff, Nat.reduceAdd, Nat.reduceMul, Nat.reduceSub, Int.reduceAdd, Int.reduceSub, Nat.reduceLeDiff, Int.reduceLT, Int.reduceLE, Int.reduceEq, Int.reduceNeg, Int.reduceToNat]
        repeat' ((first | refine guardB_dec (fun hy => ?_) (fun hy => ?_) | refine guardB_bool (fun hy => ?_) (fun hy => ?_) | refine guardQ_ite (fun hy => ?_) (fun hy => ?_) | refine brQ_dec (fun hy => ?_) (fun hy => ?_) | refine brQ_bool (fun hy => ?_) (fun hy => ?_)) <;> (try simp only [Bool.not_eq_true', Bool.not_eq_false', Bool.and_eq_true, Bool.or_eq_false_iff, decide_eq_true_eq, decide_eq_false_iff_not] at hy) <;> simp (disch := first | rfl | omega | exact lt_new _ | assumption | decide | (simp [tk_here, tk_app, tk_0, tk_S, gr_here, gr_app, gr_0, gr_S] <;> omega) | fail) only [l65_9, r65_3, r65_10, r65_11, len157, t0, t9, t10, t11, t3', h115', go_sem, ↓reduceIte, Nat.reduceLT, Nat.reduceEqDiff, Nat.reduceAdd, Nat.reduceMul, Nat.reduceSub, Int.reduceAdd, Int.reduceSub, Nat.reduceLeDiff, Int.reduceLT, Int.reduceLE, Int.reduceEq, Int.reduceNeg, Int.reduceToNat, hy])
        have ap1 : appOf 2 16 (H' ++ [.row 0 (room s g 0) true]) (.slice H'.length 0 0 (two s g 0) 2 .full) (slV b prE s) = some (.slice H'.length 0 0 (two s g 1) 2 .full, H' ++ [.row 0 (room s g 1) true]) := by
          have := ap_room (H := H') (cs := room s g 0) (n := 0) (b := b) (l := s) (by simp only [room]; omega) (by omega)
          rwa [Nat.zero_add] at this
        have ap2 : appOf 2 16 (H' ++ [.row 0 (room s g 1) true]) (.slice H'.length 0 0 (two s g 1) 2 .full) (slV b' prE g) = some (.slice H'.length 0 0 (two s g 2) 2 .full, H' ++ [.row 0 (room s g 2) true]) := by
          have := ap_room (H := H') (cs := room s g 1) (n := s.length) (b := b') (l := g) (by simp only [room]; rw [setAt_length _ _ _ (by rw [flatE_len, show prE.w = 2 from rfl]; omega)]; omega) (by omega)
          refine this.trans ?_
          simp only [room, two, two_room]
        refine Wp_loop (fun m T D H1 => ∃ i : Nat, m = 2 - i ∧ i ≤ 2 ∧ D = [] ∧ H1 = H' ++ [.row 0 (room s g i) true] ∧ get T 25 = .isl [slV b prE s, slV b' prE g] 2 1 ∧ get T 26 = .int .i64 2 ∧ get T 27 = .int .i64 i ∧ get T 6 = .slice H'.length 0 0 (two s g i) 2 .full) ?_ 2 _ _ _ ?_
        case refine_2 => exact ⟨0, rfl, by omega, by simp (disch := first | rfl | omega | exact lt_new _ | assumption | decide | (simp [tk_here, tk_app, tk_0, tk_S, gr_here, gr_app, gr_0, gr_S] <;> omega) | fail) only [go_sem, ↓reduceIte, Nat.reduceLT, Nat.reduceEqDiff, Nat.reduceAdd, Nat.reduceMul, Nat.reduceSub, Int.reduceAdd, Int.reduceSub, Nat.reduceLeDiff, Int.reduceLT, Int.reduceLE, Int.reduceEq, Int.reduceNeg, Int.reduceToNat, room, two]⟩
        clear t0 t9 t10 t11 t3 t3'
        rintro m T D _ ⟨i, rfl, hi, rfl, rfl, t25, t26, t27, t6⟩
        rcases (by omega : i = 0 ∨ i = 1 ∨ i = 2) with rfl | rfl | rfl
        · have hx := hix 0 (by omega)
          have ld0 := fun H => (ld37 b b' s g H).1
          simp only [Int.natCast_zero] at hx t27
          simp (disch := first | rfl | omega | exact lt_new _ | assumption | decide | (simp [tk_here, tk_app, tk_0, tk_S, gr_here, gr_app, gr_0, gr_S] <;> omega) | fail) only [l65_16, r65_12, r65_13, r65_14, r65_15, hx, ld0, t25, t26, t27, t6, ap1, go_sem, ↓reduceIte, Nat.reduceLT, Nat.reduceEqDiff, Nat.reduceAdd, Nat.reduceMul, Nat.reduceSub, Int.reduceAdd, Int.reduceSub, Nat.reduceLeDiff, Int.reduceLT, Int.reduceLE, Int.reduceEq, Int.reduceNeg, Int.reduceToNat]
          repeat' ((first | refine guardB_dec (fun hy => ?_) (fun hy => ?_) | refine guardB_bool (fun hy => ?_) (fun hy => ?_) | refine guardQ_ite (fun hy => ?_) (fun hy => ?_) | refine brQ_dec (fun hy => ?_) (fun hy => ?_) | refine brQ_bool (fun hy => ?_) (fun hy => ?_)) <;> (try simp only [Bool.not_eq_true', Bool.not_eq_false', Bool.and_eq_true, Bool.or_eq_false_iff, decide_eq_true_eq, decide_eq_false_iff_not] at hy) <;> simp (disch := first | rfl | omega | exact lt_new _ | assumption | decide | (simp [tk_here, tk_app, tk_0, tk_S, gr_here, gr_app, gr_0, gr_S] <;> omega) | fail) only [l65_16, r65_12, r65_13, r65_14, r65_15, hx, ld0, t25, t26, t27, t6, ap1, go_sem, ↓reduceIte, Nat.reduceLT, Nat.reduceEqDiff, Nat.reduceAdd, Nat.reduceMul, Nat.reduceSub, Int.reduceAdd, Int.reduceSub, Nat.reduceLeDiff, Int.reduceLT, Int.reduceLE, Int.reduceEq, Int.reduceNeg, Int.reduceToNat, hy])
          exact ⟨_, by omega, 1, rfl, by omega, rfl, rfl, rfl⟩
        · have hx := hix 1 (by omega)
          have ld1 := fun H => (ld37 b b' s g H).2
          simp only [Int.natCast_one] at hx t27
          simp (disch := first | rfl | omega | exact lt_new _ | assumption | decide | (simp [tk_here, tk_app, tk_0, tk_S, gr_here, gr_app, gr_0, gr_S] <;> omega) | fail) only [l65_16, r65_12, r65_13, r65_14, r65_15, hx, ld1, t25, t26, t27, t6, ap2, go_sem, ↓reduceIte, Nat.reduceLT, Nat.reduceEqDiff, Nat.reduceAdd, Nat.reduceMul, Nat.reduceSub, Int.reduceAdd, Int.reduceSub, Nat.reduceLeDiff, Int.reduceLT, Int.reduceLE, Int.reduceEq, Int.reduceNeg, Int.reduceToNat]
          repeat' ((first | refine guardB_dec (fun hy => ?_) (fun hy => ?_) | refine guardB_bool (fun hy => ?_) (fun hy => ?_) | refine guardQ_ite (fun hy => ?_) (fun hy => ?_) | refine brQ_dec (fun hy => ?_) (fun hy => ?_) | refine brQ_bool (fun hy => ?_) (fun hy => ?_)) <;> (try simp only [Bool.not_eq_true', Bool.not_eq_false', Bool.and_eq_true, Bool.or_eq_false_iff, decide_eq_true_eq, decide_eq_false_iff_not] at hy) <;> simp (disch := first | rfl | omega | exact lt_new _ | assumption | decide | (simp [tk_here, tk_app, tk_0, tk_S, gr_here, gr_app, gr_0, gr_S] <;> omega) | fail) only [l65_16, r65_12, r65_13, r65_14, r65_15, hx, ld1, t25, t26, t27, t6, ap2, go_sem, ↓reduceIte, Nat.reduceLT, Nat.reduceEqDiff, Nat.reduceAdd, Nat.reduceMul, Nat.reduceSub, Int.reduceAdd, Int.reduceSub, Nat.reduceLeDiff, Int.reduceLT, Int.reduceLE, Int.reduceEq, Int.reduceNeg, Int.reduceToNat, hy])
          exact ⟨_, by omega, 2, rfl, by omega, rfl, rfl, rfl⟩
        · skip
          simp (disch := first | rfl | omega | exact lt_new _ | assumption | decide | (simp [tk_here, tk_app, tk_0, tk_S, gr_here, gr_app, gr_0, gr_S] <;> omega) | fail) only [l65_16, r65_12, r65_17, rs65, gc65, t25, t26, t27, t6, go_sem, ↓reduceIte, Nat.reduceLT, Nat.reduceEqDiff, Nat.reduceAdd, Nat.reduceMul, Nat.reduceSub, Int.reduceAdd, Int.reduceSub, Nat.reduceLeDiff, Int.reduceLT, Int.reduceLE, Int.reduceEq, Int.reduceNeg, Int.reduceToNat]
          repeat' ((first | refine guardB_dec (fun hy => ?_) (fun hy => ?_) | refine guardB_bool (fun hy => ?_) (fun hy => ?_) | refine guardQ_ite (fun hy => ?_) (fun hy => ?_) | refine brQ_dec (fun hy => ?_) (fun hy => ?_) | refine brQ_bool (fun hy => ?_) (fun hy => ?_)) <;> (try simp only [Bool.not_eq_true', Bool.not_eq_false', Bool.and_eq_true, Bool.or_eq_false_iff, decide_eq_true_eq, decide_eq_false_iff_not] at hy) <;> simp (disch := first | rfl | omega | exact lt_new _ | assumption | decide | (simp [tk_here, tk_app, tk_0, tk_S, gr_here, gr_app, gr_0, gr_S] <;> omega) | fail) only [l65_16, r65_12, r65_17, rs65, gc65, t25, t26, t27, t6, go_sem, ↓reduceIte, Nat.reduceLT, Nat.reduceEqDiff, Nat.reduceAdd, Nat.reduceMul, Nat.reduceSub, Int.reduceAdd, Int.reduceSub, Nat.reduceLeDiff, Int.reduceLT, Int.reduceLE, Int.reduceEq, Int.reduceNeg, Int.reduceToNat, hy])
          refine ⟨false, ?_⟩
          refine finQ_app ?_
          have hl : (flatE prE (s ++ g)).length = (s.length + g.length) * 2 := by rw [flatE_len, List.length_append]; rfl
          have hi : inlB H'.length (H' ++ [.row 0 (room s g 2) true]) 8 (.slice H'.length 0 0 (two s g 2) 2 .full) = some (.isl (flatE prE (s ++ g)) (two s g 2) 2) := inlB_row (f := 6) (Nat.le_refl _) (by simp [room]) hl flatE_imm
          have hs : V.isl (flatE prE (s ++ g)) (two s g 2) 2 = slV false prE (s ++ g) := by
            simp only [slV, Bool.false_eq_true, false_and, if_false, two, List.length_append]
            rfl
          exact ⟨_, hi, by rw [hs]⟩
end Go.Proofs.YteeofpgnjekeaaaGreatDoor
/-
  The library's way backward through a list: each place is handed to what is done there; walked. No statement of the seat stands here.
-/
namespace Go.Proofs.YteeofpgnjekeaaaGreatDoor
open Go Go.An
set_option maxRecDepth 4000
set_option linter.unusedSimpArgs false
set_option linter.unusedVariables false

theorem ld37_1 (b : Bool) (s : List Pr) (H : Hp) : loadV Tryz.prog 37 H (.ipt [slV b prE s] 0) = some (slV b prE s) := by
  have hg : aggT Tryz.prog 37 = some false := by kernel_rfl
  rw [loadV_ipt]; unfold partV; rw [hg]; rfl
theorem fn116 {id : Nat} {b : Bool} {s : List Pr} {H : Hp} (hl : s.length ≤ 2 ^ 48) (J : Nat → Hp → Prop) (E : Hp → Prop) (h0 : J s.length H)
    (hs : ∀ j < s.length, ∀ H, J (j + 1) H → ∃ c H', callL Tryz.prog pr Y0 [.yld id, .int .i64 j, .agg (prE.f (prE.at s j))] H = some (.bool c, H') ∧ (c = true → J j H') ∧ (c = false → E H')) :
    ∃ H', callL Tryz.prog pr 116 [.yld id, .ipt [slV b prE s] 0] H = some (.tup [], H') ∧ (J 0 H' ∨ E H') := by
  suffices h : ∃ r, callL Tryz.prog pr 116 [.yld id, .ipt [slV b prE s] 0] H = some r ∧ ∃ H', r = (.tup [], H') ∧ (J 0 H' ∨ E H') by
    obtain ⟨_, e, H', rfl, h⟩ := h
    exact ⟨H', e, h⟩
  have hld := ld37_1 b s
  refine ex116 (Nat.le_of_ble_eq_true rfl) ?_
  simp (disch := first | rfl | omega | exact lt_new _ | assumption | decide | (simp [tk_here, tk_app, tk_0, tk_S, gr_here, gr_app, gr_0, gr_S] <;> omega) | fail) only [r116_0, r116_1, r116_2, r116_3, c116, rs116, gc116, hld, go_sem, ↓reduceIte, Nat.reduceLT, Nat.reduceEqDiff, Nat.reduceAdd, Nat.reduceMul, Nat.reduceSub, Int.reduceAdd, Int.reduceSub, Nat.reduceLeDiff, Int.reduceLT, Int.reduceLE, Int.reduceEq, Int.reduceNeg, Int.reduceToNat]
  repeat' ((first | refine guardB_dec (fun hy => ?_) (fun hy => ?_) | refine guardB_bool (fun hy => ?_) (fun hy => ?_) | refine guardQ_ite (fun hy => ?_) (fun hy => ?_) | refine brQ_dec (fun hy => ?_) (fun hy => ?_) | refine brQ_bool (fun hy => ?_) (fun hy => ?_)) <;> (try simp only [Bool.not_eq_true', Bool.not_eq_false', Bool.and_eq_true, Bool.or_eq_false_iff, decide_eq_true_eq, decide_eq_false_iff_not] at hy) <;> simp (disch := first | rfl | omega | exact lt_new _ | assumption | decide | (simp [tk_here, tk_app, tk_0, tk_S, gr_here, gr_app, gr_0, gr_S] <;> omega) | fail) only [r116_0, r116_1, r116_2, r116_3, c116, rs116, gc116, hld, go_sem, ↓reduceIte, Nat.reduceLT, Nat.reduceEqDiff, Nat.reduceAdd, Nat.reduceMul, Nat.reduceSub, Int.reduceAdd, Int.reduceSub, Nat.reduceLeDiff, Int.reduceLT, Int.reduceLE, Int.reduceEq, Int.reduceNeg, Int.reduceToNat, hy])
  refine Wp_loop (fun m T D H1 => ∃ j, m = j ∧ j ≤ s.length ∧ D = [] ∧ J j H1 ∧ get T 0 = .yld id ∧ get T 1 = .ipt [slV b prE s] 0 ∧ get T 3 = .int .i64 ((j : Int) - 1)) ?_ s.length _ _ _ ?_
  case refine_2 => exact ⟨s.length, rfl, Nat.le_refl _, by simp (disch := first | rfl | omega | exact lt_new _ | assumption | decide | (simp [tk_here, tk_app, tk_0, tk_S, gr_here, gr_app, gr_0, gr_S] <;> omega) | fail) only [go_sem, ↓reduceIte, Nat.reduceLT, Nat.reduceEqDiff, Nat.reduceAdd, Nat.reduceMul, Nat.reduceSub, Int.reduceAdd, Int.reduceSub, Nat.reduceLeDiff, Int.reduceLT, Int.reduceLE, Int.reduceEq, Int.reduceNeg, Int.reduceToNat, h0]⟩
  rintro j T D H1 ⟨_, rfl, hj, rfl, hJ, t0, t1, t3⟩
  cases j with
  | zero =>
    rw [show (((0 : Nat) : Int) - 1) = -1 from rfl] at t3
    simp (disch := first | rfl | omega | exact lt_new _ | assumption | decide | (simp [tk_here, tk_app, tk_0, tk_S, gr_here, gr_app, gr_0, gr_S] <;> omega) | fail) only [r116_0, r116_1, r116_2, r116_3, l116_4, c116, rs116, gc116, hld, t0, t1, t3, go_sem, ↓reduceIte, Nat.reduceLT, Nat.reduceEqDiff, Nat.reduceAdd, Nat.reduceMul, Nat.reduceSub, Int.reduceAdd, Int.reduceSub, Nat.reduceLeDiff, Int.reduceLT, Int.reduceLE, Int.reduceEq, Int.reduceNeg, Int.reduceToNat]
    repeat' ((first | refine guardB_dec (fun hy => ?_) (fun hy => ?_) | refine guardB_bool (fun hy => ?_) (fun hy => ?_) | refine guardQ_ite (fun hy => ?_) (fun hy => ?_) | refine brQ_dec (fun hy => ?_) (fun hy => ?_) | refine brQ_bool (fun hy => ?_) (fun hy => ?_)) <;> (try simp only [Bool.not_eq_true', Bool.not_eq_false', Bool.and_eq_true, Bool.or_eq_false_iff, decide_eq_true_eq, decide_eq_false_iff_not] at hy) <;> simp (disch := first | rfl | omega | exact lt_new _ | assumption | decide | (simp [tk_here, tk_app, tk_0, tk_S, gr_here, gr_app, gr_0, gr_S] <;> omega) | fail) only [r116_0, r116_1, r116_2, r116_3, l116_4, c116, rs116, gc116, hld, t0, t1, t3, go_sem, ↓reduceIte, Nat.reduceLT, Nat.reduceEqDiff, Nat.reduceAdd, Nat.reduceMul, Nat.reduceSub, Int.reduceAdd, Int.reduceSub, Nat.reduceLeDiff, Int.reduceLT, Int.reduceLE, Int.reduceEq, Int.reduceNeg, Int.reduceToNat, hy])
    exact ⟨_, rfl, .inl hJ⟩
  | succ j =>
    have hj0 : (0 : Int) ≤ j := by omega
    have hjs : j < s.length := by omega
    have hjs' : (j : Int) < s.length := by omega
    rw [show (((j + 1 : Nat) : Int) - 1) = j by omega] at t3
    obtain ⟨c, H2, hc, hc1, hc2⟩ := hs j hjs H1 hJ
    cases c with
    | true =>
      simp (disch := first | rfl | omega | exact lt_new _ | assumption | decide | (simp [tk_here, tk_app, tk_0, tk_S, gr_here, gr_app, gr_0, gr_S] <;> omega) | fail) only [r116_0, r116_1, r116_2, r116_3, l116_4, c116, rs116, gc116, hld, t0, t1, t3, hj0, hjs', hc, go_sem, ↓reduceIte, Nat.reduceLT, Nat.reduceEqDiff, Nat.reduceAdd, Nat.reduceMul, Nat.reduceSub, Int.reduceAdd, Int.reduceSub, Nat.reduceLeDiff, Int.reduceLT, Int.reduceLE, Int.reduceEq, Int.reduceNeg, Int.reduceToNat]
      repeat' ((first | refine guardB_dec (fun hy => ?_) (fun hy => ?_) | refine guardB_bool (fun hy => ?_) (fun hy => ?_) | refine guardQ_ite (fun hy => ?_) (fun hy => ?_) | refine brQ_dec (fun hy => ?_) (fun hy => ?_) | refine brQ_bool (fun hy => ?_) (fun hy => ?_)) <;> (try simp only [Bool.not_eq_true', Bool.not_eq_false', Bool.and_eq_true, Bool.or_eq_false_iff, decide_eq_true_eq, decide_eq_false_iff_not] at hy) <;> simp (disch := first | rfl | omega | exact lt_new _ | assumption | decide | (simp [tk_here, tk_app, tk_0, tk_S, gr_here, gr_app, gr_0, gr_S] <;> omega) | fail) only [r116_0, r116_1, r116_2, r116_3, l116_4, c116, rs116, gc116, hld, t0, t1, t3, hj0, hjs', hc, go_sem, ↓reduceIte, Nat.reduceLT, Nat.reduceEqDiff, Nat.reduceAdd, Nat.reduceMul, Nat.reduceSub, Int.reduceAdd, Int.reduceSub, Nat.reduceLeDiff, Int.reduceLT, Int.reduceLE, Int.reduceEq, Int.reduceNeg, Int.reduceToNat, hy])
      exact ⟨_, by omega, j, rfl, by omega, hc1 rfl, rfl⟩
    | false =>
      simp (disch := first | rfl | omega | exact lt_new _ | assumption | decide | (simp [tk_here, tk_app, tk_0, tk_S, gr_here, gr_app, gr_0, gr_S] <;> omega) | fail) only [r116_0, r116_1, r116_2, r116_3, l116_4, c116, rs116, gc116, hld, t0, t1, t3, hj0, hjs', hc, go_sem, ↓reduceIte, Nat.reduceLT, Nat.reduceEqDiff, Nat.reduceAdd, Nat.reduceMul, Nat.reduceSub, Int.reduceAdd, Int.reduceSub, Nat.reduceLeDiff, Int.reduceLT, Int.reduceLE, Int.reduceEq, Int.reduceNeg, Int.reduceToNat]
      repeat' ((first | refine guardB_dec (fun hy => ?_) (fun hy => ?_) | refine guardB_bool (fun hy => ?_) (fun hy => ?_) | refine guardQ_ite (fun hy => ?_) (fun hy => ?_) | refine brQ_dec (fun hy => ?_) (fun hy => ?_) | refine brQ_bool (fun hy => ?_) (fun hy => ?_)) <;> (try simp only [Bool.not_eq_true', Bool.not_eq_false', Bool.and_eq_true, Bool.or_eq_false_iff, decide_eq_true_eq, decide_eq_false_iff_not] at hy) <;> simp (disch := first | rfl | omega | exact lt_new _ | assumption | decide | (simp [tk_here, tk_app, tk_0, tk_S, gr_here, gr_app, gr_0, gr_S] <;> omega) | fail) only [r116_0, r116_1, r116_2, r116_3, l116_4, c116, rs116, gc116, hld, t0, t1, t3, hj0, hjs', hc, go_sem, ↓reduceIte, Nat.reduceLT, Nat.reduceEqDiff, Nat.reduceAdd, Nat.reduceMul, Nat.reduceSub, Int.reduceAdd, Int.reduceSub, Nat.reduceLeDiff, Int.reduceLT, Int.reduceLE, Int.reduceEq, Int.reduceNeg, Int.reduceToNat, hy])
      exact ⟨_, rfl, .inr (hc2 rfl)⟩
end Go.Proofs.YteeofpgnjekeaaaGreatDoor
/-
  How long answers took, as the program has it; walked. No statement of the seat stands here.
-/
namespace Go.Proofs.YteeofpgnjekeaaaGreatDoor
open Go Go.An
set_option maxRecDepth 4000
set_option linter.unusedSimpArgs false
set_option linter.unusedVariables false

/-- Memory in the middle of the program's Trips: what was there, the box of what comes out, the marks of the ranges. -/
structure Mid (H0 H : Hp) (v : V) (out : List Pr) (ds : List Nat) : Prop where
  old : ∀ i, i < H0.length → H[i]? = H0[i]?
  box : H[H0.length]? = some (.row 0 [v] true)
  own : OwnE prE H v out
  at_ : ∀ id, At v id → H0.length < id
  dfr : ∀ i ∈ ds, H0.length < i ∧ H[i]? = some (.dfr true)
  nd : ds.Nodup
variable {H0 H H' : Hp} {v : V} {out : List Pr} {ds : List Nat}
theorem Mid.lt (h : Mid H0 H v out ds) : H0.length < H.length := (List.getElem?_eq_some_iff.1 h.box).1
theorem At.row {l : List Pr} (h : OwnE prE H v l) {id : Nat} (ha : At v id) : ∃ g cs, H[id]? = some (.row g cs true) := by
  obtain ⟨g, o, n, z, cp, e⟩ := ha
  rcases h with ⟨rfl, _⟩ | ⟨id', g', rfl, _, h2⟩
  · cases e
  · injection e with e1; subst e1; exact ⟨_, _, h2⟩
/-- A block that is no row and no mark changes, and others come. -/
theorem Mid.loop (h : Mid H0 H v out ds) {id : Nat} {L : LoopA} (hid : H[id]? = some (.loop L)) (hlt : H0.length < id) (hf : ∀ i, i < H.length → i ≠ id → H'[i]? = H[i]?) : Mid H0 H' v out ds := by
  have hb := h.lt
  refine ⟨fun i hi => (hf i (by omega) (by omega)).trans (h.old i hi), (hf _ hb (by omega)).trans h.box, h.own.frame fun i hi => hf i (h.own.lt hi) ?_, h.at_, fun i hi => ⟨(h.dfr i hi).1, (hf i ?_ ?_).trans (h.dfr i hi).2⟩, h.nd⟩
  · rintro rfl
    obtain ⟨g, cs, e⟩ := At.row h.own hi
    rw [hid] at e
    cases e
  · exact (List.getElem?_eq_some_iff.1 (h.dfr i hi).2).1
  · rintro rfl
    have := (h.dfr i hi).2
    rw [hid] at this
    cases this
theorem Mid.app (h : Mid H0 H v out ds) (L : Hp) : Mid H0 (H ++ L) v out ds :=
  ⟨fun i hi => (List.getElem?_append_left (by have := h.lt; omega)).trans (h.old i hi), (List.getElem?_append_left h.lt).trans h.box, h.own.app L, h.at_, fun i hi => ⟨(h.dfr i hi).1, (List.getElem?_append_left (List.getElem?_eq_some_iff.1 (h.dfr i hi).2).1).trans (h.dfr i hi).2⟩, h.nd⟩
/-- What comes out is put behind. -/
theorem Mid.push (h : Mid H0 H v out ds) (a : Pr) (hb : out.length ≤ 2 ^ 20) : ∃ v' H1, appOf 2 16 H v (.isl (prE.f a) 1 2) = some (v', H1) ∧ H.length ≤ H1.length ∧ storeV Tryz.prog 37 H1 (.ptr H0.length 0 0) v' = some (H1.set H0.length (.row 0 [v'] true)) ∧ Mid H0 (H1.set H0.length (.row 0 [v'] true)) v' (out ++ [a]) ds ∧
    (∀ (i : Nat) (L : LoopA), H[i]? = some (.loop L) → (H1.set H0.length (.row 0 [v'] true))[i]? = some (.loop L)) ∧ v'.dem = v' := by
  obtain ⟨v', H1, e1, e2, e3, e4, e5⟩ := h.own.push (w := 2) (by_ := 16) a rfl (by omega) (by omega)
  have hlt := h.lt
  have hnb : ¬ At v H0.length := fun x => by have := h.at_ _ x; omega
  have hbx : H1[H0.length]? = some (.row 0 [v] true) := (e3 _ hlt hnb).trans h.box
  have hns : ∀ i, i ≠ H0.length → (H1.set H0.length (.row 0 [v'] true))[i]? = H1[i]? := fun i hi => List.getElem?_set_ne (Ne.symm hi)
  have hat : ∀ id, At v' id → H0.length < id := fun id hid => by
    rcases e5 id hid with x | x
    · exact h.at_ id x
    · omega
  have hst : storeV Tryz.prog 37 H1 (.ptr H0.length 0 0) v' = some (H1.set H0.length (.row 0 [v'] true)) := by
    obtain ⟨c1, c2, _⟩ := e2.cell
    unfold storeV
    simp only [getRow_of hbx, Option.bind_some, c2]
    rw [if_pos ⟨trivial, by kernel_rfl, by simp, by simp [c1]⟩]
    rfl
  have hdm : v'.dem = v' := by
    rcases e2 with ⟨rfl, _⟩ | ⟨_, _, rfl, _⟩ <;> rfl
  refine ⟨v', H1, e1, e4, hst, ⟨fun i hi => ?_, ?_, ?_, hat, fun i hi => ⟨(h.dfr i hi).1, ?_⟩, h.nd⟩, fun i L hL => ?_, hdm⟩
  · rw [hns i (by omega), e3 i (by omega) (fun x => by have := h.at_ _ x; omega)]
    exact h.old i hi
  · rw [List.getElem?_set_self (by omega)]
  · exact e2.frame fun id hid => hns id (by have := hat id hid; omega)
  · rw [hns i (by have := (h.dfr i hi).1; omega), e3 i (List.getElem?_eq_some_iff.1 (h.dfr i hi).2).1 ?_]
    · exact (h.dfr i hi).2
    · intro x
      obtain ⟨g, cs, e⟩ := At.row h.own x
      rw [(h.dfr i hi).2] at e
      cases e
  · rw [hns i ?_, e3 i (List.getElem?_eq_some_iff.1 hL).1 ?_]
    · exact hL
    · intro x
      obtain ⟨g, cs, e⟩ := At.row h.own x
      rw [hL] at e
      cases e
    · rintro rfl
      rw [h.box] at hL
      cases hL
/-- The marks are taken away. -/
theorem Mid.marks : ∀ {ds : List Nat} {H : Hp}, Mid H0 H v out ds → ∃ H1, dfrs pr (ds.map fun i => (Y0, [V.ptr i 0 0])) H = some H1 ∧ Mid H0 H1 v out []
  | [], H, h => ⟨H, rfl, h⟩
  | d :: ds, H, h => by
    obtain ⟨h1, h2⟩ := h.dfr d (by simp)
    have hm : markV [V.ptr d 0 0] H = some (H.set d (.dfr false)) := by
      unfold markV
      simp only [h2]
    have hnd := h.nd
    rw [List.nodup_cons] at hnd
    have hdl := (List.getElem?_eq_some_iff.1 h2).1
    have hns : ∀ i, i ≠ d → (H.set d (.dfr false))[i]? = H[i]? := fun i hi => List.getElem?_set_ne (Ne.symm hi)
    have hM : Mid H0 (H.set d (.dfr false)) v out ds := by
      refine ⟨fun i hi => (hns i (by omega)).trans (h.old i hi), (hns _ (by omega)).trans h.box, h.own.frame fun id hid => hns id ?_, h.at_, fun i hi => ⟨(h.dfr i (by simp [hi])).1, (hns i ?_).trans (h.dfr i (by simp [hi])).2⟩, hnd.2⟩
      · rintro rfl
        obtain ⟨g, cs, e⟩ := At.row h.own hid
        rw [h2] at e
        cases e
      · rintro rfl
        exact hnd.1 hi
    obtain ⟨H1, e1, e2⟩ := hM.marks
    exact ⟨H1, by rw [List.map_cons, dfrs_mark, hm]; exact e1, e2⟩
theorem pv_pr0 (x : Pr) : partV Tryz.prog 3 (prE.f x) 0 = some (.int .i64 x.a) := by unfold partV; rw [g3]; rfl
theorem pv_pr1 (x : Pr) : partV Tryz.prog 3 (prE.f x) 1 = some (.int .i64 x.b) := by unfold partV; rw [g3]; rfl
theorem pv_box (v : V) : partV Tryz.prog 37 [v] 0 = some v := by unfold partV; rw [g37]; rfl
end Go.Proofs.YteeofpgnjekeaaaGreatDoor
/-
  How long answers took, as the program has it: a round, and all of it; walked. No statement of the seat stands here.
-/
namespace Go.Proofs.YteeofpgnjekeaaaGreatDoor
open Go Go.An
set_option maxRecDepth 4000
set_option linter.unusedSimpArgs false
set_option linter.unusedVariables false

theorem callL_roundE [Orc] {P : Program} {Pr : Prims} {id : Nat} {H : Hp} {L : LoopA} {vs : List V} {T : Fr} {cca ccb : Cc} {R : V × Hp → Prop} (h1 : getLoopA H id = some L) (h2 : L.st = 0) (h3 : L.ps.all (fun p => p < L.N) = true) (h4 : putL L.T L.ps vs = some T) (h5 : compC P L.N L.ca = some cca) (h6 : compC P L.N L.cb = some ccb)
    (h : Wp P (callL P Pr) L.N cca T [(Y0, [])] H fun e T D H1 => e = .nor ∧ ∃ L1, getLoopA H1 id = some L1 ∧ L1.st = 0 ∧ Wp P (callL P Pr) L.N ccb T D (H1.set id (.loop { L1 with st := 1 })) fun e _ _ H2 => ∃ L2, getLoopA H2 id = some L2 ∧ R (match e with | .nor => (.bool true, H2.set id (.loop { L2 with st := 0, pend := .nor })) | e => (.bool false, H2.set id (.loop { L2 with st := 2, pend := e })))) : ∃ r, callL P Pr Y0 (.yld id :: vs) H = some r ∧ R r := by
  obtain ⟨e1, s1, b1, rfl, L1, g1, g2, e2, s2, b2, L2, g3, hr⟩ := h
  exact ⟨_, callL_round h1 h2 h3 h4 h5 h6 ⟨_, _, b1, rfl, L1, g1, g2, _, _, b2, L2, g3, rfl⟩, hr⟩
noncomputable def lp21 (T : Fr) (n : Nat) : LoopA := ⟨T, 57, [30, 31], a21_0, b21_0, 0, .nor, n⟩
theorem lpN (T : Fr) (n : Nat) : (lp21 T n).N = 57 := rfl
theorem lpT (T : Fr) (n : Nat) : (lp21 T n).T = T := rfl
theorem round21 {H0 H : Hp} {v : V} {out : List Pr} {ds : List Nat} {T : Fr} {n id p8 : Nat} {gk sj : Pr} {j : Int} (h : Mid H0 H v out ds) (ho : out.length ≤ 2 ^ 20) (hid : H[id]? = some (.loop (lp21 T n))) (hlt : H0.length < id) (h8 : H[p8]? = some (.row 0 (prE.f gk) true))
    (t8 : get T 8 = .ptr p8 0 0) (t6 : get T 6 = .ptr H0.length 0 0) (hg : 0 ≤ gk.b ∧ gk.b ≤ 1000000000000000) (hs : 0 ≤ sj.b ∧ sj.b ≤ 1000000000000000) :
    ∃ c H', callL Tryz.prog pr Y0 [.yld id, .int .i64 j, .agg (prE.f sj)] H = some (.bool c, H') ∧
      (c = true → ¬ (sj.a = gk.a ∧ sj.b ≤ gk.b) ∧ Mid H0 H' v out ds ∧ H'[id]? = some (.loop (lp21 T n)) ∧ H'[p8]? = some (.row 0 (prE.f gk) true)) ∧
      (c = false → (sj.a = gk.a ∧ sj.b ≤ gk.b) ∧ ∃ v', Mid H0 H' v' (out ++ [⟨gk.a, gk.b - sj.b⟩]) ds ∧ H'[id]? = some (.loop { lp21 T n with st := 2, pend := .exit 2 })) := by
  have hidl := (List.getElem?_eq_some_iff.1 hid).1
  have h8l := (List.getElem?_eq_some_iff.1 h8).1
  have hne : p8 ≠ id := by rintro rfl; rw [h8] at hid; cases hid
  have hgl : getLoopA H id = some (lp21 T n) := by unfold getLoopA; rw [hid]
  -- what is read
  have e8 : ∀ (b : AB) (X : Hp), getRow (H.set id b ++ X) p8 0 = some (prE.f gk, true) := fun b X => getRow_of (by rw [List.getElem?_append_left (by simpa using h8l), List.getElem?_set_ne (Ne.symm hne)]; exact h8)
  have e10 : ∀ (b : AB) (c : List V), getRow (H.set id b ++ [AB.row 0 c true]) H.length 0 = some (c, true) := fun b c => getRow_lastN (by simp)
  have hl1 : ∀ (c : List V), getLoopA (H ++ [AB.row 0 c true]) id = some (lp21 T n) := fun c => by unfold getLoopA; rw [List.getElem?_append_left hidl, hid]
  have hs1 : ∀ (b : AB) (c : List V), (H ++ [AB.row 0 c true]).set id b = H.set id b ++ [AB.row 0 c true] := fun b c => set_app hidl
  have hl2 : ∀ (b : LoopA) (c : List V), getLoopA (H.set id (.loop b) ++ [AB.row 0 c true]) id = some b := fun b c => by unfold getLoopA; rw [List.getElem?_append_left (by simpa using hidl), List.getElem?_set_self hidl]
  by_cases hq : sj.a = gk.a ∧ sj.b ≤ gk.b
  · refine ⟨false, ?_⟩
    suffices hh : ∃ r, callL Tryz.prog pr Y0 [.yld id, .int .i64 j, .agg (prE.f sj)] H = some r ∧ ∃ H', r = (.bool false, H') ∧ ∃ v', Mid H0 H' v' (out ++ [⟨gk.a, gk.b - sj.b⟩]) ds ∧ H'[id]? = some (.loop { lp21 T n with st := 2, pend := .exit 2 }) by
      obtain ⟨_, e, H', rfl, hh⟩ := hh
      exact ⟨H', e, fun x => (by cases x), fun _ => ⟨hq, hh⟩⟩
    refine callL_roundE hgl rfl rfl rfl ha21_0 hb21_0 ?_
    simp (disch := first | rfl | omega | exact lt_new _ | assumption | decide | (simp [tk_here, tk_app, tk_0, tk_S, gr_here, gr_app, gr_0, gr_S] <;> omega) | fail) only [ca21_0, r21_10, hl1, hs1, lpN, lpT, go_sem, ↓reduceIte, Nat.reduceLT, Nat.reduceEqDiff, Nat.reduceAdd, Nat.reduceMul, Nat.reduceSub, Int.reduceAdd, Int.reduceSub, Nat.reduceLeDiff, Int.reduceLT, Int.reduceLE, Int.reduceEq, Int.reduceNeg, Int.reduceToNat]
    refine ⟨_, rfl, rfl, ?_⟩
    obtain ⟨B, hB⟩ : ∃ B, B = AB.loop { lp21 T n with st := 1 } := ⟨_, rfl⟩
    show Wp _ _ _ _ _ _ (H.set id (AB.loop { lp21 T n with st := 1 }) ++ _) _
    rw [← hB]
    have hM : Mid H0 (H.set id B ++ [AB.row 0 (prE.f sj) true]) v out ds := (h.loop (H' := H.set id B) hid hlt fun i _ hi => List.getElem?_set_ne (Ne.symm hi)).app _
    obtain ⟨v', H3, p1, p2, p3, p4, p5, p6⟩ := hM.push ⟨gk.a, gk.b - sj.b⟩ ho
    have hbx := getRow_of hM.box
    have hid1 : (H.set id B ++ [AB.row 0 (prE.f sj) true])[id]? = some B := by rw [List.getElem?_append_left (by simpa using hidl), List.getElem?_set_self hidl]
    have h3 := p5 id _ (by rw [hid1, hB])
    have hg3 : getLoopA (H3.set H0.length (.row 0 [v'] true)) id = some { lp21 T n with st := 1 } := by unfold getLoopA; rw [h3]
    have hpr := prE_2 gk.a (gk.b - sj.b)
    simp (disch := first | rfl | omega | exact lt_new _ | assumption | decide | (simp [tk_here, tk_app, tk_0, tk_S, gr_here, gr_app, gr_0, gr_S] <;> omega) | fail) only [cb21_0, r21_11, r21_12, t6, t8, ldR, e8, e10, hbx, pv_pr0, pv_pr1, pv_box, p1, p3, p6, hq.1, hq.2, hpr, hg3, go_sem, ↓reduceIte, Nat.reduceLT, Nat.reduceEqDiff, Nat.reduceAdd, Nat.reduceMul, Nat.reduceSub, Int.reduceAdd, Int.reduceSub, Nat.reduceLeDiff, Int.reduceLT, Int.reduceLE, Int.reduceEq, Int.reduceNeg, Int.reduceToNat]
    repeat' ((first | refine guardB_dec (fun hy => ?_) (fun hy => ?_) | refine guardB_bool (fun hy => ?_) (fun hy => ?_) | refine guardQ_ite (fun hy => ?_) (fun hy => ?_) | refine brQ_dec (fun hy => ?_) (fun hy => ?_) | refine brQ_bool (fun hy => ?_) (fun hy => ?_)) <;> (try simp only [Bool.not_eq_true', Bool.not_eq_false', Bool.and_eq_true, Bool.or_eq_false_iff, decide_eq_true_eq, decide_eq_false_iff_not] at hy) <;> simp (disch := first | rfl | omega | exact lt_new _ | assumption | decide | (simp [tk_here, tk_app, tk_0, tk_S, gr_here, gr_app, gr_0, gr_S] <;> omega) | fail) only [cb21_0, r21_11, r21_12, t6, t8, ldR, e8, e10, hbx, pv_pr0, pv_pr1, pv_box, p1, p3, p6, hq.1, hq.2, hpr, hg3, go_sem, ↓reduceIte, Nat.reduceLT, Nat.reduceEqDiff, Nat.reduceAdd, Nat.reduceMul, Nat.reduceSub, Int.reduceAdd, Int.reduceSub, Nat.reduceLeDiff, Int.reduceLT, Int.reduceLE, Int.reduceEq, Int.reduceNeg, Int.reduceToNat, hy])
    exact ⟨_, rfl, _, rfl, v', p4.loop h3 hlt fun i _ hi => List.getElem?_set_ne (Ne.symm hi), List.getElem?_set_self (List.getElem?_eq_some_iff.1 h3).1⟩
  · refine ⟨true, ?_⟩
    suffices hh : ∃ r, callL Tryz.prog pr Y0 [.yld id, .int .i64 j, .agg (prE.f sj)] H = some r ∧ ∃ H', r = (.bool true, H') ∧ Mid H0 H' v out ds ∧ H'[id]? = some (.loop (lp21 T n)) ∧ H'[p8]? = some (.row 0 (prE.f gk) true) by
      obtain ⟨_, e, H', rfl, hh⟩ := hh
      exact ⟨H', e, fun _ => ⟨hq, hh⟩, fun x => (by cases x)⟩
    refine callL_roundE hgl rfl rfl rfl ha21_0 hb21_0 ?_
    simp (disch := first | rfl | omega | exact lt_new _ | assumption | decide | (simp [tk_here, tk_app, tk_0, tk_S, gr_here, gr_app, gr_0, gr_S] <;> omega) | fail) only [ca21_0, r21_10, hl1, hs1, lpN, lpT, go_sem, ↓reduceIte, Nat.reduceLT, Nat.reduceEqDiff, Nat.reduceAdd, Nat.reduceMul, Nat.reduceSub, Int.reduceAdd, Int.reduceSub, Nat.reduceLeDiff, Int.reduceLT, Int.reduceLE, Int.reduceEq, Int.reduceNeg, Int.reduceToNat]
    refine ⟨_, rfl, rfl, ?_⟩
    obtain ⟨B, hB⟩ : ∃ B, B = AB.loop { lp21 T n with st := 1 } := ⟨_, rfl⟩
    show Wp _ _ _ _ _ _ (H.set id (AB.loop { lp21 T n with st := 1 }) ++ _) _
    rw [← hB]
    have hM : Mid H0 (H.set id B ++ [AB.row 0 (prE.f sj) true]) v out ds := (h.loop (H' := H.set id B) hid hlt fun i _ hi => List.getElem?_set_ne (Ne.symm hi)).app _
    have hg3 : getLoopA (H.set id B ++ [AB.row 0 (prE.f sj) true]) id = some { lp21 T n with st := 1 } := by rw [hB]; exact hl2 _ _
    have hfin : Mid H0 ((H.set id B ++ [AB.row 0 (prE.f sj) true]).set id (.loop (lp21 T n))) v out ds := h.loop hid hlt fun i hi hn => by
      rw [List.getElem?_set_ne (Ne.symm hn), List.getElem?_append_left (by simpa using hi), List.getElem?_set_ne (Ne.symm hn)]
    have hf8 : ((H.set id B ++ [AB.row 0 (prE.f sj) true]).set id (.loop (lp21 T n)))[p8]? = some (.row 0 (prE.f gk) true) := by
      rw [List.getElem?_set_ne (Ne.symm hne), List.getElem?_append_left (by simpa using h8l), List.getElem?_set_ne (Ne.symm hne)]
      exact h8
    have hfi : ((H.set id B ++ [AB.row 0 (prE.f sj) true]).set id (.loop (lp21 T n)))[id]? = some (.loop (lp21 T n)) := List.getElem?_set_self (by simp; omega)
    by_cases hq1 : sj.a = gk.a
    · have hq2 : ¬ sj.b ≤ gk.b := fun x => hq ⟨hq1, x⟩
      simp (disch := first | rfl | omega | exact lt_new _ | assumption | decide | (simp [tk_here, tk_app, tk_0, tk_S, gr_here, gr_app, gr_0, gr_S] <;> omega) | fail) only [cb21_0, r21_11, t6, t8, ldR, e8, e10, pv_pr0, pv_pr1, hq1, hq2, hg3, go_sem, ↓reduceIte, Nat.reduceLT, Nat.reduceEqDiff, Nat.reduceAdd, Nat.reduceMul, Nat.reduceSub, Int.reduceAdd, Int.reduceSub, Nat.reduceLeDiff, Int.reduceLT, Int.reduceLE, Int.reduceEq, Int.reduceNeg, Int.reduceToNat]
      repeat' ((first | refine guardB_dec (fun hy => ?_) (fun hy => ?_) | refine guardB_bool (fun hy => ?_) (fun hy => ?_) | refine guardQ_ite (fun hy => ?_) (fun hy => ?_) | refine brQ_dec (fun hy => ?_) (fun hy => ?_) | refine brQ_bool (fun hy => ?_) (fun hy => ?_)) <;> (try simp only [Bool.not_eq_true', Bool.not_eq_false', Bool.and_eq_true, Bool.or_eq_false_iff, decide_eq_true_eq, decide_eq_false_iff_not] at hy) <;> simp (disch := first | rfl | omega | exact lt_new _ | assumption | decide | (simp [tk_here, tk_app, tk_0, tk_S, gr_here, gr_app, gr_0, gr_S] <;> omega) | fail) only [cb21_0, r21_11, t6, t8, ldR, e8, e10, pv_pr0, pv_pr1, hq1, hq2, hg3, go_sem, ↓reduceIte, Nat.reduceLT, Nat.reduceEqDiff, Nat.reduceAdd, Nat.reduceMul, Nat.reduceSub, Int.reduceAdd, Int.reduceSub, Nat.reduceLeDiff, Int.reduceLT, Int.reduceLE, Int.reduceEq, Int.reduceNeg, Int.reduceToNat, hy])
      exact ⟨_, rfl, _, rfl, hfin, hfi, hf8⟩
    · skip
      simp (disch := first | rfl | omega | exact lt_new _ | assumption | decide | (simp [tk_here, tk_app, tk_0, tk_S, gr_here, gr_app, gr_0, gr_S] <;> omega) | fail) only [cb21_0, r21_11, t6, t8, ldR, e8, e10, pv_pr0, pv_pr1, hq1, hg3, go_sem, ↓reduceIte, Nat.reduceLT, Nat.reduceEqDiff, Nat.reduceAdd, Nat.reduceMul, Nat.reduceSub, Int.reduceAdd, Int.reduceSub, Nat.reduceLeDiff, Int.reduceLT, Int.reduceLE, Int.reduceEq, Int.reduceNeg, Int.reduceToNat]
      repeat' ((first | refine guardB_dec (fun hy => ?_) (fun hy => ?_) | refine guardB_bool (fun hy => ?_) (fun hy => ?_) | refine guardQ_ite (fun hy => ?_) (fun hy => ?_) | refine brQ_dec (fun hy => ?_) (fun hy => ?_) | refine brQ_bool (fun hy => ?_) (fun hy => ?_)) <;> (try simp only [Bool.not_eq_true', Bool.not_eq_false', Bool.and_eq_true, Bool.or_eq_false_iff, decide_eq_true_eq, decide_eq_false_iff_not] at hy) <;> simp (disch := first | rfl | omega | exact lt_new _ | assumption | decide | (simp [tk_here, tk_app, tk_0, tk_S, gr_here, gr_app, gr_0, gr_S] <;> omega) | fail) only [cb21_0, r21_11, t6, t8, ldR, e8, e10, pv_pr0, pv_pr1, hq1, hg3, go_sem, ↓reduceIte, Nat.reduceLT, Nat.reduceEqDiff, Nat.reduceAdd, Nat.reduceMul, Nat.reduceSub, Int.reduceAdd, Int.reduceSub, Nat.reduceLeDiff, Int.reduceLT, Int.reduceLE, Int.reduceEq, Int.reduceNeg, Int.reduceToNat, hy])
      exact ⟨_, rfl, _, rfl, hfin, hfi, hf8⟩
end Go.Proofs.YteeofpgnjekeaaaGreatDoor
/-
  How long answers took, as the program has it; walked. No statement of the seat stands here.
-/
namespace Go.Proofs.YteeofpgnjekeaaaGreatDoor
open Go Go.An
set_option maxRecDepth 4000
set_option linter.unusedSimpArgs false
set_option linter.unusedVariables false

theorem trips_S (s g : List Pr) (k : Nat) : trips s g (k + 1) = trips s g k ++ (hit s (prE.at g k) s.length).toList := rfl
theorem Mid.gc {H0 H : Hp} {v : V} {out : List Pr} {ds : List Nat} (h : Mid H0 H v out ds) (e : Int) : gcF H0 (.tup [v, .int .i64 e], H) = (.tup [slV true prE out, .int .i64 e], H0) := by
  refine gcF_of h.old ?_
  have hi := h.own.inl (n := H0.length) (f := 6) fun id hid => by have := h.at_ id hid; omega
  have hv : inlA H0.length H 8 v = some (slV true prE out) := by
    rcases h.own with ⟨rfl, _⟩ | ⟨_, _, rfl, _⟩ <;> exact hi
  simp only [inlR_tup, mapO, hv, Option.bind_some, Option.map_some]
  rfl
theorem Mid.mark {H0 H : Hp} {v : V} {out : List Pr} {ds : List Nat} (h : Mid H0 H v out ds) {i : Nat} (hn : i ∉ ds) (hi : H0.length < i) (hd : H[i]? = some (.dfr true)) : Mid H0 H v out (i :: ds) :=
  ⟨h.old, h.box, h.own, h.at_, fun j hj => by
    rcases List.mem_cons.1 hj with rfl | hj
    · exact ⟨hi, hd⟩
    · exact h.dfr j hj, List.nodup_cons.2 ⟨hn, h.nd⟩⟩
theorem inR_map (ds : List Nat) : inRound (ds.map fun i => (Y0, [V.ptr i 0 0])) = false := by
  cases ds with
  | nil => rfl
  | cons d ds => cases ds <;> rfl
theorem rng21 {H0 H1 : Hp} {v : V} {s g : List Pr} {k : Nat} {ds : List Nat} {bs : Bool} {T : Fr} {Q : Ex → Fr → Dfr → Hp → Prop} (M : Mid H0 H1 v (trips s g k) ds) (hk : k < 2 ^ 20) (hl : s.length ≤ 2 ^ 48) (hsb : ∀ j < s.length, 0 ≤ (prE.at s j).b ∧ (prE.at s j).b ≤ 1000000000000000) (hgb : 0 ≤ (prE.at g k).b ∧ (prE.at g k).b ≤ 1000000000000000)
    (t29 : get T 29 = .fn 116 [] [.ipt [slV bs prE s] 0]) (t8 : get T 8 = .ptr H1.length 0 0) (t6 : get T 6 = .ptr H0.length 0 0)
    (hq : ∀ e v' H2, (e = .nor ∨ e = .exit 2) → Mid H0 H2 v' (trips s g (k + 1)) ((H1.length + 1) :: ds) → Q e T (((H1.length + 1) :: ds).map fun i => (Y0, [V.ptr i 0 0])) H2) :
    Wp Tryz.prog (callL Tryz.prog pr) 57 (.rng (tm 29) [30, 31] a21_0 b21_0) T (ds.map fun i => (Y0, [V.ptr i 0 0])) (H1 ++ [AB.row 0 (prE.f (prE.at g k)) true]) Q := by
  have hlt := M.lt
  have hn : (H1 ++ [AB.row 0 (prE.f (prE.at g k)) true]).length = H1.length + 1 := by simp
  have hnd : H1.length + 1 ∉ ds := fun x => by
    have := (List.getElem?_eq_some_iff.1 (M.dfr _ x).2).1
    omega
  have hM2 : Mid H0 (H1 ++ [AB.row 0 (prE.f (prE.at g k)) true] ++ [.dfr true, .loop (lp21 T (H1.length + 1))]) v (trips s g k) ((H1.length + 1) :: ds) := by
    refine ((M.app _).app _).mark hnd (by omega) ?_
    rw [List.getElem?_append_right (by omega), hn]
    simp
  have hid2 : (H1 ++ [AB.row 0 (prE.f (prE.at g k)) true] ++ [.dfr true, .loop (lp21 T (H1.length + 1))])[H1.length + 1 + 1]? = some (.loop (lp21 T (H1.length + 1))) := by
    rw [List.getElem?_append_right (by omega), hn]
    simp
  have hp82 : (H1 ++ [AB.row 0 (prE.f (prE.at g k)) true] ++ [.dfr true, .loop (lp21 T (H1.length + 1))])[H1.length]? = some (.row 0 (prE.f (prE.at g k)) true) := by
    rw [List.getElem?_append_left (by omega)]
    simp
  have hout := trips_len s g k
  obtain ⟨H3, hc, hJ⟩ := fn116 (id := H1.length + 1 + 1) (b := bs) (s := s) (H := H1 ++ [AB.row 0 (prE.f (prE.at g k)) true] ++ [.dfr true, .loop (lp21 T (H1.length + 1))]) hl
    (fun j H => Mid H0 H v (trips s g k) ((H1.length + 1) :: ds) ∧ H[H1.length + 1 + 1]? = some (.loop (lp21 T (H1.length + 1))) ∧ H[H1.length]? = some (.row 0 (prE.f (prE.at g k)) true) ∧ hit s (prE.at g k) s.length = hit s (prE.at g k) j)
    (fun H => ∃ v', Mid H0 H v' (trips s g (k + 1)) ((H1.length + 1) :: ds) ∧ H[H1.length + 1 + 1]? = some (.loop { lp21 T (H1.length + 1) with st := 2, pend := .exit 2 }))
    ⟨hM2, hid2, hp82, rfl⟩ (fun j hj H ⟨m1, m2, m3, m4⟩ => by
      obtain ⟨c, H', r1, r2, r3⟩ := round21 (j := (j : Int)) m1 (by omega) m2 (by omega) m3 t8 t6 hgb (hsb j hj)
      refine ⟨c, H', r1, fun hc => ?_, fun hc => ?_⟩
      · obtain ⟨n1, n2, n3, n4⟩ := r2 hc
        refine ⟨n2, n3, n4, ?_⟩
        rw [m4]
        exact if_neg n1
      · obtain ⟨n1, v', n2, n3⟩ := r3 hc
        refine ⟨v', ?_, n3⟩
        have e : trips s g (k + 1) = trips s g k ++ [⟨(prE.at g k).a, (prE.at g k).b - (prE.at s j).b⟩] := by
          rw [trips_S, m4]
          unfold hit
          rw [if_pos n1]
          rfl
        rw [e]
        exact n2)
  have hin := inR_map ds
  rcases hJ with ⟨m1, m2, m3, m4⟩ | ⟨v', m1, m2⟩
  · refine Wp_rng (q := (.tup [], H3)) (L := lp21 T (H1.length + 1)) t29 (by decide) hin (by kernel_rfl) (by rw [hn]; exact hc) (by rw [hn]; unfold getLoopA; rw [m2]) (by show (0 : Nat) ≠ 1; decide) ?_
    rw [hn]
    refine hq _ v _ (.inl rfl) ?_
    have e : trips s g (k + 1) = trips s g k := by
      rw [trips_S, m4]
      simp [hit]
    rw [e]
    exact m1.loop m2 (by omega) fun i _ hi => List.getElem?_set_ne (Ne.symm hi)
  · refine Wp_rng (q := (.tup [], H3)) (L := { lp21 T (H1.length + 1) with st := 2, pend := .exit 2 }) t29 (by decide) hin (by kernel_rfl) (by rw [hn]; exact hc) (by rw [hn]; unfold getLoopA; rw [m2]) (by show (2 : Nat) ≠ 1; decide) ?_
    rw [hn]
    refine hq _ v' _ (.inr rfl) ?_
    exact m1.loop m2 (by omega) fun i _ hi => List.getElem?_set_ne (Ne.symm hi)
set_option maxHeartbeats 8000000 in
theorem fn21 (bs bg : Bool) (s g : List Pr) (h1 : s.length ≤ 2 ^ 48) (h2 : g.length ≤ 2 ^ 48) (H : Hp) : callL Tryz.prog pr 21 [slV bs prE s, slV bg prE g] H = some (.tup [slV true prE (tripF s g).1, .int .i64 (tripF s g).2], H) := by
  have h63 := fun b l H => fn63 (b := b) (l := l) H
  refine run21 (Nat.le_of_ble_eq_true rfl) ?_
  unfold tripF
  by_cases ha : 200 < s.length
  case pos =>
    rw [if_pos (.inl ha)]
    have ha2 : (200 : Int) < s.length := by omega
    simp (disch := first | rfl | omega | exact lt_new _ | assumption | decide | (simp [tk_here, tk_app, tk_0, tk_S, gr_here, gr_app, gr_0, gr_S] <;> omega) | fail) only [r21_0, r21_1, r21_2, r21_3, r21_4, r21_5, r21_6, r21_7, r21_8, r21_9, r21_10, r21_11, r21_12, r21_13, r21_15, c21, rs21, gc21, h63, ha2, slV_nil, go_sem, ↓reduceIte, Nat.reduceLT, Nat.reduceEqDiff, Nat.reduceAdd, Nat.reduceMul, Nat.reduceSub, Int.reduceAdd, Int.reduceSub, Nat.reduceLeDiff, Int.reduceLT, Int.reduceLE, Int.reduceEq, Int.reduceNeg, Int.reduceToNat]
    repeat' ((first | refine guardB_dec (fun hy => ?_) (fun hy => ?_) | refine guardB_bool (fun hy => ?_) (fun hy => ?_) | refine guardQ_ite (fun hy => ?_) (fun hy => ?_) | refine brQ_dec (fun hy => ?_) (fun hy => ?_) | refine brQ_bool (fun hy => ?_) (fun hy => ?_)) <;> (try simp only [Bool.not_eq_true', Bool.not_eq_false', Bool.and_eq_true, Bool.or_eq_false_iff, decide_eq_true_eq, decide_eq_false_iff_not] at hy) <;> simp (disch := first | rfl | omega | exact lt_new _ | assumption | decide | (simp [tk_here, tk_app, tk_0, tk_S, gr_here, gr_app, gr_0, gr_S] <;> omega) | fail) only [r21_0, r21_1, r21_2, r21_3, r21_4, r21_5, r21_6, r21_7, r21_8, r21_9, r21_10, r21_11, r21_12, r21_13, r21_15, c21, rs21, gc21, h63, ha2, slV_nil, go_sem, ↓reduceIte, Nat.reduceLT, Nat.reduceEqDiff, Nat.reduceAdd, Nat.reduceMul, Nat.reduceSub, Int.reduceAdd, Int.reduceSub, Nat.reduceLeDiff, Int.reduceLT, Int.reduceLE, Int.reduceEq, Int.reduceNeg, Int.reduceToNat, hy])
    all_goals (try ((first | refine finQ_same ?_ | refine finQ_app ?_ | (rw [List.append_assoc]; refine finQ_app ?_)) <;> simp (disch := first | rfl | omega | exact lt_new _ | assumption | decide | (simp [tk_here, tk_app, tk_0, tk_S, gr_here, gr_app, gr_0, gr_S] <;> omega) | fail) only [go_sem, ↓reduceIte, Nat.reduceLT, Nat.reduceEqDiff, Nat.reduceAdd, Nat.reduceMul, Nat.reduceSub, Int.reduceAdd, Int.reduceSub, Nat.reduceLeDiff, Int.reduceLT, Int.reduceLE, Int.reduceEq, Int.reduceNeg, Int.reduceToNat, List.append_assoc, List.cons_append, List.nil_append, *]))
    all_goals (try first | rfl | (simp [*]; done) | grind)
  have ha2 : ¬ (200 : Int) < s.length := by omega
  by_cases hb : 200 < g.length
  case pos =>
    rw [if_pos (.inr hb)]
    have hb2 : (200 : Int) < g.length := by omega
    simp (disch := first | rfl | omega | exact lt_new _ | assumption | decide | (simp [tk_here, tk_app, tk_0, tk_S, gr_here, gr_app, gr_0, gr_S] <;> omega) | fail) only [r21_0, r21_1, r21_2, r21_3, r21_4, r21_5, r21_6, r21_7, r21_8, r21_9, r21_10, r21_11, r21_12, r21_13, r21_15, c21, rs21, gc21, h63, ha2, hb2, slV_nil, go_sem, ↓reduceIte, Nat.reduceLT, Nat.reduceEqDiff, Nat.reduceAdd, Nat.reduceMul, Nat.reduceSub, Int.reduceAdd, Int.reduceSub, Nat.reduceLeDiff, Int.reduceLT, Int.reduceLE, Int.reduceEq, Int.reduceNeg, Int.reduceToNat]
    repeat' ((first | refine guardB_dec (fun hy => ?_) (fun hy => ?_) | refine guardB_bool (fun hy => ?_) (fun hy => ?_) | refine guardQ_ite (fun hy => ?_) (fun hy => ?_) | refine brQ_dec (fun hy => ?_) (fun hy => ?_) | refine brQ_bool (fun hy => ?_) (fun hy => ?_)) <;> (try simp only [Bool.not_eq_true', Bool.not_eq_false', Bool.and_eq_true, Bool.or_eq_false_iff, decide_eq_true_eq, decide_eq_false_iff_not] at hy) <;> simp (disch := first | rfl | omega | exact lt_new _ | assumption | decide | (simp [tk_here, tk_app, tk_0, tk_S, gr_here, gr_app, gr_0, gr_S] <;> omega) | fail) only [r21_0, r21_1, r21_2, r21_3, r21_4, r21_5, r21_6, r21_7, r21_8, r21_9, r21_10, r21_11, r21_12, r21_13, r21_15, c21, rs21, gc21, h63, ha2, hb2, slV_nil, go_sem, ↓reduceIte, Nat.reduceLT, Nat.reduceEqDiff, Nat.reduceAdd, Nat.reduceMul, Nat.reduceSub, Int.reduceAdd, Int.reduceSub, Nat.reduceLeDiff, Int.reduceLT, Int.reduceLE, Int.reduceEq, Int.reduceNeg, Int.reduceToNat, hy])
    all_goals (try ((first | refine finQ_same ?_ | refine finQ_app ?_ | (rw [List.append_assoc]; refine finQ_app ?_)) <;> simp (disch := first | rfl | omega | exact lt_new _ | assumption | decide | (simp [tk_here, tk_app, tk_0, tk_S, gr_here, gr_app, gr_0, gr_S] <;> omega) | fail) only [go_sem, ↓reduceIte, Nat.reduceLT, Nat.reduceEqDiff, Nat.reduceAdd, Nat.reduceMul, Nat.reduceSub, Int.reduceAdd, Int.reduceSub, Nat.reduceLeDiff, Int.reduceLT, Int.reduceLE, Int.reduceEq, Int.reduceNeg, Int.reduceToNat, List.append_assoc, List.cons_append, List.nil_append, *]))
    all_goals (try first | rfl | (simp [*]; done) | grind)
  have hb2 : ¬ (200 : Int) < g.length := by omega
  rw [if_neg (by omega)]
  obtain ⟨b2, h65⟩ := fn65 bs bg s g (by omega) (by omega) H
  have h64 := fn64L (b := b2) (l := s ++ g) (H := H) (E := prE) rfl (by rw [List.length_append]; omega) badP 66 [] [] (fun _ => rfl) fun x _ => fn66 x H
  rw [List.any_append] at h64
  by_cases hbad : (s.any badP || g.any badP) = true
  · rw [if_pos (by simpa using hbad)]
    rw [hbad] at h64
    simp (disch := first | rfl | omega | exact lt_new _ | assumption | decide | (simp [tk_here, tk_app, tk_0, tk_S, gr_here, gr_app, gr_0, gr_S] <;> omega) | fail) only [r21_0, r21_1, r21_2, r21_3, r21_4, r21_5, r21_6, r21_7, r21_8, r21_9, r21_10, r21_11, r21_12, r21_13, r21_15, c21, rs21, gc21, h63, h65, h64, ha2, hb2, slV_nil, go_sem, ↓reduceIte, Nat.reduceLT, Nat.reduceEqDiff, Nat.reduceAdd, Nat.reduceMul, Nat.reduceSub, Int.reduceAdd, Int.reduceSub, Nat.reduceLeDiff, Int.reduceLT, Int.reduceLE, Int.reduceEq, Int.reduceNeg, Int.reduceToNat]
    repeat' ((first | refine guardB_dec (fun hy => ?_) (fun hy => ?_) | refine guardB_bool (fun hy => ?_) (fun hy => ?_) | refine guardQ_ite (fun hy => ?_) (fun hy => ?_) | refine brQ_dec (fun hy => ?_) (fun hy => ?_) | refine brQ_bool (fun hy => ?_) (fun hy => ?_)) <;> (try simp only [Bool.not_eq_true', Bool.not_eq_false', Bool.and_eq_true, Bool.or_eq_false_iff, decide_eq_true_eq, decide_eq_false_iff_not] at hy) <;> simp (disch := first | rfl | omega | exact lt_new _ | assumption | decide | (simp [tk_here, tk_app, tk_0, tk_S, gr_here, gr_app, gr_0, gr_S] <;> omega) | fail) only [r21_0, r21_1, r21_2, r21_3, r21_4, r21_5, r21_6, r21_7, r21_8, r21_9, r21_10, r21_11, r21_12, r21_13, r21_15, c21, rs21, gc21, h63, h65, h64, ha2, hb2, slV_nil, go_sem, ↓reduceIte, Nat.reduceLT, Nat.reduceEqDiff, Nat.reduceAdd, Nat.reduceMul, Nat.reduceSub, Int.reduceAdd, Int.reduceSub, Nat.reduceLeDiff, Int.reduceLT, Int.reduceLE, Int.reduceEq, Int.reduceNeg, Int.reduceToNat, hy])
    all_goals (try ((first | refine finQ_same ?_ | refine finQ_app ?_ | (rw [List.append_assoc]; refine finQ_app ?_)) <;> simp (disch := first | rfl | omega | exact lt_new _ | assumption | decide | (simp [tk_here, tk_app, tk_0, tk_S, gr_here, gr_app, gr_0, gr_S] <;> omega) | fail) only [go_sem, ↓reduceIte, Nat.reduceLT, Nat.reduceEqDiff, Nat.reduceAdd, Nat.reduceMul, Nat.reduceSub, Int.reduceAdd, Int.reduceSub, Nat.reduceLeDiff, Int.reduceLT, Int.reduceLE, Int.reduceEq, Int.reduceNeg, Int.reduceToNat, List.append_assoc, List.cons_append, List.nil_append, *]))
    all_goals (try first | rfl | (simp [*]; done) | grind)
  rw [Bool.not_eq_true] at hbad
  rw [hbad] at h64
  rw [if_neg (by simpa using hbad)]
  rw [Bool.or_eq_false_iff] at hbad
  obtain ⟨hb1, hb3⟩ := hbad
  simp (disch := first | rfl | omega | exact lt_new _ | assumption | decide | (simp [tk_here, tk_app, tk_0, tk_S, gr_here, gr_app, gr_0, gr_S] <;> omega) | fail) only [r21_0, r21_1, r21_2, r21_3, r21_4, r21_5, r21_6, r21_7, r21_8, r21_9, r21_10, r21_11, r21_12, r21_13, r21_15, c21, rs21, gc21, h63, h65, h64, ha2, hb2, slV_nil, go_sem, ↓reduceIte, Nat.reduceLT, Nat.reduceEqDiff, Nat.reduceAdd, Nat.reduceMul, Nat.reduceSub, Int.reduceAdd, Int.reduceSub, Nat.reduceLeDiff, Int.reduceLT, Int.reduceLE, Int.reduceEq, Int.reduceNeg, Int.reduceToNat]
  repeat' ((first | refine guardB_dec (fun hy => ?_) (fun hy => ?_) | refine guardB_bool (fun hy => ?_) (fun hy => ?_) | refine guardQ_ite (fun hy => ?_) (fun hy => ?_) | refine brQ_dec (fun hy => ?_) (fun hy => ?_) | refine brQ_bool (fun hy => ?_) (fun hy => ?_)) <;> (try simp only [Bool.not_eq_true', Bool.not_eq_false', Bool.and_eq_true, Bool.or_eq_false_iff, decide_eq_true_eq, decide_eq_false_iff_not] at hy) <;> simp (disch := first | rfl | omega | exact lt_new _ | assumption | decide | (simp [tk_here, tk_app, tk_0, tk_S, gr_here, gr_app, gr_0, gr_S] <;> omega) | fail) only [r21_0, r21_1, r21_2, r21_3, r21_4, r21_5, r21_6, r21_7, r21_8, r21_9, r21_10, r21_11, r21_12, r21_13, r21_15, c21, rs21, gc21, h63, h65, h64, ha2, hb2, slV_nil, go_sem, ↓reduceIte, Nat.reduceLT, Nat.reduceEqDiff, Nat.reduceAdd, Nat.reduceMul, Nat.reduceSub, Int.reduceAdd, Int.reduceSub, Nat.reduceLeDiff, Int.reduceLT, Int.reduceLE, Int.reduceEq, Int.reduceNeg, Int.reduceToNat, hy])
  refine Wp_loop (fun m T D H1 => ∃ k v ds, m = g.length - k ∧ k ≤ g.length ∧ D = (ds.map fun i => (Y0, [V.ptr i 0 0])) ∧ Mid H H1 v (trips s g k) ds ∧ get T 0 = slV bs prE s ∧ get T 6 = .ptr H.length 0 0 ∧ get T 22 = slV bg prE g ∧ get T 23 = .int .i64 g.length ∧ get T 24 = .int .i64 k) ?_ g.length _ _ _ ?_
  case refine_2 =>
    refine ⟨0, .nilslice, [], rfl, Nat.zero_le _, rfl, ⟨fun i hi => List.getElem?_append_left hi, by simp, ownE_nil _ _, fun id hid => ?_, nofun, by simp⟩, by simp (disch := first | rfl | omega | exact lt_new _ | assumption | decide | (simp [tk_here, tk_app, tk_0, tk_S, gr_here, gr_app, gr_0, gr_S] <;> omega) | fail) only [go_sem, ↓reduceIte, Nat.reduceLT, Nat.reduceEqDiff, Nat.reduceAdd, Nat.reduceMul, Nat.reduceSub, Int.reduceAdd, Int.reduceSub, Nat.reduceLeDiff, Int.reduceLT, Int.reduceLE, Int.reduceEq, Int.reduceNeg, Int.reduceToNat]⟩
    obtain ⟨g, o, n, z, cp, e⟩ := hid
    cases e
  rintro m T D H1 ⟨k, v, ds, rfl, hk, rfl, hM, t0, t6, t22, t23, t24⟩
  have hlt := hM.lt
  by_cases hkl : k < g.length
  · have hkl' : (k : Int) < g.length := by omega
    have h67 := fun H => fn67 bs s H
    simp (disch := first | rfl | omega | exact lt_new _ | assumption | decide | (simp [tk_here, tk_app, tk_0, tk_S, gr_here, gr_app, gr_0, gr_S] <;> omega) | fail) only [l21_14, r21_7, r21_8, r21_9, t0, t6, t22, t23, t24, hkl', h67, go_sem, ↓reduceIte, Nat.reduceLT, Nat.reduceEqDiff, Nat.reduceAdd, Nat.reduceMul, Nat.reduceSub, Int.reduceAdd, Int.reduceSub, Nat.reduceLeDiff, Int.reduceLT, Int.reduceLE, Int.reduceEq, Int.reduceNeg, Int.reduceToNat]
    repeat' ((first | refine guardB_dec (fun hy => ?_) (fun hy => ?_) | refine guardB_bool (fun hy => ?_) (fun hy => ?_) | refine guardQ_ite (fun hy => ?_) (fun hy => ?_) | refine brQ_dec (fun hy => ?_) (fun hy => ?_) | refine brQ_bool (fun hy => ?_) (fun hy => ?_)) <;> (try simp only [Bool.not_eq_true', Bool.not_eq_false', Bool.and_eq_true, Bool.or_eq_false_iff, decide_eq_true_eq, decide_eq_false_iff_not] at hy) <;> simp (disch := first | rfl | omega | exact lt_new _ | assumption | decide | (simp [tk_here, tk_app, tk_0, tk_S, gr_here, gr_app, gr_0, gr_S] <;> omega) | fail) only [l21_14, r21_7, r21_8, r21_9, t0, t6, t22, t23, t24, hkl', h67, go_sem, ↓reduceIte, Nat.reduceLT, Nat.reduceEqDiff, Nat.reduceAdd, Nat.reduceMul, Nat.reduceSub, Int.reduceAdd, Int.reduceSub, Nat.reduceLeDiff, Int.reduceLT, Int.reduceLE, Int.reduceEq, Int.reduceNeg, Int.reduceToNat, hy])
    refine rng21 (bs := bs) hM (by omega) h1 (fun j hj => okP_at hb1 hj) (okP_at hb3 hkl) (by simp (disch := first | rfl | omega | exact lt_new _ | assumption | decide | (simp [tk_here, tk_app, tk_0, tk_S, gr_here, gr_app, gr_0, gr_S] <;> omega) | fail) only [go_sem, ↓reduceIte, Nat.reduceLT, Nat.reduceEqDiff, Nat.reduceAdd, Nat.reduceMul, Nat.reduceSub, Int.reduceAdd, Int.reduceSub, Nat.reduceLeDiff, Int.reduceLT, Int.reduceLE, Int.reduceEq, Int.reduceNeg, Int.reduceToNat]) (by simp (disch := first | rfl | omega | exact lt_new _ | assumption | decide | (simp [tk_here, tk_app, tk_0, tk_S, gr_here, gr_app, gr_0, gr_S] <;> omega) | fail) only [go_sem, ↓reduceIte, Nat.reduceLT, Nat.reduceEqDiff, Nat.reduceAdd, Nat.reduceMul, Nat.reduceSub, Int.reduceAdd, Int.reduceSub, Nat.reduceLeDiff, Int.reduceLT, Int.reduceLE, Int.reduceEq, Int.reduceNeg, Int.reduceToNat]) (by simp (disch := first | rfl | omega | exact lt_new _ | assumption | decide | (simp [tk_here, tk_app, tk_0, tk_S, gr_here, gr_app, gr_0, gr_S] <;> omega) | fail) only [go_sem, ↓reduceIte, Nat.reduceLT, Nat.reduceEqDiff, Nat.reduceAdd, Nat.reduceMul, Nat.reduceSub, Int.reduceAdd, Int.reduceSub, Nat.reduceLeDiff, Int.reduceLT, Int.reduceLE, Int.reduceEq, Int.reduceNeg, Int.reduceToNat, t6]) fun e v' H2 he hM2 => ?_
    rcases he with rfl | rfl
    · skip
      simp (disch := first | rfl | omega | exact lt_new _ | assumption | decide | (simp [tk_here, tk_app, tk_0, tk_S, gr_here, gr_app, gr_0, gr_S] <;> omega) | fail) only [r21_13, t0, t6, t22, t23, t24, go_sem, ↓reduceIte, Nat.reduceLT, Nat.reduceEqDiff, Nat.reduceAdd, Nat.reduceMul, Nat.reduceSub, Int.reduceAdd, Int.reduceSub, Nat.reduceLeDiff, Int.reduceLT, Int.reduceLE, Int.reduceEq, Int.reduceNeg, Int.reduceToNat]
      repeat' ((first | refine guardB_dec (fun hy => ?_) (fun hy => ?_) | refine guardB_bool (fun hy => ?_) (fun hy => ?_) | refine guardQ_ite (fun hy => ?_) (fun hy => ?_) | refine brQ_dec (fun hy => ?_) (fun hy => ?_) | refine brQ_bool (fun hy => ?_) (fun hy => ?_)) <;> (try simp only [Bool.not_eq_true', Bool.not_eq_false', Bool.and_eq_true, Bool.or_eq_false_iff, decide_eq_true_eq, decide_eq_false_iff_not] at hy) <;> simp (disch := first | rfl | omega | exact lt_new _ | assumption | decide | (simp [tk_here, tk_app, tk_0, tk_S, gr_here, gr_app, gr_0, gr_S] <;> omega) | fail) only [r21_13, t0, t6, t22, t23, t24, go_sem, ↓reduceIte, Nat.reduceLT, Nat.reduceEqDiff, Nat.reduceAdd, Nat.reduceMul, Nat.reduceSub, Int.reduceAdd, Int.reduceSub, Nat.reduceLeDiff, Int.reduceLT, Int.reduceLE, Int.reduceEq, Int.reduceNeg, Int.reduceToNat, hy])
      exact ⟨_, by omega, k + 1, v', _, rfl, hkl, rfl, hM2, rfl⟩
    · skip
      simp (disch := first | rfl | omega | exact lt_new _ | assumption | decide | (simp [tk_here, tk_app, tk_0, tk_S, gr_here, gr_app, gr_0, gr_S] <;> omega) | fail) only [r21_13, t0, t6, t22, t23, t24, go_sem, ↓reduceIte, Nat.reduceLT, Nat.reduceEqDiff, Nat.reduceAdd, Nat.reduceMul, Nat.reduceSub, Int.reduceAdd, Int.reduceSub, Nat.reduceLeDiff, Int.reduceLT, Int.reduceLE, Int.reduceEq, Int.reduceNeg, Int.reduceToNat]
      repeat' ((first | refine guardB_dec (fun hy => ?_) (fun hy => ?_) | refine guardB_bool (fun hy => ?_) (fun hy => ?_) | refine guardQ_ite (fun hy => ?_) (fun hy => ?_) | refine brQ_dec (fun hy => ?_) (fun hy => ?_) | refine brQ_bool (fun hy => ?_) (fun hy => ?_)) <;> (try simp only [Bool.not_eq_true', Bool.not_eq_false', Bool.and_eq_true, Bool.or_eq_false_iff, decide_eq_true_eq, decide_eq_false_iff_not] at hy) <;> simp (disch := first | rfl | omega | exact lt_new _ | assumption | decide | (simp [tk_here, tk_app, tk_0, tk_S, gr_here, gr_app, gr_0, gr_S] <;> omega) | fail) only [r21_13, t0, t6, t22, t23, t24, go_sem, ↓reduceIte, Nat.reduceLT, Nat.reduceEqDiff, Nat.reduceAdd, Nat.reduceMul, Nat.reduceSub, Int.reduceAdd, Int.reduceSub, Nat.reduceLeDiff, Int.reduceLT, Int.reduceLE, Int.reduceEq, Int.reduceNeg, Int.reduceToNat, hy])
      exact ⟨_, by omega, k + 1, v', _, rfl, hkl, rfl, hM2, rfl⟩
  · obtain rfl : k = g.length := by omega
    have hbx : loadV Tryz.prog 37 H1 (.ptr H.length 0 0) = some v := by rw [ldR, getRow_of hM.box]; exact pv_box v
    obtain ⟨H2, e1, e2⟩ := hM.marks
    have hgc := e2.gc 0
    simp (disch := first | rfl | omega | exact lt_new _ | assumption | decide | (simp [tk_here, tk_app, tk_0, tk_S, gr_here, gr_app, gr_0, gr_S] <;> omega) | fail) only [l21_14, r21_7, r21_15, rs21, gc21, t0, t6, t22, t23, t24, Int.lt_irrefl, hbx, e1, go_sem, ↓reduceIte, Nat.reduceLT, Nat.reduceEqDiff, Nat.reduceAdd, Nat.reduceMul, Nat.reduceSub, Int.reduceAdd, Int.reduceSub, Nat.reduceLeDiff, Int.reduceLT, Int.reduceLE, Int.reduceEq, Int.reduceNeg, Int.reduceToNat]
    repeat' ((first | refine guardB_dec (fun hy => ?_) (fun hy => ?_) | refine guardB_bool (fun hy => ?_) (fun hy => ?_) | refine guardQ_ite (fun hy => ?_) (fun hy => ?_) | refine brQ_dec (fun hy => ?_) (fun hy => ?_) | refine brQ_bool (fun hy => ?_) (fun hy => ?_)) <;> (try simp only [Bool.not_eq_true', Bool.not_eq_false', Bool.and_eq_true, Bool.or_eq_false_iff, decide_eq_true_eq, decide_eq_false_iff_not] at hy) <;> simp (disch := first | rfl | omega | exact lt_new _ | assumption | decide | (simp [tk_here, tk_app, tk_0, tk_S, gr_here, gr_app, gr_0, gr_S] <;> omega) | fail) only [l21_14, r21_7, r21_15, rs21, gc21, t0, t6, t22, t23, t24, Int.lt_irrefl, hbx, e1, go_sem, ↓reduceIte, Nat.reduceLT, Nat.reduceEqDiff, Nat.reduceAdd, Nat.reduceMul, Nat.reduceSub, Int.reduceAdd, Int.reduceSub, Nat.reduceLeDiff, Int.reduceLT, Int.reduceLE, Int.reduceEq, Int.reduceNeg, Int.reduceToNat, hy])
    obtain ⟨c1, c2, c3, _⟩ := e2.own.cell
    rw [c3]
    exact ⟨_, rfl, hgc⟩
end Go.Proofs.YteeofpgnjekeaaaGreatDoor
/-
  How long answers took: the program and the reference tell the same; walked. No statement of the seat stands here.
-/
namespace Go.Proofs.YteeofpgnjekeaaaGreatDoor
open Go Go.An
set_option maxRecDepth 4000
set_option linter.unusedSimpArgs false
set_option linter.unusedVariables false

theorem tripF_len (s g : List Pr) : (tripF s g).1.length ≤ g.length := by
  unfold tripF
  split
  · simp
  · split
    · simp
    · exact trips_len s g g.length
theorem fn6 (bs bg : Bool) (s g : List Pr) (h1 : s.length ≤ 2 ^ 47) (h2 : g.length ≤ 2 ^ 47) (H : Hp) : callL Tryz.prog pr 6 [slV bs prE s, slV bg prE g] H = some (.bool true, H) := by
  have h21 := fn21 bs bg s g (by omega) (by omega)
  have h22 := fn22 bs bg s g (by omega) (by omega)
  have hk := known_call
  have hl := tripF_len s g
  obtain ⟨r, hr⟩ : ∃ r, tripF s g = r := ⟨_, rfl⟩
  rw [hr] at h21 h22 hl
  refine run6 (Nat.le_of_ble_eq_true rfl) ?_
  by_cases ha : (20000 : Int) < s.length + g.length
  · skip
    simp (disch := first | rfl | omega | exact lt_new _ | assumption | decide | (simp [tk_here, tk_app, tk_0, tk_S, gr_here, gr_app, gr_0, gr_S] <;> omega) | fail) only [r6_0, r6_1, r6_2, r6_3, r6_4, r6_5, r6_6, r6_7, r6_8, r6_9, r6_10, r6_11, r6_13, c6, rs6, gc6, ha, hk, go_sem, ↓reduceIte, Nat.reduceLT, Nat.reduceEqDiff, Nat.reduceAdd, Nat.reduceMul, Nat.reduceSub, Int.reduceAdd, Int.reduceSub, Nat.reduceLeDiff, Int.reduceLT, Int.reduceLE, Int.reduceEq, Int.reduceNeg, Int.reduceToNat]
    repeat' ((first | refine guardB_dec (fun hy => ?_) (fun hy => ?_) | refine guardB_bool (fun hy => ?_) (fun hy => ?_) | refine guardQ_ite (fun hy => ?_) (fun hy => ?_) | refine brQ_dec (fun hy => ?_) (fun hy => ?_) | refine brQ_bool (fun hy => ?_) (fun hy => ?_)) <;> (try simp only [Bool.not_eq_true', Bool.not_eq_false', Bool.and_eq_true, Bool.or_eq_false_iff, decide_eq_true_eq, decide_eq_false_iff_not] at hy) <;> simp (disch := first | rfl | omega | exact lt_new _ | assumption | decide | (simp [tk_here, tk_app, tk_0, tk_S, gr_here, gr_app, gr_0, gr_S] <;> omega) | fail) only [r6_0, r6_1, r6_2, r6_3, r6_4, r6_5, r6_6, r6_7, r6_8, r6_9, r6_10, r6_11, r6_13, c6, rs6, gc6, ha, hk, go_sem, ↓reduceIte, Nat.reduceLT, Nat.reduceEqDiff, Nat.reduceAdd, Nat.reduceMul, Nat.reduceSub, Int.reduceAdd, Int.reduceSub, Nat.reduceLeDiff, Int.reduceLT, Int.reduceLE, Int.reduceEq, Int.reduceNeg, Int.reduceToNat, hy])
    all_goals (try ((first | refine finQ_same ?_ | refine finQ_app ?_ | (rw [List.append_assoc]; refine finQ_app ?_)) <;> simp (disch := first | rfl | omega | exact lt_new _ | assumption | decide | (simp [tk_here, tk_app, tk_0, tk_S, gr_here, gr_app, gr_0, gr_S] <;> omega) | fail) only [go_sem, ↓reduceIte, Nat.reduceLT, Nat.reduceEqDiff, Nat.reduceAdd, Nat.reduceMul, Nat.reduceSub, Int.reduceAdd, Int.reduceSub, Nat.reduceLeDiff, Int.reduceLT, Int.reduceLE, Int.reduceEq, Int.reduceNeg, Int.reduceToNat, List.append_assoc, List.cons_append, List.nil_append, *]))
    all_goals (try first | rfl | (simp [*]; done) | grind)
  simp (disch := first | rfl | omega | exact lt_new _ | assumption | decide | (simp [tk_here, tk_app, tk_0, tk_S, gr_here, gr_app, gr_0, gr_S] <;> omega) | fail) only [r6_0, r6_1, r6_2, r6_3, r6_4, r6_5, r6_6, r6_7, r6_8, r6_9, r6_10, r6_11, r6_13, c6, rs6, gc6, ha, h21, h22, go_sem, ↓reduceIte, Nat.reduceLT, Nat.reduceEqDiff, Nat.reduceAdd, Nat.reduceMul, Nat.reduceSub, Int.reduceAdd, Int.reduceSub, Nat.reduceLeDiff, Int.reduceLT, Int.reduceLE, Int.reduceEq, Int.reduceNeg, Int.reduceToNat]
  repeat' ((first | refine guardB_dec (fun hy => ?_) (fun hy => ?_) | refine guardB_bool (fun hy => ?_) (fun hy => ?_) | refine guardQ_ite (fun hy => ?_) (fun hy => ?_) | refine brQ_dec (fun hy => ?_) (fun hy => ?_) | refine brQ_bool (fun hy => ?_) (fun hy => ?_)) <;> (try simp only [Bool.not_eq_true', Bool.not_eq_false', Bool.and_eq_true, Bool.or_eq_false_iff, decide_eq_true_eq, decide_eq_false_iff_not] at hy) <;> simp (disch := first | rfl | omega | exact lt_new _ | assumption | decide | (simp [tk_here, tk_app, tk_0, tk_S, gr_here, gr_app, gr_0, gr_S] <;> omega) | fail) only [r6_0, r6_1, r6_2, r6_3, r6_4, r6_5, r6_6, r6_7, r6_8, r6_9, r6_10, r6_11, r6_13, c6, rs6, gc6, ha, h21, h22, go_sem, ↓reduceIte, Nat.reduceLT, Nat.reduceEqDiff, Nat.reduceAdd, Nat.reduceMul, Nat.reduceSub, Int.reduceAdd, Int.reduceSub, Nat.reduceLeDiff, Int.reduceLT, Int.reduceLE, Int.reduceEq, Int.reduceNeg, Int.reduceToNat, hy])
  refine Wp_loop (fun m T D H' => ∃ i, m = r.1.length - i ∧ i ≤ r.1.length ∧ D = [] ∧ H' = H ∧ get T 5 = slV true prE r.1 ∧ get T 7 = slV true prE r.1 ∧ get T 9 = .int .i64 i) ?_ r.1.length _ _ _ ?_
  case refine_2 => exact ⟨0, by simp (disch := first | rfl | omega | exact lt_new _ | assumption | decide | (simp [tk_here, tk_app, tk_0, tk_S, gr_here, gr_app, gr_0, gr_S] <;> omega) | fail) only [go_sem, ↓reduceIte, Nat.reduceLT, Nat.reduceEqDiff, Nat.reduceAdd, Nat.reduceMul, Nat.reduceSub, Int.reduceAdd, Int.reduceSub, Nat.reduceLeDiff, Int.reduceLT, Int.reduceLE, Int.reduceEq, Int.reduceNeg, Int.reduceToNat]; simp⟩
  rintro m T D _ ⟨i, rfl, hi, rfl, rfl, t5, t7, t9⟩
  by_cases hlt : i < r.1.length
  · have hlt' : (i : Int) < r.1.length := by omega
    simp (disch := first | rfl | omega | exact lt_new _ | assumption | decide | (simp [tk_here, tk_app, tk_0, tk_S, gr_here, gr_app, gr_0, gr_S] <;> omega) | fail) only [l6_12, r6_8, r6_9, r6_11, loadV_ptr, storeV_ptr, List.append_assoc, List.length_append, List.length_cons, List.length_nil, List.set_cons_zero, List.set_cons_succ, tk_here, tk_app, gr_here, gr_app, st_here, st_app, t5, t7, t9, hlt', go_sem, ↓reduceIte, Nat.reduceLT, Nat.reduceEqDiff, Nat.reduceAdd, Nat.reduceMul, Nat.reduceSub, Int.reduceAdd, Int.reduceSub, Nat.reduceLeDiff, Int.reduceLT, Int.reduceLE, Int.reduceEq, Int.reduceNeg, Int.reduceToNat]
    repeat' ((first | refine guardB_dec (fun hy => ?_) (fun hy => ?_) | refine guardB_bool (fun hy => ?_) (fun hy => ?_) | refine guardQ_ite (fun hy => ?_) (fun hy => ?_) | refine brQ_dec (fun hy => ?_) (fun hy => ?_) | refine brQ_bool (fun hy => ?_) (fun hy => ?_)) <;> (try simp only [Bool.not_eq_true', Bool.not_eq_false', Bool.and_eq_true, Bool.or_eq_false_iff, decide_eq_true_eq, decide_eq_false_iff_not] at hy) <;> simp (disch := first | rfl | omega | exact lt_new _ | assumption | decide | (simp [tk_here, tk_app, tk_0, tk_S, gr_here, gr_app, gr_0, gr_S] <;> omega) | fail) only [l6_12, r6_8, r6_9, r6_11, loadV_ptr, storeV_ptr, List.append_assoc, List.length_append, List.length_cons, List.length_nil, List.set_cons_zero, List.set_cons_succ, tk_here, tk_app, gr_here, gr_app, st_here, st_app, t5, t7, t9, hlt', go_sem, ↓reduceIte, Nat.reduceLT, Nat.reduceEqDiff, Nat.reduceAdd, Nat.reduceMul, Nat.reduceSub, Int.reduceAdd, Int.reduceSub, Nat.reduceLeDiff, Int.reduceLT, Int.reduceLE, Int.reduceEq, Int.reduceNeg, Int.reduceToNat, hy])
    exact ⟨_, by omega, i + 1, rfl, hlt, rfl⟩
  · obtain rfl : i = r.1.length := by omega
    simp (disch := first | rfl | omega | exact lt_new _ | assumption | decide | (simp [tk_here, tk_app, tk_0, tk_S, gr_here, gr_app, gr_0, gr_S] <;> omega) | fail) only [l6_12, r6_8, r6_13, rs6, gc6, loadV_ptr, storeV_ptr, List.append_assoc, List.length_append, List.length_cons, List.length_nil, List.set_cons_zero, List.set_cons_succ, tk_here, tk_app, gr_here, gr_app, st_here, st_app, t5, t7, t9, Int.lt_irrefl, hk, go_sem, ↓reduceIte, Nat.reduceLT, Nat.reduceEqDiff, Nat.reduceAdd, Nat.reduceMul, Nat.reduceSub, Int.reduceAdd, Int.reduceSub, Nat.reduceLeDiff, Int.reduceLT, Int.reduceLE, Int.reduceEq, Int.reduceNeg, Int.reduceToNat]
    repeat' ((first | refine guardB_dec (fun hy => ?_) (fun hy => ?_) | refine guardB_bool (fun hy => ?_) (fun hy => ?_) | refine guardQ_ite (fun hy => ?_) (fun hy => ?_) | refine brQ_dec (fun hy => ?_) (fun hy => ?_) | refine brQ_bool (fun hy => ?_) (fun hy => ?_)) <;> (try simp only [Bool.not_eq_true', Bool.not_eq_false', Bool.and_eq_true, Bool.or_eq_false_iff, decide_eq_true_eq, decide_eq_false_iff_not] at hy) <;> simp (disch := first | rfl | omega | exact lt_new _ | assumption | decide | (simp [tk_here, tk_app, tk_0, tk_S, gr_here, gr_app, gr_0, gr_S] <;> omega) | fail) only [l6_12, r6_8, r6_13, rs6, gc6, loadV_ptr, storeV_ptr, List.append_assoc, List.length_append, List.length_cons, List.length_nil, List.set_cons_zero, List.set_cons_succ, tk_here, tk_app, gr_here, gr_app, st_here, st_app, t5, t7, t9, Int.lt_irrefl, hk, go_sem, ↓reduceIte, Nat.reduceLT, Nat.reduceEqDiff, Nat.reduceAdd, Nat.reduceMul, Nat.reduceSub, Int.reduceAdd, Int.reduceSub, Nat.reduceLeDiff, Int.reduceLT, Int.reduceLE, Int.reduceEq, Int.reduceNeg, Int.reduceToNat, hy])
    all_goals (try ((first | refine finQ_same ?_ | refine finQ_app ?_ | (rw [List.append_assoc]; refine finQ_app ?_)) <;> simp (disch := first | rfl | omega | exact lt_new _ | assumption | decide | (simp [tk_here, tk_app, tk_0, tk_S, gr_here, gr_app, gr_0, gr_S] <;> omega) | fail) only [go_sem, ↓reduceIte, Nat.reduceLT, Nat.reduceEqDiff, Nat.reduceAdd, Nat.reduceMul, Nat.reduceSub, Int.reduceAdd, Int.reduceSub, Nat.reduceLeDiff, Int.reduceLT, Int.reduceLE, Int.reduceEq, Int.reduceNeg, Int.reduceToNat, List.append_assoc, List.cons_append, List.nil_append, *]))
    all_goals (try first | rfl | (simp [*]; done) | grind)
end Go.Proofs.YteeofpgnjekeaaaGreatDoor
