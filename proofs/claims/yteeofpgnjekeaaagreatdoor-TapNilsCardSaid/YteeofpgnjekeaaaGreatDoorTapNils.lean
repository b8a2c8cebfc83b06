/-
  Proved: TapNilsCardSaid: 'TapNils' returns true whatever the input, and the input reads as before.
-/
import Derived.Test.YteeofpgnjekeaaaGreatDoorP3
import Derived.ProofKit
import Derived.OpenShut
import Derived.ShutString
import Derived.ChangeOld
import Derived.Below
import Derived.SizedLaws
import Derived.LaidMore
import Derived.Lay
import Derived.Stop.Joined
import Derived.SevenTiedAt
import Derived.Test.YteeofpgnjekeaaaGreatDoorCards
import Derived.Test.YteeofpgnjekeaaaGreatDoorTie
namespace Go.Proofs.YteeofpgnjekeaaaGreatDoor
open Go Go.An Go.ChangeShapes Go.WideShapes Go.ChangeAt Go.RowKit

local instance (priority := high) instOrc0 : Orc := orc0
set_option maxRecDepth 100000 in
theorem tapNils_eval (n0 n1 : Int) : (@callN Tryz.prog orc0 primsK 400 13 [.int .i64 n0, .int .i64 n1] []).map (·.1) = some (.bool true) := by kernel_rfl
set_option maxRecDepth 100000 in
theorem tapNils_law (xs : List V) (h : ArgsT Tryz.prog 2 [3, 3] xs) : ∃ n H', @callN Tryz.prog orc0 primsK n 13 xs [] = some (.bool true, H') := by
  obtain ⟨x0, l0, rfl, hx0, hl0⟩ := args_cons h
  obtain ⟨x1, l1, rfl, hx1, hl1⟩ := args_cons hl0
  obtain rfl := args_nil hl1
  obtain ⟨n0, rfl, _⟩ := arg_int (m := 1) Tryz.underlying3 hx0
  obtain ⟨n1, rfl, _⟩ := arg_int (m := 1) Tryz.underlying3 hx1
  exact run_of (tapNils_eval n0 n1)

set_option maxRecDepth 100000 in
theorem tapNils_lifted (os : Os) (started : os.Started) (H : Type) (enc : TypeId × Value → H) :
    ReturnsInHanded {} Tryz.checked os 13 .any (fun w args => (Rows.tapNilsSpec.pre enc Tryz.prog Tryz.f13 [] false w args ∧ laidMetH Tryz.prog Rows.tapNilsRow.laid w) ∧ sizedMet enc Tryz.prog Tryz.f13 (OpenSpec.ofChange Rows.tapNilsSpec) false w args)
      (Rows.tapNilsSpec.post enc Tryz.prog Tryz.f13 false true false false) := by
  refine returnsInHanded_of_change_and (C := Tryz.checked) (X := fun w _ => laidMetH Tryz.prog Rows.tapNilsRow.laid w) (fun _ _ _ hh h => h.of_heap hh) own started (by kernel_rfl) Tryz.func13
    (ChangeSpec.witness_shaped (enc := enc) (C := Tryz.checked) (os := os) (X := fun w _ => laidMetH Tryz.prog Rows.tapNilsRow.laid w) false (World.laidAll Tryz.prog os Rows.tapNilsRow.laid) #[.int .i64 0, .int .i64 0] 8 (World.laidAll_os _ _ _) (World.shaped_of_ZipB (by kernel_rfl) (by kernel_rfl)) (by kernel_rfl) (by kernel_rfl) (by kernel_rfl) (by rw [MakeChecks.laidMetH_plain _ _ _ (by kernel_rfl)]; exact laidMet_laidAll _ (by kernel_rfl) (by kernel_rfl))) ?_
  intro W base args ds gs before hval0 hW hcnd hsz0 _ _
  have hsz : (DataW.weightsEach Tryz.prog (Tryz.f13.params.toList ++ Rows.tapNilsSpec.plain.varTypes Tryz.prog) (ds ++ gs)).all (· ≤ reachBytes) = true := hsz0
  have hval : ∀ (j : Nat) t v, Tryz.f13.params[j]? = some t → args[j]? = some v → Value.okWide Tryz.prog W .any base t v := hval0
  have hW' := hW
  obtain ⟨p, q, hA0, hV, rfl, hfz, hnd⟩ := hW
  have hA : DataW.TrodAll enc Tryz.prog W 0 (fun _ => true) true Tryz.f13.params.toList args.toList ds p := hA0
  obtain ⟨rfl, rfl⟩ := trodVars_none hV
  have hw : ∀ x ∈ DataW.weightsEach Tryz.prog Tryz.f13.params.toList ds, x ≤ reachBytes := by
    have e : Tryz.f13.params.toList ++ Rows.tapNilsSpec.plain.varTypes Tryz.prog = Tryz.f13.params.toList := by kernel_rfl
    rw [e, List.append_nil] at hsz
    simpa using hsz
  refine (law_calls (m := 2) mixed noNum primsK_ok Tryz.func13 rfl (by kernel_rfl) tapNils_law hA (fun i t v h1 h2 => hval i t v (by simpa using h1) h2) hw).mono fun e W' ⟨he, bel⟩ => ?_
  subst he
  have hback := trodAll_below laidOut bel (by kernel_rfl) hA
  rw [Tryz.params13] at hA
  obtain ⟨v0, vs0, d0, ds0, p0, q0, hargs0, rfl, rfl, h0, r0⟩ := trodAll_cons hA
  obtain ⟨v1, vs1, d1, ds1, p1, q1, hargs1, rfl, rfl, h1, r1⟩ := trodAll_cons r0
  obtain ⟨rfl, rfl, rfl⟩ := trodAll_nil r1
  exact ⟨_, rfl, _, _, _, [], _, [], hW', trodAll_mk1 (shut_bool Tryz.underlying4 _), hback, rfl, bel.frame _, fun h => by cases h⟩

theorem tapNils_row : Rows.TapNilsSaid :=
  OpenClaim.holds_of_wide 13 Tryz.f13 rfl rfl rfl rfl rfl rfl rfl ⟨rfl, rfl, rfl, rfl, rfl⟩ rfl rfl rfl rfl rfl (by kernel_rfl) Tryz.func13 (by kernel_rfl)
    (of_decide_eq_true (by kernel_rfl)) (by unfold Func.isWrapper; first | (rw [if_pos (by decide +kernel)]; kernel_rfl) | (rw [if_neg (by decide +kernel)]; exact ⟨rfl, rfl⟩))
    (fun os started H enc _ => tapNils_lifted os started H enc)
theorem tapNils_holds : Rows.TapNilsCardSaid :=
  Claim7.holds_tied_plain_at .later [] [.data, .data, .data] true (true, "e52f315291b9b8f62d816419d89c1c73e901d276f5233db27ffa9eb1027d8870") false
    tapNils_row (fun _ h => by cases h) (by kernel_rfl) (fun _ h => by cases h) tapNils_row_tie rfl ⟨rfl, rfl⟩ (by kernel_rfl) rfl
    (fun f fn hf hfn => by
      obtain rfl : f = 13 := Option.some.inj ((show Tryz.prog.funcNamed "wireglass/wireglasslaw23.TapNils" = some 13 by kernel_rfl).symm.trans hf) |>.symm
      obtain rfl : fn = Tryz.f13 := (Option.some.inj (Tryz.func13.symm.trans hfn)).symm
      exact ⟨by kernel_rfl, fun j t ht => by
        rw [Tryz.params13] at ht
        have hm : t ∈ [3, 3] := by simpa using Array.mem_of_getElem? ht
        have hall : ([3, 3].all fun u => !Tryz.prog.wantsStandIn u) = true := by kernel_rfl
        exact (show Tryz.prog.wantsStandIn t = false by simpa using List.all_eq_true.1 hall t hm)⟩)
    (by kernel_rfl)
end Go.Proofs.YteeofpgnjekeaaaGreatDoor
