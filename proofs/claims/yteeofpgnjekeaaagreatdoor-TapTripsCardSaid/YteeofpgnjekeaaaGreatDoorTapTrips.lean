/-
  Proved: how long answers took, for all numbers sent and got: 'TapTrips' returns true whatever the input, and the input reads as before.
-/
import Derived.Test.YteeofpgnjekeaaaGreatDoorP5
import Derived.ProofKit
import Derived.OpenShut
import Derived.ShutString
import Derived.ChangeOld
import Derived.Below
import Derived.SizedLaws
import Derived.LaidMore
import Derived.Lay
import Derived.Stop.Joined
import Derived.SevenTiedAt
import Derived.Test.YteeofpgnjekeaaaGreatDoorCards
import Derived.Test.YteeofpgnjekeaaaGreatDoorTie
namespace Go.Proofs.YteeofpgnjekeaaaGreatDoor
open Go Go.An Go.ChangeShapes Go.WideShapes Go.ChangeAt Go.RowKit

set_option maxRecDepth 100000 in
theorem rd_pr {m : Nat} {x : List V} (h : RdT Tryz.prog (m + 2) 40 x) : ∃ p : Pr, x = prE.f p ∧ True := by
  obtain ⟨xss, rfl, hl, hr⟩ := rd_arr (m := m + 1) u40 h
  match xss, hl with
  | [a, b], _ =>
    obtain ⟨y, rfl, _⟩ := rd_i64 (m := m) u3 (hr a (by simp)).2
    obtain ⟨z, rfl, _⟩ := rd_i64 (m := m) u3 (hr b (by simp)).2
    exact ⟨⟨y, z⟩, rfl, trivial⟩
set_option maxRecDepth 100000 in
theorem trips_law (xs : List V) (h : ArgsT Tryz.prog 4 [37, 37] xs) : ∃ n H', callN Tryz.prog pr n 6 xs [] = some (.bool true, H') := by
  obtain ⟨x, l, rfl, hx, hl⟩ := args_cons h
  obtain ⟨y, l', rfl, hy, hl'⟩ := args_cons hl
  obtain rfl := args_nil hl'
  obtain ⟨bs, s, rfl, _, hs, _⟩ := arg_list (m := 3) (E := prE) (Ok := fun _ => True) u37 (by kernel_rfl) (fun x hx => rd_pr (m := 1) hx) hx
  obtain ⟨bg, g, rfl, _, hg, _⟩ := arg_list (m := 3) (E := prE) (Ok := fun _ => True) u37 (by kernel_rfl) (fun x hx => rd_pr (m := 1) hx) hy
  have e1 : reachBytes = 140737488351232 := by kernel_rfl
  rw [show Tryz.prog.bytesOf 40 = 16 by kernel_rfl, e1] at hs hg
  exact callL_some (fn6 bs bg s g (by omega) (by omega) [])

set_option maxRecDepth 100000 in
theorem tapTrips_lifted (os : Os) (started : os.Started) (H : Type) (enc : TypeId × Value → H) :
    ReturnsInHanded {} Tryz.checked os 6 .any (fun w args => (Rows.tapTripsSpec.pre enc Tryz.prog Tryz.f6 [] false w args ∧ laidMetH Tryz.prog Rows.tapTripsRow.laid w) ∧ sizedMet enc Tryz.prog Tryz.f6 (OpenSpec.ofChange Rows.tapTripsSpec) false w args)
      (Rows.tapTripsSpec.post enc Tryz.prog Tryz.f6 false true false false) := by
  refine returnsInHanded_of_change_and (C := Tryz.checked) (X := fun w _ => laidMetH Tryz.prog Rows.tapTripsRow.laid w) (fun _ _ _ hh h => h.of_heap hh) own started (by kernel_rfl) Tryz.func6
    (ChangeSpec.witness_shaped (enc := enc) (C := Tryz.checked) (os := os) (X := fun w _ => laidMetH Tryz.prog Rows.tapTripsRow.laid w) false (World.laidAll Tryz.prog os Rows.tapTripsRow.laid) #[.slice none 0 0, .slice none 0 0] 8 (World.laidAll_os _ _ _) (World.shaped_of_ZipB (by kernel_rfl) (by kernel_rfl)) (by kernel_rfl) (by kernel_rfl) (by kernel_rfl) (by rw [MakeChecks.laidMetH_plain _ _ _ (by kernel_rfl)]; exact laidMet_laidAll _ (by kernel_rfl) (by kernel_rfl))) ?_
  intro W base args ds gs before hval0 hW hcnd hsz0 _ _
  have hsz : (DataW.weightsEach Tryz.prog (Tryz.f6.params.toList ++ Rows.tapTripsSpec.plain.varTypes Tryz.prog) (ds ++ gs)).all (· ≤ reachBytes) = true := hsz0
  have hval : ∀ (j : Nat) t v, Tryz.f6.params[j]? = some t → args[j]? = some v → Value.okWide Tryz.prog W .any base t v := hval0
  have hW' := hW
  obtain ⟨p, q, hA0, hV, rfl, hfz, hnd⟩ := hW
  have hA : DataW.TrodAll enc Tryz.prog W 0 (fun _ => true) true Tryz.f6.params.toList args.toList ds p := hA0
  obtain ⟨rfl, rfl⟩ := trodVars_none hV
  have hw : ∀ x ∈ DataW.weightsEach Tryz.prog Tryz.f6.params.toList ds, x ≤ reachBytes := by
    have e : Tryz.f6.params.toList ++ Rows.tapTripsSpec.plain.varTypes Tryz.prog = Tryz.f6.params.toList := by kernel_rfl
    rw [e, List.append_nil] at hsz
    simpa using hsz
  refine (law_calls (m := 4) mixed noNum pr_ok Tryz.func6 rfl (by kernel_rfl) trips_law hA (fun i t v h1 h2 => hval i t v (by simpa using h1) h2) hw).mono fun e W' ⟨he, bel⟩ => ?_
  subst he
  have hback := trodAll_below laidOut bel (by kernel_rfl) hA
  rw [Tryz.params6] at hA
  obtain ⟨v0, vs0, d0, ds0, p0, q0, hargs0, rfl, rfl, h0, r0⟩ := trodAll_cons hA
  obtain ⟨v1, vs1, d1, ds1, p1, q1, hargs1, rfl, rfl, h1, r1⟩ := trodAll_cons r0
  obtain ⟨rfl, rfl, rfl⟩ := trodAll_nil r1
  exact ⟨_, rfl, _, _, _, [], _, [], hW', trodAll_mk1 (shut_bool Tryz.underlying4 _), hback, rfl, bel.frame _, fun h => by cases h⟩

theorem tapTrips_row : Rows.TapTripsSaid :=
  OpenClaim.holds_of_wide 6 Tryz.f6 rfl rfl rfl rfl rfl rfl rfl ⟨rfl, rfl, rfl, rfl, rfl⟩ rfl rfl rfl rfl rfl (by kernel_rfl) Tryz.func6 (by kernel_rfl)
    (of_decide_eq_true (by kernel_rfl)) (by unfold Func.isWrapper; first | (rw [if_pos (by decide +kernel)]; kernel_rfl) | (rw [if_neg (by decide +kernel)]; exact ⟨rfl, rfl⟩))
    (fun os started H enc _ => tapTrips_lifted os started H enc)
theorem tapTrips_holds : Rows.TapTripsCardSaid :=
  Claim7.holds_tied_plain_at .later [] [.data, .data, .data] true (true, "e52f315291b9b8f62d816419d89c1c73e901d276f5233db27ffa9eb1027d8870") false
    tapTrips_row (fun _ h => by cases h) (by kernel_rfl) (fun _ h => by cases h) tapTrips_row_tie rfl ⟨rfl, rfl⟩ (by kernel_rfl) rfl
    (fun f fn hf hfn => by
      obtain rfl : f = 6 := Option.some.inj ((show Tryz.prog.funcNamed "wireglass/wireglasslaw23.TapTrips" = some 6 by kernel_rfl).symm.trans hf) |>.symm
      obtain rfl : fn = Tryz.f6 := (Option.some.inj (Tryz.func6.symm.trans hfn)).symm
      exact ⟨by kernel_rfl, fun j t ht => by
        rw [Tryz.params6] at ht
        have hm : t ∈ [37, 37] := by simpa using Array.mem_of_getElem? ht
        have hall : ([37, 37].all fun u => !Tryz.prog.wantsStandIn u) = true := by kernel_rfl
        exact (show Tryz.prog.wantsStandIn t = false by simpa using List.all_eq_true.1 hall t hm)⟩)
    (by kernel_rfl)
end Go.Proofs.YteeofpgnjekeaaaGreatDoor
