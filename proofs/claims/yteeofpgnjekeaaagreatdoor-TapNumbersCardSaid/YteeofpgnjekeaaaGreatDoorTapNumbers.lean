/-
  Proved: the smoothed numbers, how many are between bounds, and the quantiles, for all numbers: 'TapNumbers' returns true whatever the input, and the input reads as before.
-/
import Derived.Test.YteeofpgnjekeaaaGreatDoorP6
import Derived.ProofKit
import Derived.OpenShut
import Derived.ShutString
import Derived.ChangeOld
import Derived.Below
import Derived.SizedLaws
import Derived.LaidMore
import Derived.Lay
import Derived.Stop.Joined
import Derived.SevenTiedAt
import Derived.Test.YteeofpgnjekeaaaGreatDoorCards
import Derived.Test.YteeofpgnjekeaaaGreatDoorTie
namespace Go.Proofs.YteeofpgnjekeaaaGreatDoor
open Go Go.An Go.ChangeShapes Go.WideShapes Go.ChangeAt Go.RowKit

set_option maxRecDepth 100000 in
theorem numbers_law (xs : List V) (h : ArgsT Tryz.prog 3 [27, 27, 32] xs) : ∃ n H', callN Tryz.prog pr n 9 xs [] = some (.bool true, H') := by
  obtain ⟨x, l, rfl, hx, hl⟩ := args_cons h
  obtain ⟨y, l', rfl, hy, hl'⟩ := args_cons hl
  obtain ⟨z, l'', rfl, hz, hl''⟩ := args_cons hl'
  obtain rfl := args_nil hl''
  obtain ⟨bt, t, rfl, _, ht, _⟩ := arg_ints (m := 1) u27 u3 (by kernel_rfl) hx
  obtain ⟨bv, v, rfl, _, hv, _⟩ := arg_ints (m := 1) u27 u3 (by kernel_rfl) hy
  obtain ⟨xss, rfl, hl3, hr⟩ := arg_arr (m := 2) u32 hz
  match xss, hl3 with
  | [a, b, c], _ =>
    obtain ⟨w, rfl, _⟩ := rd_i64 (m := 1) u3 (hr a (by simp)).2
    obtain ⟨f, rfl, _⟩ := rd_i64 (m := 1) u3 (hr b (by simp)).2
    obtain ⟨how, rfl, _⟩ := rd_i64 (m := 1) u3 (hr c (by simp)).2
    have e1 : reachBytes = 140737488351232 := by kernel_rfl
    rw [show Tryz.prog.bytesOf 3 = 8 by kernel_rfl, e1] at ht hv
    exact callL_some (fn9 bt bv t v w f how (by omega) (by omega) [])

set_option maxRecDepth 100000 in
theorem tapNumbers_lifted (os : Os) (started : os.Started) (H : Type) (enc : TypeId × Value → H) :
    ReturnsInHanded {} Tryz.checked os 9 .any (fun w args => (Rows.tapNumbersSpec.pre enc Tryz.prog Tryz.f9 [] false w args ∧ laidMetH Tryz.prog Rows.tapNumbersRow.laid w) ∧ sizedMet enc Tryz.prog Tryz.f9 (OpenSpec.ofChange Rows.tapNumbersSpec) false w args)
      (Rows.tapNumbersSpec.post enc Tryz.prog Tryz.f9 false true false false) := by
  refine returnsInHanded_of_change_and (C := Tryz.checked) (X := fun w _ => laidMetH Tryz.prog Rows.tapNumbersRow.laid w) (fun _ _ _ hh h => h.of_heap hh) own started (by kernel_rfl) Tryz.func9
    (ChangeSpec.witness_shaped (enc := enc) (C := Tryz.checked) (os := os) (X := fun w _ => laidMetH Tryz.prog Rows.tapNumbersRow.laid w) false (World.laidAll Tryz.prog os Rows.tapNumbersRow.laid) #[.slice none 0 0, .slice none 0 0, .agg #[.int .i64 0, .int .i64 0, .int .i64 0]] 8 (World.laidAll_os _ _ _) (World.shaped_of_ZipB (by kernel_rfl) (by kernel_rfl)) (by kernel_rfl) (by kernel_rfl) (by kernel_rfl) (by rw [MakeChecks.laidMetH_plain _ _ _ (by kernel_rfl)]; exact laidMet_laidAll _ (by kernel_rfl) (by kernel_rfl))) ?_
  intro W base args ds gs before hval0 hW hcnd hsz0 _ _
  have hsz : (DataW.weightsEach Tryz.prog (Tryz.f9.params.toList ++ Rows.tapNumbersSpec.plain.varTypes Tryz.prog) (ds ++ gs)).all (· ≤ reachBytes) = true := hsz0
  have hval : ∀ (j : Nat) t v, Tryz.f9.params[j]? = some t → args[j]? = some v → Value.okWide Tryz.prog W .any base t v := hval0
  have hW' := hW
  obtain ⟨p, q, hA0, hV, rfl, hfz, hnd⟩ := hW
  have hA : DataW.TrodAll enc Tryz.prog W 0 (fun _ => true) true Tryz.f9.params.toList args.toList ds p := hA0
  obtain ⟨rfl, rfl⟩ := trodVars_none hV
  have hw : ∀ x ∈ DataW.weightsEach Tryz.prog Tryz.f9.params.toList ds, x ≤ reachBytes := by
    have e : Tryz.f9.params.toList ++ Rows.tapNumbersSpec.plain.varTypes Tryz.prog = Tryz.f9.params.toList := by kernel_rfl
    rw [e, List.append_nil] at hsz
    simpa using hsz
  refine (law_calls (m := 3) mixed noNum pr_ok Tryz.func9 rfl (by kernel_rfl) numbers_law hA (fun i t v h1 h2 => hval i t v (by simpa using h1) h2) hw).mono fun e W' ⟨he, bel⟩ => ?_
  subst he
  have hback := trodAll_below laidOut bel (by kernel_rfl) hA
  rw [Tryz.params9] at hA
  obtain ⟨v0, vs0, d0, ds0, p0, q0, hargs0, rfl, rfl, h0, r0⟩ := trodAll_cons hA
  obtain ⟨v1, vs1, d1, ds1, p1, q1, hargs1, rfl, rfl, h1, r1⟩ := trodAll_cons r0
  obtain ⟨v2, vs2, d2, ds2, p2, q2, hargs2, rfl, rfl, h2, r2⟩ := trodAll_cons r1
  obtain ⟨rfl, rfl, rfl⟩ := trodAll_nil r2
  exact ⟨_, rfl, _, _, _, [], _, [], hW', trodAll_mk1 (shut_bool Tryz.underlying4 _), hback, rfl, bel.frame _, fun h => by cases h⟩

theorem tapNumbers_row : Rows.TapNumbersSaid :=
  OpenClaim.holds_of_wide 9 Tryz.f9 rfl rfl rfl rfl rfl rfl rfl ⟨rfl, rfl, rfl, rfl, rfl⟩ rfl rfl rfl rfl rfl (by kernel_rfl) Tryz.func9 (by kernel_rfl)
    (of_decide_eq_true (by kernel_rfl)) (by unfold Func.isWrapper; first | (rw [if_pos (by decide +kernel)]; kernel_rfl) | (rw [if_neg (by decide +kernel)]; exact ⟨rfl, rfl⟩))
    (fun os started H enc _ => tapNumbers_lifted os started H enc)
theorem tapNumbers_holds : Rows.TapNumbersCardSaid :=
  Claim7.holds_tied_plain_at .later [] [.data, .data, .data] true (true, "e52f315291b9b8f62d816419d89c1c73e901d276f5233db27ffa9eb1027d8870") false
    tapNumbers_row (fun _ h => by cases h) (by kernel_rfl) (fun _ h => by cases h) tapNumbers_row_tie rfl ⟨rfl, rfl⟩ (by kernel_rfl) rfl
    (fun f fn hf hfn => by
      obtain rfl : f = 9 := Option.some.inj ((show Tryz.prog.funcNamed "wireglass/wireglasslaw23.TapNumbers" = some 9 by kernel_rfl).symm.trans hf) |>.symm
      obtain rfl : fn = Tryz.f9 := (Option.some.inj (Tryz.func9.symm.trans hfn)).symm
      exact ⟨by kernel_rfl, fun j t ht => by
        rw [Tryz.params9] at ht
        have hm : t ∈ [27, 27, 32] := by simpa using Array.mem_of_getElem? ht
        have hall : ([27, 27, 32].all fun u => !Tryz.prog.wantsStandIn u) = true := by kernel_rfl
        exact (show Tryz.prog.wantsStandIn t = false by simpa using List.all_eq_true.1 hall t hm)⟩)
    (by kernel_rfl)
end Go.Proofs.YteeofpgnjekeaaaGreatDoor
