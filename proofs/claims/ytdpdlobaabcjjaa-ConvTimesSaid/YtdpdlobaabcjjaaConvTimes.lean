/-
  Proved: how many times there are, the least, the greatest and the average, for all of them: 'ConvTimes' returns true whatever the input, and the input reads as before.
-/
import Derived.Test.YtdpdlobaabcjjaaConvC
import Derived.ProofKit
import Derived.OpenShut
import Derived.ShutString
import Derived.ChangeOld
import Derived.Below
import Derived.SizedLaws
namespace Go.Proofs.Ytdpdlobaabcjjaa
open Go Go.Am Go.ChangeShapes Go.WideShapes Go.ChangeAt Go.RowKit

set_option maxRecDepth 100000 in
theorem times_law (H : Hp) (xs : List V) (_ : AllShared H) (h : ArgsT Try.prog H 3 [22] xs) : ∃ n H', callN Try.prog pr n 3 xs H = some (.bool true, H') := by
  obtain ⟨x, l, rfl, hx, hl⟩ := args_cons h
  obtain rfl := args_nil hl
  obtain ⟨l, hs, hm, _⟩ := arg_ints (m := 1) u22 u3 (by kernel_rfl) hx
  exact callL_some (fn3 H x l hs)

set_option maxRecDepth 100000 in
theorem convTimes_lifted (os : Os) (started : os.Started) (H : Type) (enc : TypeId × Value → H) :
    ReturnsInHanded {} Try.checked os 3 .any (Rows.convTimesSpec.pre6 enc Try.prog Try.f3 Rows.convTimesRow.domain false) (Rows.convTimesSpec.post enc Try.prog Try.f3 false true false false) := by
  refine returnsInHanded_of_change_sized (C := Try.checked) own started (by kernel_rfl) Try.func3
    (ChangeSpec.witness6 (enc := enc) (C := Try.checked) false ⟨#[], #[.slice none 0 0], []⟩ 8 (by kernel_rfl) (by kernel_rfl) (by kernel_rfl) (by kernel_rfl)) ?_
  intro W base args ds gs before hval0 hW hcnd hsz0 _
  have hsz : (DataW.weightsEach Try.prog (Try.f3.params.toList ++ Rows.convTimesSpec.plain.varTypes Try.prog) (ds ++ gs)).all (· ≤ reachBytes) = true := hsz0
  have hval : ∀ (j : Nat) t v, Try.f3.params[j]? = some t → args[j]? = some v → Value.okWide Try.prog W .any base t v := hval0
  have hW' := hW
  obtain ⟨p, q, hA0, hV, rfl, hfz, hnd⟩ := hW
  have hA : DataW.TrodAll enc Try.prog W 0 (fun _ => true) true Try.f3.params.toList args.toList ds p := hA0
  obtain ⟨rfl, rfl⟩ := trodVars_none hV
  have hw : ∀ x ∈ DataW.weightsEach Try.prog Try.f3.params.toList ds, x ≤ reachBytes := by
    have e : Try.f3.params.toList ++ Rows.convTimesSpec.plain.varTypes Try.prog = Try.f3.params.toList := by kernel_rfl
    rw [e, List.append_nil] at hsz
    simpa using hsz
  refine (law_calls (m := 3) mixed noNum pr_ok Try.func3 rfl (by kernel_rfl) times_law hA (fun i t v h1 h2 => hval i t v (by simpa using h1) h2) hw).mono fun e W' ⟨he, bel⟩ => ?_
  subst he
  have hback := trodAll_below laidOut bel (by kernel_rfl) hA
  rw [Try.params3] at hA
  obtain ⟨v0, vs0, d0, ds0, p0, q0, hargs0, rfl, rfl, h0, r0⟩ := trodAll_cons hA
  obtain ⟨rfl, rfl, rfl⟩ := trodAll_nil r0
  exact ⟨_, rfl, _, _, _, [], _, [], hW', trodAll_mk1 (shut_bool Try.underlying4 _), hback, rfl, bel.frame _, fun h => by cases h⟩

theorem convTimes_holds : Rows.ConvTimesSaid :=
  OpenClaim.holds_of_wide 3 Try.f3 rfl rfl rfl rfl rfl rfl rfl ⟨rfl, rfl, rfl, rfl, rfl⟩ rfl rfl rfl rfl rfl (by kernel_rfl) Try.func3 (by kernel_rfl)
    (of_decide_eq_true (by kernel_rfl)) (by unfold Func.isWrapper; first | (rw [if_pos (by decide +kernel)]; kernel_rfl) | (rw [if_neg (by decide +kernel)]; exact ⟨rfl, rfl⟩))
    (fun os started H enc _ => convTimes_lifted os started H enc)
end Go.Proofs.Ytdpdlobaabcjjaa
