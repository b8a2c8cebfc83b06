/-
  Proved: what the methods of no stream tell, for all numbers: 'FlowNils' returns true whatever the input, and the input reads as before.
-/
import Derived.Test.YtdadommhekonmaaKnown
import Derived.ProofKit
import Derived.OpenShut
import Derived.ShutString
import Derived.ChangeOld
import Derived.Below
import Derived.SizedLaws
namespace Go.Proofs.Ytdadommhekonmaa
open Go Go.Am Go.ChangeShapes Go.WideShapes Go.ChangeAt Go.RowKit

set_option maxRecDepth 100000 in
theorem flowNils_eval (n0 n1 : Int) : (callN Try.prog primsK 400 8 [.int .i64 n0, .int .i64 n1] []).map (·.1) = some (.bool true) := by kernel_rfl
set_option maxRecDepth 100000 in
theorem flowNils_law (H : Hp) (xs : List V) (h : ArgsT Try.prog H 2 [3, 3] xs) : ∃ n H', callN Try.prog primsK n 8 xs [] = some (.bool true, H') := by
  obtain ⟨x0, l0, rfl, hx0, hl0⟩ := args_cons h
  obtain ⟨x1, l1, rfl, hx1, hl1⟩ := args_cons hl0
  obtain rfl := args_nil hl1
  obtain ⟨n0, rfl, _⟩ := arg_int (m := 1) Try.underlying3 hx0
  obtain ⟨n1, rfl, _⟩ := arg_int (m := 1) Try.underlying3 hx1
  exact run_of (flowNils_eval n0 n1)

set_option maxRecDepth 100000 in
theorem flowNils_lifted (os : Os) (started : os.Started) (H : Type) (enc : TypeId × Value → H) :
    ReturnsInHanded {} Try.checked os 8 .any (Rows.flowNilsSpec.pre6 enc Try.prog Try.f8 Rows.flowNilsRow.domain false) (Rows.flowNilsSpec.post enc Try.prog Try.f8 false true false false) := by
  refine returnsInHanded_of_change_sized (C := Try.checked) own started (by kernel_rfl) Try.func8
    (ChangeSpec.witness6 (enc := enc) (C := Try.checked) false ⟨#[], #[.int .i64 0, .int .i64 0], []⟩ 8 (by kernel_rfl) (by kernel_rfl) (by kernel_rfl) (by kernel_rfl)) ?_
  intro W base args ds gs before hval0 hW hcnd hsz0 _
  have hsz : (DataW.weightsEach Try.prog (Try.f8.params.toList ++ Rows.flowNilsSpec.plain.varTypes Try.prog) (ds ++ gs)).all (· ≤ reachBytes) = true := hsz0
  have hval : ∀ (j : Nat) t v, Try.f8.params[j]? = some t → args[j]? = some v → Value.okWide Try.prog W .any base t v := hval0
  have hW' := hW
  obtain ⟨p, q, hA0, hV, rfl, hfz, hnd⟩ := hW
  have hA : DataW.TrodAll enc Try.prog W 0 (fun _ => true) true Try.f8.params.toList args.toList ds p := hA0
  obtain ⟨rfl, rfl⟩ := trodVars_none hV
  have hw : ∀ x ∈ DataW.weightsEach Try.prog Try.f8.params.toList ds, x ≤ reachBytes := by
    have e : Try.f8.params.toList ++ Rows.flowNilsSpec.plain.varTypes Try.prog = Try.f8.params.toList := by kernel_rfl
    rw [e, List.append_nil] at hsz
    simpa using hsz
  refine (law_calls0 (m := 2) mixed noNum primsK_ok Try.func8 rfl (by kernel_rfl) (by kernel_rfl) flowNils_law hA (fun i t v h1 h2 => hval i t v (by simpa using h1) h2) hw).mono fun e W' ⟨he, bel⟩ => ?_
  subst he
  have hback := trodAll_below laidOut bel (by kernel_rfl) hA
  rw [Try.params8] at hA
  obtain ⟨v0, vs0, d0, ds0, p0, q0, hargs0, rfl, rfl, h0, r0⟩ := trodAll_cons hA
  obtain ⟨v1, vs1, d1, ds1, p1, q1, hargs1, rfl, rfl, h1, r1⟩ := trodAll_cons r0
  obtain ⟨rfl, rfl, rfl⟩ := trodAll_nil r1
  exact ⟨_, rfl, _, _, _, [], _, [], hW', trodAll_mk1 (shut_bool Try.underlying4 _), hback, rfl, bel.frame _, fun h => by cases h⟩

theorem flowNils_holds : Rows.FlowNilsSaid :=
  OpenClaim.holds_of_wide 8 Try.f8 rfl rfl rfl rfl rfl rfl rfl ⟨rfl, rfl, rfl, rfl, rfl⟩ rfl rfl rfl rfl rfl (by kernel_rfl) Try.func8 (by kernel_rfl)
    (of_decide_eq_true (by kernel_rfl)) (by unfold Func.isWrapper; first | (rw [if_pos (by decide +kernel)]; kernel_rfl) | (rw [if_neg (by decide +kernel)]; exact ⟨rfl, rfl⟩))
    (fun os started H enc _ => flowNils_lifted os started H enc)
end Go.Proofs.Ytdadommhekonmaa
