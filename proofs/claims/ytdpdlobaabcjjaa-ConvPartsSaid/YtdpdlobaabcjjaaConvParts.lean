/-
  Proved: that the conversations of two lists one behind the other are those of both put together, for all messages: 'ConvParts' returns true whatever the input, and the input reads as before.
-/
import Derived.Test.YtdpdlobaabcjjaaP5
import Derived.ProofKit
import Derived.OpenShut
import Derived.ShutString
import Derived.ChangeOld
import Derived.Below
import Derived.SizedLaws
namespace Go.Proofs.Ytdpdlobaabcjjaa
open Go Go.Am Go.ChangeShapes Go.WideShapes Go.ChangeAt Go.RowKit

set_option maxRecDepth 100000 in
theorem parts_calls (H : Hp) (xs : List V) (_ : AllShared H) (h : ArgsT Try.prog H 3 [34, 34] xs) : ∃ n H', callN Try.prog pr n 5 xs H = some (.bool true, H') := by
  obtain ⟨x1, l1, rfl, h1, k1⟩ := args_cons h
  obtain ⟨x2, l2, rfl, h2, k2⟩ := args_cons k1
  obtain rfl := args_nil k2
  obtain ⟨t1, hs1, -⟩ := arg_talks (m := 0) h1
  obtain ⟨t2, hs2, -⟩ := arg_talks (m := 0) h2
  exact callL_some (fn5 H x1 x2 t1 t2 hs1 hs2)

set_option maxRecDepth 100000 in
theorem convParts_lifted (os : Os) (started : os.Started) (H : Type) (enc : TypeId × Value → H) :
    ReturnsInHanded {} Try.checked os 5 .any (Rows.convPartsSpec.pre6 enc Try.prog Try.f5 Rows.convPartsRow.domain false) (Rows.convPartsSpec.post enc Try.prog Try.f5 false true false false) := by
  refine returnsInHanded_of_change_sized (C := Try.checked) own started (by kernel_rfl) Try.func5
    (ChangeSpec.witness6 (enc := enc) (C := Try.checked) false ⟨#[], #[.slice none 0 0, .slice none 0 0], []⟩ 8 (by kernel_rfl) (by kernel_rfl) (by kernel_rfl) (by kernel_rfl)) ?_
  intro W base args ds gs before hval0 hW hcnd hsz0 _
  have hsz : (DataW.weightsEach Try.prog (Try.f5.params.toList ++ Rows.convPartsSpec.plain.varTypes Try.prog) (ds ++ gs)).all (· ≤ reachBytes) = true := hsz0
  have hval : ∀ (j : Nat) t v, Try.f5.params[j]? = some t → args[j]? = some v → Value.okWide Try.prog W .any base t v := hval0
  have hW' := hW
  obtain ⟨p, q, hA0, hV, rfl, hfz, hnd⟩ := hW
  have hA : DataW.TrodAll enc Try.prog W 0 (fun _ => true) true Try.f5.params.toList args.toList ds p := hA0
  obtain ⟨rfl, rfl⟩ := trodVars_none hV
  have hw : ∀ x ∈ DataW.weightsEach Try.prog Try.f5.params.toList ds, x ≤ reachBytes := by
    have e : Try.f5.params.toList ++ Rows.convPartsSpec.plain.varTypes Try.prog = Try.f5.params.toList := by kernel_rfl
    rw [e, List.append_nil] at hsz
    simpa using hsz
  refine (law_calls (m := 3) mixed noNum pr_ok Try.func5 rfl (by kernel_rfl) parts_calls hA (fun i t v h1 h2 => hval i t v (by simpa using h1) h2) hw).mono fun e W' ⟨he, bel⟩ => ?_
  subst he
  have hback := trodAll_below laidOut bel (by kernel_rfl) hA
  rw [Try.params5] at hA
  obtain ⟨v0, vs0, d0, ds0, p0, q0, hargs0, rfl, rfl, h0, r0⟩ := trodAll_cons hA
  obtain ⟨v1, vs1, d1, ds1, p1, q1, hargs1, rfl, rfl, h1, r1⟩ := trodAll_cons r0
  obtain ⟨rfl, rfl, rfl⟩ := trodAll_nil r1
  exact ⟨_, rfl, _, _, _, [], _, [], hW', trodAll_mk1 (shut_bool Try.underlying4 _), hback, rfl, bel.frame _, fun h => by cases h⟩

theorem convParts_holds : Rows.ConvPartsSaid :=
  OpenClaim.holds_of_wide 5 Try.f5 rfl rfl rfl rfl rfl rfl rfl ⟨rfl, rfl, rfl, rfl, rfl⟩ rfl rfl rfl rfl rfl (by kernel_rfl) Try.func5 (by kernel_rfl)
    (of_decide_eq_true (by kernel_rfl)) (by unfold Func.isWrapper; first | (rw [if_pos (by decide +kernel)]; kernel_rfl) | (rw [if_neg (by decide +kernel)]; exact ⟨rfl, rfl⟩))
    (fun os started H enc _ => convParts_lifted os started H enc)
end Go.Proofs.Ytdpdlobaabcjjaa
