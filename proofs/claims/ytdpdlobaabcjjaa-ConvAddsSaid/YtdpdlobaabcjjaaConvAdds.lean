/-
  Proved: what two lists of conversations are together, for the conversations of all messages, in one of which any number may be another one: 'ConvAdds' returns true whatever the input, and the input reads as before.
-/
import Derived.Test.YtdpdlobaabcjjaaSumN
import Derived.ProofKit
import Derived.OpenShut
import Derived.ShutString
import Derived.ChangeOld
import Derived.Below
import Derived.SizedLaws
namespace Go.Proofs.Ytdpdlobaabcjjaa
open Go Go.Am Go.ChangeShapes Go.WideShapes Go.ChangeAt Go.RowKit

set_option maxRecDepth 100000 in
theorem adds_law (H : Hp) (xs : List V) (_ : AllShared H) (h : ArgsT Try.prog H 4 [34, 34, 35] xs) : ∃ n H', callN Try.prog pr n 4 xs H = some (.bool true, H') := by
  obtain ⟨x1, l1, rfl, h1, k1⟩ := args_cons h
  obtain ⟨x2, l2, rfl, h2, k2⟩ := args_cons k1
  obtain ⟨x3, l3, rfl, h3, k3⟩ := args_cons k2
  obtain rfl := args_nil k3
  obtain ⟨t1, hs1, -⟩ := arg_talks (m := 1) h1
  obtain ⟨t2, hs2, -⟩ := arg_talks (m := 1) h2
  obtain ⟨xss, rfl, hn, hx⟩ := arg_arr (m := 3) u35 h3
  obtain ⟨a, b, c, rfl⟩ : ∃ a b c, xss = [a, b, c] := by
    match xss, hn with
    | [a, b, c], _ => exact ⟨a, b, c, rfl⟩
  obtain ⟨z1, rfl, -⟩ := rd_i64 (m := 2) u3 (hx a (by simp)).2
  obtain ⟨z2, rfl, -⟩ := rd_i64 (m := 2) u3 (hx b (by simp)).2
  obtain ⟨z3, rfl, -⟩ := rd_i64 (m := 2) u3 (hx c (by simp)).2
  exact callL_some (fn4 H x1 x2 t1 t2 z1 z2 z3 hs1 hs2)

set_option maxRecDepth 100000 in
theorem convAdds_lifted (os : Os) (started : os.Started) (H : Type) (enc : TypeId × Value → H) :
    ReturnsInHanded {} Try.checked os 4 .any (Rows.convAddsSpec.pre6 enc Try.prog Try.f4 Rows.convAddsRow.domain false) (Rows.convAddsSpec.post enc Try.prog Try.f4 false true false false) := by
  refine returnsInHanded_of_change_sized (C := Try.checked) own started (by kernel_rfl) Try.func4
    (ChangeSpec.witness6 (enc := enc) (C := Try.checked) false ⟨#[], #[.slice none 0 0, .slice none 0 0, .agg #[.int .i64 0, .int .i64 0, .int .i64 0]], []⟩ 8 (by kernel_rfl) (by kernel_rfl) (by kernel_rfl) (by kernel_rfl)) ?_
  intro W base args ds gs before hval0 hW hcnd hsz0 _
  have hsz : (DataW.weightsEach Try.prog (Try.f4.params.toList ++ Rows.convAddsSpec.plain.varTypes Try.prog) (ds ++ gs)).all (· ≤ reachBytes) = true := hsz0
  have hval : ∀ (j : Nat) t v, Try.f4.params[j]? = some t → args[j]? = some v → Value.okWide Try.prog W .any base t v := hval0
  have hW' := hW
  obtain ⟨p, q, hA0, hV, rfl, hfz, hnd⟩ := hW
  have hA : DataW.TrodAll enc Try.prog W 0 (fun _ => true) true Try.f4.params.toList args.toList ds p := hA0
  obtain ⟨rfl, rfl⟩ := trodVars_none hV
  have hw : ∀ x ∈ DataW.weightsEach Try.prog Try.f4.params.toList ds, x ≤ reachBytes := by
    have e : Try.f4.params.toList ++ Rows.convAddsSpec.plain.varTypes Try.prog = Try.f4.params.toList := by kernel_rfl
    rw [e, List.append_nil] at hsz
    simpa using hsz
  refine (law_calls (m := 4) mixed noNum pr_ok Try.func4 rfl (by kernel_rfl) adds_law hA (fun i t v h1 h2 => hval i t v (by simpa using h1) h2) hw).mono fun e W' ⟨he, bel⟩ => ?_
  subst he
  have hback := trodAll_below laidOut bel (by kernel_rfl) hA
  rw [Try.params4] at hA
  obtain ⟨v0, vs0, d0, ds0, p0, q0, hargs0, rfl, rfl, h0, r0⟩ := trodAll_cons hA
  obtain ⟨v1, vs1, d1, ds1, p1, q1, hargs1, rfl, rfl, h1, r1⟩ := trodAll_cons r0
  obtain ⟨v2, vs2, d2, ds2, p2, q2, hargs2, rfl, rfl, h2, r2⟩ := trodAll_cons r1
  obtain ⟨rfl, rfl, rfl⟩ := trodAll_nil r2
  exact ⟨_, rfl, _, _, _, [], _, [], hW', trodAll_mk1 (shut_bool Try.underlying4 _), hback, rfl, bel.frame _, fun h => by cases h⟩

theorem convAdds_holds : Rows.ConvAddsSaid :=
  OpenClaim.holds_of_wide 4 Try.f4 rfl rfl rfl rfl rfl rfl rfl ⟨rfl, rfl, rfl, rfl, rfl⟩ rfl rfl rfl rfl rfl (by kernel_rfl) Try.func4 (by kernel_rfl)
    (of_decide_eq_true (by kernel_rfl)) (by unfold Func.isWrapper; first | (rw [if_pos (by decide +kernel)]; kernel_rfl) | (rw [if_neg (by decide +kernel)]; exact ⟨rfl, rfl⟩))
    (fun os started H enc _ => convAdds_lifted os started H enc)
end Go.Proofs.Ytdpdlobaabcjjaa
