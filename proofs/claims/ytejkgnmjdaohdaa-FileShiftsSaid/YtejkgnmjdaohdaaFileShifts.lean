/-
  Proved: a capture whose times are moved, and one whose clock went wrong, for all captures and numbers: 'FileShifts' returns true whatever the input, and the input reads as before.
-/
import Derived.Test.YtejkgnmjdaohdaaP7
import Derived.ProofKit
import Derived.OpenShut
import Derived.ShutString
import Derived.ChangeOld
import Derived.Below
import Derived.SizedLaws
namespace Go.Proofs.Ytejkgnmjdaohdaa
open Go Go.An Go.ChangeShapes Go.WideShapes Go.ChangeAt Go.RowKit

set_option maxRecDepth 100000 in
theorem shifts_law (xs : List V) (h : ArgsT Try.prog 5 [31, 3, 71] xs) : ∃ n H', callN Try.prog pr n 12 xs [] = some (.bool true, H') := by
  obtain ⟨x, l, rfl, hx, hl⟩ := args_cons h
  obtain ⟨y, l', rfl, hy, hl'⟩ := args_cons hl
  obtain ⟨z, l'', rfl, hz, hl''⟩ := args_cons hl'
  obtain rfl := args_nil hl''
  obtain ⟨c, rfl, hc⟩ := arg_cap (m := 0) hx
  obtain ⟨b, rfl, _⟩ := arg_i64 (m := 4) u3 hy
  obtain ⟨xss, rfl, hn, hxs⟩ := arg_arr (m := 4) u71 hz
  obtain ⟨p, q, r, s, rfl⟩ : ∃ p q r s, xss = [p, q, r, s] := by
    rcases xss with _ | ⟨p, _ | ⟨q, _ | ⟨r, _ | ⟨s, _ | ⟨_, _⟩⟩⟩⟩⟩ <;> simp at hn
    exact ⟨p, q, r, s, rfl⟩
  obtain ⟨v1, rfl, _⟩ := rd_i64 (m := 3) u3 (hxs p (by simp)).2
  obtain ⟨v2, rfl, _⟩ := rd_i64 (m := 3) u3 (hxs q (by simp)).2
  obtain ⟨v3, rfl, _⟩ := rd_i64 (m := 3) u3 (hxs r (by simp)).2
  obtain ⟨v4, rfl, _⟩ := rd_i64 (m := 3) u3 (hxs s (by simp)).2
  exact callL_some (fn12 c hc b v1 v2 v3 v4 [])

set_option maxRecDepth 100000 in
theorem fileShifts_lifted (os : Os) (started : os.Started) (H : Type) (enc : TypeId × Value → H) :
    ReturnsInHanded {} Try.checked os 12 .any (Rows.fileShiftsSpec.pre6 enc Try.prog Try.f12 Rows.fileShiftsRow.domain false) (Rows.fileShiftsSpec.post enc Try.prog Try.f12 false true false false) := by
  refine returnsInHanded_of_change_sized (C := Try.checked) own started (by kernel_rfl) Try.func12
    (ChangeSpec.witness6 (enc := enc) (C := Try.checked) false ⟨#[], #[.agg #[.string ByteArray.empty, .slice none 0 0, .slice none 0 0, .slice none 0 0, .slice none 0 0], .int .i64 0, .agg #[.int .i64 0, .int .i64 0, .int .i64 0, .int .i64 0]], []⟩ 8 (by kernel_rfl) (by kernel_rfl) (by kernel_rfl) (by kernel_rfl)) ?_
  intro W base args ds gs before hval0 hW hcnd hsz0 _
  have hsz : (DataW.weightsEach Try.prog (Try.f12.params.toList ++ Rows.fileShiftsSpec.plain.varTypes Try.prog) (ds ++ gs)).all (· ≤ reachBytes) = true := hsz0
  have hval : ∀ (j : Nat) t v, Try.f12.params[j]? = some t → args[j]? = some v → Value.okWide Try.prog W .any base t v := hval0
  have hW' := hW
  obtain ⟨p, q, hA0, hV, rfl, hfz, hnd⟩ := hW
  have hA : DataW.TrodAll enc Try.prog W 0 (fun _ => true) true Try.f12.params.toList args.toList ds p := hA0
  obtain ⟨rfl, rfl⟩ := trodVars_none hV
  have hw : ∀ x ∈ DataW.weightsEach Try.prog Try.f12.params.toList ds, x ≤ reachBytes := by
    have e : Try.f12.params.toList ++ Rows.fileShiftsSpec.plain.varTypes Try.prog = Try.f12.params.toList := by kernel_rfl
    rw [e, List.append_nil] at hsz
    simpa using hsz
  refine (law_calls (m := 5) mixed noNum pr_ok Try.func12 rfl (by kernel_rfl) shifts_law hA (fun i t v h1 h2 => hval i t v (by simpa using h1) h2) hw).mono fun e W' ⟨he, bel⟩ => ?_
  subst he
  have hback := trodAll_below laidOut bel (by kernel_rfl) hA
  rw [Try.params12] at hA
  obtain ⟨v0, vs0, d0, ds0, p0, q0, hargs0, rfl, rfl, h0, r0⟩ := trodAll_cons hA
  obtain ⟨v1, vs1, d1, ds1, p1, q1, hargs1, rfl, rfl, h1, r1⟩ := trodAll_cons r0
  obtain ⟨v2, vs2, d2, ds2, p2, q2, hargs2, rfl, rfl, h2, r2⟩ := trodAll_cons r1
  obtain ⟨rfl, rfl, rfl⟩ := trodAll_nil r2
  exact ⟨_, rfl, _, _, _, [], _, [], hW', trodAll_mk1 (shut_bool Try.underlying4 _), hback, rfl, bel.frame _, fun h => by cases h⟩

theorem fileShifts_holds : Rows.FileShiftsSaid :=
  OpenClaim.holds_of_wide 12 Try.f12 rfl rfl rfl rfl rfl rfl rfl ⟨rfl, rfl, rfl, rfl, rfl⟩ rfl rfl rfl rfl rfl (by kernel_rfl) Try.func12 (by kernel_rfl)
    (of_decide_eq_true (by kernel_rfl)) (by unfold Func.isWrapper; first | (rw [if_pos (by decide +kernel)]; kernel_rfl) | (rw [if_neg (by decide +kernel)]; exact ⟨rfl, rfl⟩))
    (fun os started H enc _ => fileShifts_lifted os started H enc)
end Go.Proofs.Ytejkgnmjdaohdaa
