/-
  Proved: captures put together by time, for all captures and drifts: 'FileMerges' returns true whatever the input, and the input reads as before.
-/
import Derived.Test.YtejkgnmjdaohdaaP7
import Derived.ProofKit
import Derived.OpenShut
import Derived.ShutString
import Derived.ChangeOld
import Derived.Below
import Derived.SizedLaws
namespace Go.Proofs.Ytejkgnmjdaohdaa
open Go Go.An Go.ChangeShapes Go.WideShapes Go.ChangeAt Go.RowKit

set_option maxRecDepth 100000 in
theorem merges_law (xs : List V) (h : ArgsT Try.prog 6 [22, 23] xs) : ∃ n H', callN Try.prog pr n 3 xs [] = some (.bool true, H') := by
  obtain ⟨x, l, rfl, hx, hl⟩ := args_cons h
  obtain ⟨y, l', rfl, hy, hl'⟩ := args_cons hl
  obtain rfl := args_nil hl'
  obtain ⟨b, l, rfl, hok, hlen, _⟩ := arg_list (m := 5) (E := cpE) (Ok := CpOk) u22 (by kernel_rfl) (fun x hx => rd_cpE (m := 5 - 5) (by simpa using hx)) hx
  have h2 : l.length ≤ 2 ^ 41 := by
    have h1 : Try.prog.bytesOf 31 = 112 := by kernel_rfl
    rw [h1] at hlen
    have h3 : reachBytes ≤ 2 ^ 47 := by decide
    omega
  obtain ⟨g, m, rfl, _, hl1, _⟩ := arg_ints (m := 4) u23 u3 (by kernel_rfl) hy
  have h3 : m.length ≤ 2 ^ 47 := by
    have h1 : Try.prog.bytesOf 3 = 8 := by kernel_rfl
    rw [h1] at hl1
    have h3 : reachBytes ≤ 2 ^ 47 := by decide
    omega
  exact callL_some (fn3 hok h2 h3 [])

set_option maxRecDepth 100000 in
theorem fileMerges_lifted (os : Os) (started : os.Started) (H : Type) (enc : TypeId × Value → H) :
    ReturnsInHanded {} Try.checked os 3 .any (Rows.fileMergesSpec.pre6 enc Try.prog Try.f3 Rows.fileMergesRow.domain false) (Rows.fileMergesSpec.post enc Try.prog Try.f3 false true false false) := by
  refine returnsInHanded_of_change_sized (C := Try.checked) own started (by kernel_rfl) Try.func3
    (ChangeSpec.witness6 (enc := enc) (C := Try.checked) false ⟨#[], #[.slice none 0 0, .slice none 0 0], []⟩ 8 (by kernel_rfl) (by kernel_rfl) (by kernel_rfl) (by kernel_rfl)) ?_
  intro W base args ds gs before hval0 hW hcnd hsz0 _
  have hsz : (DataW.weightsEach Try.prog (Try.f3.params.toList ++ Rows.fileMergesSpec.plain.varTypes Try.prog) (ds ++ gs)).all (· ≤ reachBytes) = true := hsz0
  have hval : ∀ (j : Nat) t v, Try.f3.params[j]? = some t → args[j]? = some v → Value.okWide Try.prog W .any base t v := hval0
  have hW' := hW
  obtain ⟨p, q, hA0, hV, rfl, hfz, hnd⟩ := hW
  have hA : DataW.TrodAll enc Try.prog W 0 (fun _ => true) true Try.f3.params.toList args.toList ds p := hA0
  obtain ⟨rfl, rfl⟩ := trodVars_none hV
  have hw : ∀ x ∈ DataW.weightsEach Try.prog Try.f3.params.toList ds, x ≤ reachBytes := by
    have e : Try.f3.params.toList ++ Rows.fileMergesSpec.plain.varTypes Try.prog = Try.f3.params.toList := by kernel_rfl
    rw [e, List.append_nil] at hsz
    simpa using hsz
  refine (law_calls (m := 6) mixed noNum pr_ok Try.func3 rfl (by kernel_rfl) merges_law hA (fun i t v h1 h2 => hval i t v (by simpa using h1) h2) hw).mono fun e W' ⟨he, bel⟩ => ?_
  subst he
  have hback := trodAll_below laidOut bel (by kernel_rfl) hA
  rw [Try.params3] at hA
  obtain ⟨v0, vs0, d0, ds0, p0, q0, hargs0, rfl, rfl, h0, r0⟩ := trodAll_cons hA
  obtain ⟨v1, vs1, d1, ds1, p1, q1, hargs1, rfl, rfl, h1, r1⟩ := trodAll_cons r0
  obtain ⟨rfl, rfl, rfl⟩ := trodAll_nil r1
  exact ⟨_, rfl, _, _, _, [], _, [], hW', trodAll_mk1 (shut_bool Try.underlying4 _), hback, rfl, bel.frame _, fun h => by cases h⟩

theorem fileMerges_holds : Rows.FileMergesSaid :=
  OpenClaim.holds_of_wide 3 Try.f3 rfl rfl rfl rfl rfl rfl rfl ⟨rfl, rfl, rfl, rfl, rfl⟩ rfl rfl rfl rfl rfl (by kernel_rfl) Try.func3 (by kernel_rfl)
    (of_decide_eq_true (by kernel_rfl)) (by unfold Func.isWrapper; first | (rw [if_pos (by decide +kernel)]; kernel_rfl) | (rw [if_neg (by decide +kernel)]; exact ⟨rfl, rfl⟩))
    (fun os started H enc _ => fileMerges_lifted os started H enc)
end Go.Proofs.Ytejkgnmjdaohdaa
