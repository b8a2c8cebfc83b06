/-
  Proved: into which pieces bytes are cut, for all numbers and bytes: 'FragCuts' returns true whatever the input, and the input reads as before.
-/
import Derived.Test.YtdpdlobaabcjjabFragH
import Derived.ProofKit
import Derived.OpenShut
import Derived.ShutString
import Derived.ChangeOld
import Derived.Below
import Derived.SizedLaws
namespace Go.Proofs.Ytdpdlobaabcjjab
open Go Go.Am Go.ChangeShapes Go.WideShapes Go.ChangeAt Go.RowKit

set_option maxRecDepth 100000 in
theorem cuts_law (H : Hp) (xs : List V) (_ : AllShared H) (h : ArgsT Try.prog H 4 [3, 25, 39] xs) : ∃ n H', callN Try.prog pr n 6 xs H = some (.bool true, H') := by
  obtain ⟨x1, l1, rfl, h1, k1⟩ := args_cons h
  obtain ⟨x2, l2, rfl, h2, k2⟩ := args_cons k1
  obtain ⟨x3, l3, rfl, h3, k3⟩ := args_cons k2
  obtain rfl := args_nil k3
  obtain ⟨id, rfl, hid⟩ := arg_i64 (m := 3) u3 h1
  obtain ⟨B, _, hs, _, hb, _⟩ := arg_list (m := 3) (enc := byC) (Ok := fun _ => True) u25 (sz := 1) (by kernel_rfl) byC_len (fun x hx => let ⟨n, e⟩ := rd_u8 (m := 2) u5 hx; ⟨n, e, trivial⟩) h2
  obtain ⟨xss, rfl, hn, hx⟩ := arg_arr (m := 3) u39 h3
  obtain ⟨a, b, rfl⟩ : ∃ a b, xss = [a, b] := by
    match xss, hn with
    | [a, b], _ => exact ⟨a, b, rfl⟩
  obtain ⟨z, rfl, hz⟩ := rd_i64 (m := 2) u3 (hx a (by simp)).2
  obtain ⟨t, rfl, ht⟩ := rd_i64 (m := 2) u3 (hx b (by simp)).2
  refine callL_some (fn6 H id z t x2 B hs hid ht ?_)
  have e : Try.prog.bytesOf 5 = 1 := by kernel_rfl
  rw [e] at hb
  simp only [Go.reachBytes] at hb
  omega

set_option maxRecDepth 100000 in
theorem fragCuts_lifted (os : Os) (started : os.Started) (H : Type) (enc : TypeId × Value → H) :
    ReturnsInHanded {} Try.checked os 6 .any (Rows.fragCutsSpec.pre6 enc Try.prog Try.f6 Rows.fragCutsRow.domain false) (Rows.fragCutsSpec.post enc Try.prog Try.f6 false true false false) := by
  refine returnsInHanded_of_change_sized (C := Try.checked) own started (by kernel_rfl) Try.func6
    (ChangeSpec.witness6 (enc := enc) (C := Try.checked) false ⟨#[], #[.int .i64 0, .slice none 0 0, .agg #[.int .i64 0, .int .i64 0]], []⟩ 8 (by kernel_rfl) (by kernel_rfl) (by kernel_rfl) (by kernel_rfl)) ?_
  intro W base args ds gs before hval0 hW hcnd hsz0 _
  have hsz : (DataW.weightsEach Try.prog (Try.f6.params.toList ++ Rows.fragCutsSpec.plain.varTypes Try.prog) (ds ++ gs)).all (· ≤ reachBytes) = true := hsz0
  have hval : ∀ (j : Nat) t v, Try.f6.params[j]? = some t → args[j]? = some v → Value.okWide Try.prog W .any base t v := hval0
  have hW' := hW
  obtain ⟨p, q, hA0, hV, rfl, hfz, hnd⟩ := hW
  have hA : DataW.TrodAll enc Try.prog W 0 (fun _ => true) true Try.f6.params.toList args.toList ds p := hA0
  obtain ⟨rfl, rfl⟩ := trodVars_none hV
  have hw : ∀ x ∈ DataW.weightsEach Try.prog Try.f6.params.toList ds, x ≤ reachBytes := by
    have e : Try.f6.params.toList ++ Rows.fragCutsSpec.plain.varTypes Try.prog = Try.f6.params.toList := by kernel_rfl
    rw [e, List.append_nil] at hsz
    simpa using hsz
  refine (law_calls (m := 4) mixed noNum pr_ok Try.func6 rfl (by kernel_rfl) cuts_law hA (fun i t v h1 h2 => hval i t v (by simpa using h1) h2) hw).mono fun e W' ⟨he, bel⟩ => ?_
  subst he
  have hback := trodAll_below laidOut bel (by kernel_rfl) hA
  rw [Try.params6] at hA
  obtain ⟨v0, vs0, d0, ds0, p0, q0, hargs0, rfl, rfl, h0, r0⟩ := trodAll_cons hA
  obtain ⟨v1, vs1, d1, ds1, p1, q1, hargs1, rfl, rfl, h1, r1⟩ := trodAll_cons r0
  obtain ⟨v2, vs2, d2, ds2, p2, q2, hargs2, rfl, rfl, h2, r2⟩ := trodAll_cons r1
  obtain ⟨rfl, rfl, rfl⟩ := trodAll_nil r2
  exact ⟨_, rfl, _, _, _, [], _, [], hW', trodAll_mk1 (shut_bool Try.underlying4 _), hback, rfl, bel.frame _, fun h => by cases h⟩

theorem fragCuts_holds : Rows.FragCutsSaid :=
  OpenClaim.holds_of_wide 6 Try.f6 rfl rfl rfl rfl rfl rfl rfl ⟨rfl, rfl, rfl, rfl, rfl⟩ rfl rfl rfl rfl rfl (by kernel_rfl) Try.func6 (by kernel_rfl)
    (of_decide_eq_true (by kernel_rfl)) (by unfold Func.isWrapper; first | (rw [if_pos (by decide +kernel)]; kernel_rfl) | (rw [if_neg (by decide +kernel)]; exact ⟨rfl, rfl⟩))
    (fun os started H enc _ => fragCuts_lifted os started H enc)
end Go.Proofs.Ytdpdlobaabcjjab
