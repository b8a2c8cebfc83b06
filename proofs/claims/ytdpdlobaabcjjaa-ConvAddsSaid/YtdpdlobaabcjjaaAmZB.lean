/-
  The abstract machine, part ZB: code in short form is the code; how simp steps through it. No statement of the seat stands here.
-/
import Derived.Test.YtdpdlobaabcjjaaAmZA
import Derived.IntWalk
namespace Go.Am
open Go

section
variable {P : Program} {Pr : Prims} {N : Nat}
theorem Big_code {c : Cc} {s s' : St} {e : Ex} (h : Big P (callL P Pr) N c s e s') : ∀ code, compC P code = some c → codeL P Pr N code s = some (e, s') := by
  induction h with
  | skip s =>
    intro code hc
    cases code <;> simp only [compC] at hc <;> try cases hc
    · rw [codeL_eq]; rfl
    · obtain ⟨_, _, e⟩ := Option.map_eq_some_iff.1 hc; cases e
    · obtain ⟨_, _, hc⟩ := Option.bind_eq_some_iff.1 hc; obtain ⟨_, _, e⟩ := Option.map_eq_some_iff.1 hc; cases e
    · obtain ⟨_, _, hc⟩ := Option.bind_eq_some_iff.1 hc; obtain ⟨_, _, e⟩ := Option.map_eq_some_iff.1 hc; cases e
    · obtain ⟨_, _, e⟩ := Option.map_eq_some_iff.1 hc; cases e
    · obtain ⟨_, _, e⟩ := Option.map_eq_some_iff.1 hc; cases e
  | reg l s s' hw =>
    intro code hc
    cases code <;> simp only [compC] at hc <;> try cases hc
    · rename_i id ops draw
      obtain ⟨l', h1, e⟩ := Option.map_eq_some_iff.1 hc
      injection e with e
      subst e
      rw [codeL_eq]
      unfold compR at h1
      simp only [codeF]
      split at h1
      · rename_i hd
        split at h1
        · rename_i hok
          obtain ⟨hok, hearly⟩ := hok
          obtain ⟨_, tr, h2, _, h3⟩ := W_trace h1 hw
          rw [if_pos hd, if_pos hok, h2]
          simp only [Option.bind_some]
          rw [if_pos]
          refine dyn_of (n := s.H.length) hearly fun j o hj => ?_
          obtain ⟨s1, s2, h4, h5, h6, h7⟩ := h3 j o hj
          rw [Nat.zero_add] at h6 h7
          exact ⟨s1, s2, h4, h5, h6, h7⟩
        · cases h1
      · rename_i hd
        obtain ⟨h2, _⟩ := W_trace h1 hw
        rw [if_neg hd, h2]
        rfl
    · obtain ⟨_, _, hc⟩ := Option.bind_eq_some_iff.1 hc; obtain ⟨_, _, e⟩ := Option.map_eq_some_iff.1 hc; cases e
    · obtain ⟨_, _, hc⟩ := Option.bind_eq_some_iff.1 hc; obtain ⟨_, _, e⟩ := Option.map_eq_some_iff.1 hc; cases e
    · obtain ⟨_, _, e⟩ := Option.map_eq_some_iff.1 hc; cases e
    · obtain ⟨_, _, e⟩ := Option.map_eq_some_iff.1 hc; cases e
  | seq a b s s1 e s' _ _ ih1 ih2 =>
    intro code hc
    cases code <;> simp only [compC] at hc <;> try cases hc
    · obtain ⟨_, _, e⟩ := Option.map_eq_some_iff.1 hc; cases e
    · obtain ⟨x, h1, hc⟩ := Option.bind_eq_some_iff.1 hc
      obtain ⟨y, h2, e⟩ := Option.map_eq_some_iff.1 hc
      injection e with e1 e2
      subst e1 e2
      rw [codeL_eq]
      simp only [codeF]
      rw [ih1 _ h1]
      exact ih2 _ h2
    · obtain ⟨_, _, hc⟩ := Option.bind_eq_some_iff.1 hc; obtain ⟨_, _, e⟩ := Option.map_eq_some_iff.1 hc; cases e
    · obtain ⟨_, _, e⟩ := Option.map_eq_some_iff.1 hc; cases e
    · obtain ⟨_, _, e⟩ := Option.map_eq_some_iff.1 hc; cases e
  | seqx a b s e s' _ hne ih1 =>
    intro code hc
    cases code <;> simp only [compC] at hc <;> try cases hc
    · obtain ⟨_, _, e⟩ := Option.map_eq_some_iff.1 hc; cases e
    · obtain ⟨x, h1, hc⟩ := Option.bind_eq_some_iff.1 hc
      obtain ⟨y, h2, e⟩ := Option.map_eq_some_iff.1 hc
      injection e with e1 e2
      subst e1 e2
      rw [codeL_eq]
      simp only [codeF]
      rw [ih1 _ h1]
      cases e with
      | nor => exact absurd rfl hne
      | exit id => rfl
      | ret => rfl
    · obtain ⟨_, _, hc⟩ := Option.bind_eq_some_iff.1 hc; obtain ⟨_, _, e⟩ := Option.map_eq_some_iff.1 hc; cases e
    · obtain ⟨_, _, e⟩ := Option.map_eq_some_iff.1 hc; cases e
    · obtain ⟨_, _, e⟩ := Option.map_eq_some_iff.1 hc; cases e
  | condt c a b s e s' hv _ ih1 =>
    intro code hc
    cases code <;> simp only [compC] at hc <;> try cases hc
    · obtain ⟨_, _, e⟩ := Option.map_eq_some_iff.1 hc; cases e
    · obtain ⟨_, _, hc⟩ := Option.bind_eq_some_iff.1 hc; obtain ⟨_, _, e⟩ := Option.map_eq_some_iff.1 hc; cases e
    · obtain ⟨x, h1, hc⟩ := Option.bind_eq_some_iff.1 hc
      obtain ⟨y, h2, e⟩ := Option.map_eq_some_iff.1 hc
      injection e with e0 e1 e2
      subst e0 e1 e2
      rw [codeL_eq]
      simp only [codeF]
      rw [hv]
      exact ih1 _ h1
    · obtain ⟨_, _, e⟩ := Option.map_eq_some_iff.1 hc; cases e
    · obtain ⟨_, _, e⟩ := Option.map_eq_some_iff.1 hc; cases e
  | condf c a b s e s' hv _ ih1 =>
    intro code hc
    cases code <;> simp only [compC] at hc <;> try cases hc
    · obtain ⟨_, _, e⟩ := Option.map_eq_some_iff.1 hc; cases e
    · obtain ⟨_, _, hc⟩ := Option.bind_eq_some_iff.1 hc; obtain ⟨_, _, e⟩ := Option.map_eq_some_iff.1 hc; cases e
    · obtain ⟨x, h1, hc⟩ := Option.bind_eq_some_iff.1 hc
      obtain ⟨y, h2, e⟩ := Option.map_eq_some_iff.1 hc
      injection e with e0 e1 e2
      subst e0 e1 e2
      rw [codeL_eq]
      simp only [codeF]
      rw [hv]
      exact ih1 _ h2
    · obtain ⟨_, _, e⟩ := Option.map_eq_some_iff.1 hc; cases e
    · obtain ⟨_, _, e⟩ := Option.map_eq_some_iff.1 hc; cases e
  | block id b s e s' _ hne ih1 =>
    intro code hc
    cases code <;> simp only [compC] at hc <;> try cases hc
    · obtain ⟨_, _, e⟩ := Option.map_eq_some_iff.1 hc; cases e
    · obtain ⟨_, _, hc⟩ := Option.bind_eq_some_iff.1 hc; obtain ⟨_, _, e⟩ := Option.map_eq_some_iff.1 hc; cases e
    · obtain ⟨_, _, hc⟩ := Option.bind_eq_some_iff.1 hc; obtain ⟨_, _, e⟩ := Option.map_eq_some_iff.1 hc; cases e
    · obtain ⟨x, h1, e⟩ := Option.map_eq_some_iff.1 hc
      injection e with e0 e1
      subst e0 e1
      rw [codeL_eq]
      simp only [codeF]
      rw [ih1 _ h1]
      cases e with
      | nor => rfl
      | ret => rfl
      | exit j =>
        simp only [Option.map_some]
        rw [if_neg fun e => hne (by rw [e])]
    · obtain ⟨_, _, e⟩ := Option.map_eq_some_iff.1 hc; cases e
  | blockx id b s s' _ ih1 =>
    intro code hc
    cases code <;> simp only [compC] at hc <;> try cases hc
    · obtain ⟨_, _, e⟩ := Option.map_eq_some_iff.1 hc; cases e
    · obtain ⟨_, _, hc⟩ := Option.bind_eq_some_iff.1 hc; obtain ⟨_, _, e⟩ := Option.map_eq_some_iff.1 hc; cases e
    · obtain ⟨_, _, hc⟩ := Option.bind_eq_some_iff.1 hc; obtain ⟨_, _, e⟩ := Option.map_eq_some_iff.1 hc; cases e
    · obtain ⟨x, h1, e⟩ := Option.map_eq_some_iff.1 hc
      injection e with e0 e1
      subst e0 e1
      rw [codeL_eq]
      simp only [codeF]
      rw [ih1 _ h1]
      simp only [Option.map_some, if_true]
    · obtain ⟨_, _, e⟩ := Option.map_eq_some_iff.1 hc; cases e
  | loop b s s1 e s' _ _ ih1 ih2 =>
    intro code hc
    cases code <;> simp only [compC] at hc <;> try cases hc
    · obtain ⟨_, _, e⟩ := Option.map_eq_some_iff.1 hc; cases e
    · obtain ⟨_, _, hc⟩ := Option.bind_eq_some_iff.1 hc; obtain ⟨_, _, e⟩ := Option.map_eq_some_iff.1 hc; cases e
    · obtain ⟨_, _, hc⟩ := Option.bind_eq_some_iff.1 hc; obtain ⟨_, _, e⟩ := Option.map_eq_some_iff.1 hc; cases e
    · obtain ⟨_, _, e⟩ := Option.map_eq_some_iff.1 hc; cases e
    · rename_i body
      have hc' := hc
      obtain ⟨x, h1, e⟩ := Option.map_eq_some_iff.1 hc
      injection e with e1
      subst e1
      rw [codeL_eq]
      simp only [codeF]
      rw [ih1 _ h1]
      exact ih2 (.loop body) hc'
  | loopx b s e s' _ hne ih1 =>
    intro code hc
    cases code <;> simp only [compC] at hc <;> try cases hc
    · obtain ⟨_, _, e⟩ := Option.map_eq_some_iff.1 hc; cases e
    · obtain ⟨_, _, hc⟩ := Option.bind_eq_some_iff.1 hc; obtain ⟨_, _, e⟩ := Option.map_eq_some_iff.1 hc; cases e
    · obtain ⟨_, _, hc⟩ := Option.bind_eq_some_iff.1 hc; obtain ⟨_, _, e⟩ := Option.map_eq_some_iff.1 hc; cases e
    · obtain ⟨_, _, e⟩ := Option.map_eq_some_iff.1 hc; cases e
    · obtain ⟨x, h1, e⟩ := Option.map_eq_some_iff.1 hc
      injection e with e1
      subst e1
      rw [codeL_eq]
      simp only [codeF]
      rw [ih1 _ h1]
      cases e with
      | nor => exact absurd rfl hne
      | exit id => rfl
      | ret => rfl
  | exit id s =>
    intro code hc
    cases code <;> simp only [compC] at hc <;> try cases hc
    · obtain ⟨_, _, e⟩ := Option.map_eq_some_iff.1 hc; cases e
    · obtain ⟨_, _, hc⟩ := Option.bind_eq_some_iff.1 hc; obtain ⟨_, _, e⟩ := Option.map_eq_some_iff.1 hc; cases e
    · obtain ⟨_, _, hc⟩ := Option.bind_eq_some_iff.1 hc; obtain ⟨_, _, e⟩ := Option.map_eq_some_iff.1 hc; cases e
    · obtain ⟨_, _, e⟩ := Option.map_eq_some_iff.1 hc; cases e
    · obtain ⟨_, _, e⟩ := Option.map_eq_some_iff.1 hc; cases e
    · rw [codeL_eq]; rfl
  | ret s =>
    intro code hc
    cases code <;> simp only [compC] at hc <;> try cases hc
    · obtain ⟨_, _, e⟩ := Option.map_eq_some_iff.1 hc; cases e
    · obtain ⟨_, _, hc⟩ := Option.bind_eq_some_iff.1 hc; obtain ⟨_, _, e⟩ := Option.map_eq_some_iff.1 hc; cases e
    · obtain ⟨_, _, hc⟩ := Option.bind_eq_some_iff.1 hc; obtain ⟨_, _, e⟩ := Option.map_eq_some_iff.1 hc; cases e
    · obtain ⟨_, _, e⟩ := Option.map_eq_some_iff.1 hc; cases e
    · obtain ⟨_, _, e⟩ := Option.map_eq_some_iff.1 hc; cases e
    · rw [codeL_eq]; rfl

/-- What a function's end asks. -/
def RetQ (P : Program) (rs : List ResultVar) (R : V → Hp → Prop) : Ex → Fr → Dfr → Hp → Prop
  | .exit _, _, _, _ => False
  | _, T, D, H => D = [] ∧ bindW ((mapO (resV P H T) rs).bind tupV) fun v => R v H
theorem call_of {k n : Nat} {fn : Func} {code : Code} {c : Cc} (hp : Pr.call k = none) (hf : P.funcs[k]? = some fn) (hb : fn.body = some code) (hc : compC P code = some c) {rs : List ResultVar} (hr : fn.results.toList = rs) {args : List V} (hn : max args.length fn.ntmps = n) {H : Hp} {R : V → Hp → Prop}
    (h : Wp P (callL P Pr) n c args [] H (RetQ P rs R)) : ∃ v H', R v H' ∧ callL P Pr k args H = some (Pr.gc H (v, H')) := by
  obtain ⟨e, s', h1, h2⟩ := h
  have hrun := Big_code h1 code hc
  cases e with
  | exit id => exact h2.elim
  | nor =>
    obtain ⟨hD, v, hv, hR⟩ := h2
    refine ⟨v, s'.H, hR, ?_⟩
    rw [callL_eq]
    unfold callF
    simp only [hp, hf, hb, Option.bind_some, hn, hrun, hD, defersV]
    unfold resultsV
    rw [hr, hv]
    rfl
  | ret =>
    obtain ⟨hD, v, hv, hR⟩ := h2
    refine ⟨v, s'.H, hR, ?_⟩
    rw [callL_eq]
    unfold callF
    simp only [hp, hf, hb, Option.bind_some, hn, hrun, hD, defersV]
    unfold resultsV
    rw [hr, hv]
    rfl
end
end Go.Am
