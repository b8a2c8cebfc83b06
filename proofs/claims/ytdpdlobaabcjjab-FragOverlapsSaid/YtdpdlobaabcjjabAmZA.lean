/-
  The abstract machine, part ZA: code in a short form, and its weakest preconditions. No statement of the seat stands here.
-/
import Derived.Test.YtdpdlobaabcjjabAmZ
import Derived.Attr
namespace Go.Am
open Go

/-- An operation in short form; the guard names the slot of its test; what must be still; whose answer must equal itself. -/
structure Co where
  d : Option Nat
  o : Op
  g : Option (Nat × Bool)
  still : Bool
  self : Bool
inductive Cc where
  | skip
  | reg (l : List Co)
  | seq (a b : Cc)
  | cond (c : Operand) (a b : Cc)
  | block (id : Nat) (b : Cc)
  | loop (b : Cc)
  | exit (id : Nat)
  | ret

def gslot (all : List Oper) (o : Oper) : Option (Option (Nat × Bool)) :=
  match o.guard with
  | none => some none
  | some (j, w) => ((all[j]?).bind (·.dst)).map fun d => some (d, w)
def coOf (all : List Oper) (fl : Nat → Bool × Bool) (i : Nat) (o : Oper) : Option Co := (gslot all o).map fun g => ⟨o.dst, o.op, g, (fl i).1, (fl i).2⟩
def compL (all : List Oper) (fl : Nat → Bool × Bool) : Nat → List Oper → Option (List Co)
  | _, [] => some []
  | i, o :: r => (coOf all fl i o).bind fun c => (compL all fl (i + 1) r).map (c :: ·)
def unordP (P : Program) (all : List Oper) : List (Nat × Nat) :=
  let B := befores all
  let n := all.length
  (List.range n).flatMap fun q => (List.range n).filterMap fun e => match all[q]?, all[e]? with
    | some oq, some oe => if kind P oq.op == .read && kind P oe.op == .eff && !(waitsFor B q e) && !(waitsFor B e q) then some (q, e) else none
    | _, _ => none
def flagsOf (pairs : List (Nat × Nat)) (i : Nat) : Bool × Bool := (pairs.any fun p => decide (min p.1 p.2 ≤ i) && decide (i ≤ max p.1 p.2), pairs.any fun p => p.1 == i)
def compR (P : Program) (all : List Oper) (draw : Bool) : Option (List Co) :=
  if draw = true then if drawOk P all = true then compL all (flagsOf (unordP P all)) 0 all else none else compL all (fun _ => (false, false)) 0 all
def compC (P : Program) : Code → Option Cc
  | .skip => some .skip
  | .region _ ops draw => (compR P ops.toList draw).map .reg
  | .seq a b => (compC P a).bind fun x => (compC P b).map (.seq x)
  | .cond c a b => (compC P a).bind fun x => (compC P b).map (.cond c x)
  | .block id b => (compC P b).map (.block id)
  | .loop b => (compC P b).map .loop
  | .exit id => some (.exit id)
  | .ret => some .ret
  | _ => none

def bindW {α : Type} (x : Option α) (k : α → Prop) : Prop := ∃ a, x = some a ∧ k a

abbrev Dfr := List (Nat × List V)
section
variable (P : Program) (cl : CallT) (N : Nat)
def stepW (o : Op) (T : Fr) (D : Dfr) (H : Hp) : Option (V × Dfr × Hp) :=
  match o with
  | .defer c => (calleeV T c).map fun r => (.tup [], r :: D, H)
  | .call c => match c.callee with
    | .value _ => (calleeV T c).bind fun r => (cl r.1 r.2 H).map fun q => (q.1, D, q.2)
    | _ => (opV P o T H).map fun q => (q.1, D, q.2)
  | _ => (opV P o T H).map fun q => (q.1, D, q.2)
def dOk (N : Nat) : Option Nat → Prop
  | none => True
  | some d => d < N
def W : List Co → Fr → Dfr → Hp → (Fr → Dfr → Hp → Prop) → Prop
  | [], T, D, H, Q => Q T D H
  | c :: rest, T, D, H, Q =>
    match c.g with
    | none => bindW (stepW P cl c.o T D H) fun q => dOk N c.d ∧ (c.still = true → q.2.2 = H) ∧ (c.self = true → eqA q.1 q.1 = true) ∧ W rest (putO T c.d q.1) q.2.1 q.2.2 Q
    | some g => ∃ b, get T g.1 = .bool b ∧ dOk N c.d ∧
        (b = g.2 → bindW (stepW P cl c.o T D H) fun q => (c.still = true → q.2.2 = H) ∧ (c.self = true → eqA q.1 q.1 = true) ∧ W rest (putO T c.d q.1) q.2.1 q.2.2 Q) ∧
        (b ≠ g.2 → W rest (putO T c.d (.tup [])) D H Q)

/-- Code in short form: what it comes to. -/
inductive Big : Cc → St → Ex → St → Prop where
  | skip (s) : Big .skip s .nor s
  | reg (l s s') : W P cl N l s.T s.D s.H (fun T D H => s' = ⟨T, D, H⟩) → Big (.reg l) s .nor s'
  | seq (a b s s1 e s') : Big a s .nor s1 → Big b s1 e s' → Big (.seq a b) s e s'
  | seqx (a b s e s') : Big a s e s' → e ≠ .nor → Big (.seq a b) s e s'
  | condt (c a b s e s') : ev s.T c = .bool true → Big a s e s' → Big (.cond c a b) s e s'
  | condf (c a b s e s') : ev s.T c = .bool false → Big b s e s' → Big (.cond c a b) s e s'
  | block (id b s e s') : Big b s e s' → e ≠ .exit id → Big (.block id b) s e s'
  | blockx (id b s s') : Big b s (.exit id) s' → Big (.block id b) s .nor s'
  | loop (b s s1 e s') : Big b s .nor s1 → Big (.loop b) s1 e s' → Big (.loop b) s e s'
  | loopx (b s e s') : Big b s e s' → e ≠ .nor → Big (.loop b) s e s'
  | exit (id s) : Big (.exit id) s (.exit id) s
  | ret (s) : Big .ret s .ret s
def Wp (c : Cc) (T : Fr) (D : Dfr) (H : Hp) (Q : Ex → Fr → Dfr → Hp → Prop) : Prop := ∃ e s', Big P cl N c ⟨T, D, H⟩ e s' ∧ Q e s'.T s'.D s'.H
def seqQ (b : Cc) (Q : Ex → Fr → Dfr → Hp → Prop) : Ex → Fr → Dfr → Hp → Prop
  | .nor, T, D, H => Wp P cl N b T D H Q
  | e, T, D, H => Q e T D H
def blockQ (id : Nat) (Q : Ex → Fr → Dfr → Hp → Prop) : Ex → Fr → Dfr → Hp → Prop
  | .exit j, T, D, H => if j = id then Q .nor T D H else Q (.exit j) T D H
  | e, T, D, H => Q e T D H
end

section
variable {P : Program} {cl : CallT} {N : Nat}

theorem W_mono {Q Q' : Fr → Dfr → Hp → Prop} (h : ∀ T D H, Q T D H → Q' T D H) : ∀ {l : List Co} {T : Fr} {D : Dfr} {H : Hp}, W P cl N l T D H Q → W P cl N l T D H Q'
  | [], T, D, H, hw => h T D H hw
  | c :: rest, T, D, H, hw => by
    unfold W at hw ⊢
    split at hw
    · obtain ⟨q, h1, h2, h3, h4, h5⟩ := hw
      exact ⟨q, h1, h2, h3, h4, W_mono h h5⟩
    · obtain ⟨b, h1, h2, h3, h4⟩ := hw
      refine ⟨b, h1, h2, fun e => ?_, fun e => W_mono h (h4 e)⟩
      obtain ⟨q, h5, h6, h7, h8⟩ := h3 e
      exact ⟨q, h5, h6, h7, W_mono h h8⟩
theorem W_ex {Q : Fr → Dfr → Hp → Prop} : ∀ {l : List Co} {T : Fr} {D : Dfr} {H : Hp}, W P cl N l T D H Q → ∃ s' : St, W P cl N l T D H (fun T D H => s' = ⟨T, D, H⟩) ∧ Q s'.T s'.D s'.H
  | [], T, D, H, hw => ⟨⟨T, D, H⟩, rfl, hw⟩
  | c :: rest, T, D, H, hw => by
    unfold W at hw
    split at hw
    · rename_i hg
      obtain ⟨q, h1, h2, h3, h4, h5⟩ := hw
      obtain ⟨s', h6, h7⟩ := W_ex h5
      refine ⟨s', ?_, h7⟩
      unfold W
      rw [hg]
      exact ⟨q, h1, h2, h3, h4, h6⟩
    · rename_i g hg
      obtain ⟨b, h1, h2, h3, h4⟩ := hw
      by_cases e : b = g.2
      · obtain ⟨q, h5, h6, h7, h8⟩ := h3 e
        obtain ⟨s', h9, h10⟩ := W_ex h8
        refine ⟨s', ?_, h10⟩
        unfold W
        rw [hg]
        exact ⟨b, h1, h2, fun _ => ⟨q, h5, h6, h7, h9⟩, fun n => absurd e n⟩
      · obtain ⟨s', h9, h10⟩ := W_ex (h4 e)
        refine ⟨s', ?_, h10⟩
        unfold W
        rw [hg]
        exact ⟨b, h1, h2, fun n => absurd n e, fun _ => h9⟩
theorem W_iff {Q : Fr → Dfr → Hp → Prop} {l : List Co} {T : Fr} {D : Dfr} {H : Hp} : W P cl N l T D H Q ↔ ∃ s' : St, W P cl N l T D H (fun T D H => s' = ⟨T, D, H⟩) ∧ Q s'.T s'.D s'.H :=
  ⟨W_ex, fun ⟨s', h1, h2⟩ => W_mono (fun T D H e => by subst e; exact h2) h1⟩

theorem stepV_eq (o : Oper) (s : St) : stepV P cl o s = (stepW P cl o.op s.T s.D s.H).map fun q => (q.1, ⟨s.T, q.2.1, q.2.2⟩) := by
  obtain ⟨dst, op, type, pos, after, guard⟩ := o
  cases op <;> simp only [stepV, stepW, Option.map_map] <;> try rfl
  case call c =>
    cases hc : c.callee with
    | value f =>
      simp only
      cases calleeV s.T c with
      | none => rfl
      | some r => simp only [Option.bind_some, Option.map_map]; rfl
    | _ => simp only [Option.map_map]; rfl
theorem dOk_set {s : St} {d : Option Nat} {v : V} (h : dOk N d) : setO N s d v = some { s with T := putO s.T d v } := by
  cases d with
  | none => rfl
  | some d => exact if_pos h

theorem W_trace {all : List Oper} {fl : Nat → Bool × Bool} {s' : St} : ∀ {rest : List Oper} {i : Nat} {l : List Co} {T : Fr} {D : Dfr} {H : Hp}, compL all fl i rest = some l → W P cl N l T D H (fun T D H => s' = ⟨T, D, H⟩) →
    opsV P cl N all rest ⟨T, D, H⟩ = some s' ∧ ∃ tr, traceV P cl N all rest ⟨T, D, H⟩ = some (tr, s') ∧ (tr ++ [s'])[0]? = some ⟨T, D, H⟩ ∧
      ∀ (j : Nat) (o : Oper), rest[j]? = some o → ∃ s1 s2, (tr ++ [s'])[j]? = some s1 ∧ (tr ++ [s'])[j + 1]? = some s2 ∧ ((fl (i + j)).1 = true → s2.H = s1.H) ∧ ((fl (i + j)).2 = true → wantedV all o s1.T = some true → ∃ q, stepV P cl o s1 = some q ∧ eqA q.1 q.1 = true)
  | [], i, l, T, D, H, hc, hw => by
    simp only [compL, Option.some.injEq] at hc
    subst hc
    have e : s' = ⟨T, D, H⟩ := hw
    subst e
    exact ⟨rfl, [], rfl, rfl, fun j o h => by simp at h⟩
  | o :: rest, i, l, T, D, H, hc, hw => by
    simp only [compL] at hc
    cases h1 : coOf all fl i o with
    | none => rw [h1] at hc; cases hc
    | some c =>
      rw [h1] at hc
      obtain ⟨l', h2, rfl⟩ := Option.map_eq_some_iff.1 hc
      obtain ⟨g, h3, rfl⟩ := Option.map_eq_some_iff.1 h1
      have fin : ∀ {w : Bool} {T1 : Fr} {D1 : Dfr} {H1 : Hp}, wantedV all o T = some w →
          (if w = true then (stepV P cl o ⟨T, D, H⟩).bind fun q => setO N q.2 o.dst q.1 else setO N ⟨T, D, H⟩ o.dst (.tup [])) = some ⟨T1, D1, H1⟩ →
          W P cl N l' T1 D1 H1 (fun T D H => s' = ⟨T, D, H⟩) → ((fl i).1 = true → H1 = H) → ((fl i).2 = true → w = true → ∃ q, stepV P cl o ⟨T, D, H⟩ = some q ∧ eqA q.1 q.1 = true) →
          opsV P cl N all (o :: rest) ⟨T, D, H⟩ = some s' ∧ ∃ tr, traceV P cl N all (o :: rest) ⟨T, D, H⟩ = some (tr, s') ∧ (tr ++ [s'])[0]? = some ⟨T, D, H⟩ ∧
            ∀ (j : Nat) (o' : Oper), (o :: rest)[j]? = some o' → ∃ s1 s2, (tr ++ [s'])[j]? = some s1 ∧ (tr ++ [s'])[j + 1]? = some s2 ∧ ((fl (i + j)).1 = true → s2.H = s1.H) ∧ ((fl (i + j)).2 = true → wantedV all o' s1.T = some true → ∃ q, stepV P cl o' s1 = some q ∧ eqA q.1 q.1 = true) := by
        intro w T1 D1 H1 hw1 hst hW hstill hself
        obtain ⟨r1, tr, r2, r3, r4⟩ := W_trace h2 hW
        refine ⟨?_, ⟨T, D, H⟩ :: tr, ?_, rfl, fun j o' hj => ?_⟩
        · simp only [opsV]
          rw [hw1]
          simp only [Option.bind_some]
          split
          · rename_i e
            rw [if_pos e] at hst
            cases hs : stepV P cl o ⟨T, D, H⟩ with
            | none => rw [hs] at hst; cases hst
            | some q =>
              rw [hs] at hst
              simp only [Option.bind_some] at hst ⊢
              rw [hst]
              exact r1
          · rename_i e
            rw [if_neg e] at hst
            rw [hst]
            exact r1
        · simp only [traceV]
          rw [hw1]
          simp only [Option.bind_some]
          rw [hst]
          simp only [Option.bind_some]
          rw [r2]
          rfl
        · cases j with
          | zero =>
            simp only [List.getElem?_cons_zero, Option.some.injEq] at hj
            subst hj
            refine ⟨⟨T, D, H⟩, ⟨T1, D1, H1⟩, rfl, by simpa using r3, hstill, fun h1 h2 => hself h1 ?_⟩
            rw [hw1] at h2
            injection h2
          | succ j =>
            simp only [List.getElem?_cons_succ] at hj
            obtain ⟨s1, s2, h5, h6, h7, h8⟩ := r4 j o' hj
            refine ⟨s1, s2, by simpa using h5, by simpa using h6, ?_, ?_⟩
            · rw [show i + (j + 1) = i + 1 + j by omega]; exact h7
            · rw [show i + (j + 1) = i + 1 + j by omega]; exact h8
      unfold W at hw
      cases g with
      | none =>
        have hw1 : wantedV all o T = some true := by
          unfold gslot at h3
          unfold wantedV
          cases hg : o.guard with
          | none => rfl
          | some p =>
            rw [hg] at h3
            obtain ⟨_, _, e⟩ := Option.map_eq_some_iff.1 h3
            cases e
        obtain ⟨q, h5, h6, h7, h8, h9⟩ := hw
        simp only at h5 h6 h7 h8 h9
        have hst : stepV P cl o ⟨T, D, H⟩ = some (q.1, ⟨T, q.2.1, q.2.2⟩) := by rw [stepV_eq]; simp only; rw [h5]; rfl
        exact fin hw1 (by rw [if_pos rfl, hst]; exact dOk_set h6) h9 h7 (fun e _ => ⟨_, hst, h8 e⟩)
      | some p =>
        obtain ⟨b, h5, h6, h7, h8⟩ := hw
        simp only at h5 h6 h7 h8
        have hw1 : wantedV all o T = some (b == p.2) := by
          unfold gslot at h3
          unfold wantedV
          cases hg : o.guard with
          | none => rw [hg] at h3; cases h3
          | some r =>
            rw [hg] at h3
            obtain ⟨d, h9, e⟩ := Option.map_eq_some_iff.1 h3
            injection e with e
            subst e
            simp only at h5 ⊢
            rw [h9]
            simp only
            rw [h5]
        by_cases e : b = p.2
        · obtain ⟨q, h9, h10, h11, h12⟩ := h7 e
          have hst : stepV P cl o ⟨T, D, H⟩ = some (q.1, ⟨T, q.2.1, q.2.2⟩) := by rw [stepV_eq]; simp only; rw [h9]; rfl
          exact fin hw1 (by rw [if_pos (by simpa using e), hst]; exact dOk_set h6) h12 h10 (fun e _ => ⟨_, hst, h11 e⟩)
        · exact fin hw1 (by rw [if_neg (by simpa using e)]; exact dOk_set h6) (h8 e) (fun _ => rfl) (fun _ e2 => absurd (by simpa using e2) e)

theorem read_step {o : Oper} {s : St} {q : V × St} (hk : kind P o.op = .read) (h : stepV P cl o s = some q) : ∃ H', opV P o.op s.T s.H = some (q.1, H') := by
  obtain ⟨dst, op, type, pos, after, guard⟩ := o
  cases op <;> simp only [kind, reduceCtorEq] at hk <;> simp only [stepV] at h <;> try (obtain ⟨r, h1, rfl⟩ := Option.map_eq_some_iff.1 h; exact ⟨_, h1⟩)
  case call c =>
    cases hc : c.callee with
    | value f => rw [hc] at hk; simp at hk
    | invoke => rw [hc] at hk; simp at hk
    | builtin b =>
      rw [hc] at h
      obtain ⟨r, h1, rfl⟩ := Option.map_eq_some_iff.1 h
      exact ⟨_, h1⟩

theorem still_run {L : List St} {lo hi : Nat} (h : ∀ k, lo ≤ k → k ≤ hi → ∃ a b, L[k]? = some a ∧ L[k + 1]? = some b ∧ b.H = a.H) : ∀ d a b, lo + d ≤ hi + 1 → L[lo]? = some a → L[lo + d]? = some b → b.H = a.H
  | 0, a, b, _, h1, h2 => by rw [Nat.add_zero, h1] at h2; injection h2 with e; rw [e]
  | d + 1, a, b, hd, h1, h2 => by
    obtain ⟨x, y, h3, h4, h5⟩ := h (lo + d) (by omega) (by omega)
    have := still_run h d a x (by omega) h1 h3
    rw [show lo + (d + 1) = lo + d + 1 by omega, h4] at h2
    injection h2 with e
    rw [← e, h5, this]

theorem dyn_of {all : List Oper} {L : List St} (h : ∀ (j : Nat) (o : Oper), all[j]? = some o → ∃ s1 s2, L[j]? = some s1 ∧ L[j + 1]? = some s2 ∧ ((flagsOf (unordP P all) j).1 = true → s2.H = s1.H) ∧ ((flagsOf (unordP P all) j).2 = true → wantedV all o s1.T = some true → ∃ q, stepV P cl o s1 = some q ∧ eqA q.1 q.1 = true)) : drawDyn P all L = true := by
  unfold drawDyn
  simp only [List.all_eq_true, List.mem_range]
  intro q hq
  split
  · rename_i oq sq hoq hsq
    simp only [Bool.or_eq_true, List.all_eq_true, List.mem_range]
    by_cases hk : kind P oq.op = .read
    · by_cases hw : wantedV all oq sq.T = some true
      · refine .inr fun e he => ?_
        split
        · rename_i oe s1 s2 hoe hs1 hs2
          simp only [Bool.or_eq_true]
          by_cases hke : kind P oe.op = .eff
          · by_cases hqe : waitsFor (befores all) q e = true
            · simp [hqe]
            · by_cases heq : waitsFor (befores all) e q = true
              · simp [heq]
              · refine .inr ?_
                have hmem : (q, e) ∈ unordP P all := by
                  unfold unordP
                  simp only [List.mem_flatMap, List.mem_filterMap, List.mem_range]
                  refine ⟨q, hq, e, he, ?_⟩
                  rw [hoq, hoe]
                  simp only
                  rw [if_pos]
                  simp [hk, hke, hqe, heq]
                have hfl : ∀ k, min q e ≤ k → k ≤ max q e → ∃ a b, L[k]? = some a ∧ L[k + 1]? = some b ∧ b.H = a.H := by
                  intro k h1 h2
                  have hlt : k < all.length := by omega
                  obtain ⟨a, b, h3, h4, h5, _⟩ := h k _ (List.getElem?_eq_getElem hlt)
                  refine ⟨a, b, h3, h4, h5 ?_⟩
                  simp only [flagsOf, List.any_eq_true, Bool.and_eq_true, decide_eq_true_eq]
                  exact ⟨(q, e), hmem, h1, h2⟩
                obtain ⟨s0, _, hs0, _⟩ := h (min q e) _ (List.getElem?_eq_getElem (by omega : min q e < all.length))
                have same : ∀ m s, min q e ≤ m → m ≤ max q e + 1 → L[m]? = some s → s.H = s0.H := by
                  intro m s h1 h2 h3
                  exact still_run hfl (m - min q e) s0 s (by omega) hs0 (by rw [show min q e + (m - min q e) = m by omega]; exact h3)
                have e1 := same e s1 (by omega) (by omega) hs1
                have e2 := same (e + 1) s2 (by omega) (by omega) hs2
                have e3 := same q sq (by omega) (by omega) hsq
                obtain ⟨sq', _, h3, _, _, h6⟩ := h q oq hoq
                rw [hsq] at h3
                injection h3 with h3
                subst h3
                obtain ⟨r, h7, h8⟩ := h6 (by simp only [flagsOf, List.any_eq_true]; exact ⟨(q, e), hmem, by simp⟩) hw
                obtain ⟨H', h9⟩ := read_step hk h7
                rw [e1, e2, ← e3, h9]
                exact h8
          · simp [hke]
        · rfl
      · simp [hw]
    · simp [hk]
  · rfl
end
end Go.Am
