/-
  Texts of this seat, laid together. No statement of the seat stands here.
-/
import Derived.Attr
import Derived.IntWalk
import Derived.KernelRfl
import Derived.Test.YtdpdlobaabcjjaaP2
/-
  The abstract machine, part ZA: code in a short form, and its weakest preconditions. No statement of the seat stands here.
-/
namespace Go.Am
open Go

/-- An operation in short form; the guard names the slot of its test; what must be still; whose answer must equal itself; which elder readers must read the same ahead of it and behind it. -/
structure Co where
  d : Option Nat
  o : Op
  g : Option (Nat × Bool)
  still : Bool
  self : Bool
  rd : List (Option (Nat × Bool) × Op)
inductive Cc where
  | skip
  | reg (l : List Co)
  | seq (a b : Cc)
  | cond (c : Operand) (a b : Cc)
  | block (id : Nat) (b : Cc)
  | loop (b : Cc)
  | exit (id : Nat)
  | ret

def gslot (all : List Oper) (o : Oper) : Option (Option (Nat × Bool)) :=
  match o.guard with
  | none => some none
  | some (j, w) => ((all[j]?).bind (·.dst)).map fun d => some (d, w)
abbrev RdT' := Nat → List (Option (Nat × Bool) × Op)
def coOf (all : List Oper) (fl : Nat → Bool × Bool) (rd : RdT') (i : Nat) (o : Oper) : Option Co := (gslot all o).map fun g => ⟨o.dst, o.op, g, (fl i).1, (fl i).2, rd i⟩
def compL (all : List Oper) (fl : Nat → Bool × Bool) (rd : RdT') : Nat → List Oper → Option (List Co)
  | _, [] => some []
  | i, o :: r => (coOf all fl rd i o).bind fun c => (compL all fl rd (i + 1) r).map (c :: ·)
def unordP (P : Program) (all : List Oper) : List (Nat × Nat) :=
  let B := befores all
  let n := all.length
  (List.range n).flatMap fun q => (List.range n).filterMap fun e => match all[q]?, all[e]? with
    | some oq, some oe => if kind P oq.op == .read && kind P oe.op == .eff && !(waitsFor B q e) && !(waitsFor B e q) then some (q, e) else none
    | _, _ => none
def flagsOf (pairs : List (Nat × Nat)) (i : Nat) : Bool × Bool := (pairs.any fun p => decide (min p.1 p.2 ≤ i) && decide (i ≤ max p.1 p.2), pairs.any fun p => p.1 == i)
/-- The slots that an operation looks at. -/
def readsOf (all : List Oper) (o : Oper) : List Tmp :=
  (o.op.operands.toList.filterMap fun x => match x with | .tmp t => some t | _ => none) ++ (match o.guard with | some (j, _) => ((all[j]?).bind (·.dst)).toList | none => [])
/-- A reader ahead of an effect: none of its slots is written between the two. -/
def earlyOk (all : List Oper) (p : Nat × Nat) : Bool :=
  match all[p.1]? with
  | none => false
  | some oq => (gslot all oq).isSome && (List.range p.2).all fun k => decide (k < p.1) || (match all[k]? with
    | some ok => (match ok.dst with | some d => !(readsOf all oq).contains d | none => true)
    | none => true)
def rdOf (all : List Oper) (early : List (Nat × Nat)) (i : Nat) : List (Option (Nat × Bool) × Op) :=
  early.filterMap fun p => if p.2 = i then (all[p.1]?).bind fun oq => (gslot all oq).map fun g => (g, oq.op) else none
def compR (P : Program) (all : List Oper) (draw : Bool) : Option (List Co) :=
  if draw = true then
    if drawOk P all = true ∧ ((unordP P all).filter fun p => decide (p.1 < p.2)).all (earlyOk all) = true then compL all (flagsOf ((unordP P all).filter fun p => !decide (p.1 < p.2))) (rdOf all ((unordP P all).filter fun p => decide (p.1 < p.2))) 0 all else none
  else compL all (fun _ => (false, false)) (fun _ => []) 0 all
def compC (P : Program) : Code → Option Cc
  | .skip => some .skip
  | .region _ ops draw => (compR P ops.toList draw).map .reg
  | .seq a b => (compC P a).bind fun x => (compC P b).map (.seq x)
  | .cond c a b => (compC P a).bind fun x => (compC P b).map (.cond c x)
  | .block id b => (compC P b).map (.block id)
  | .loop b => (compC P b).map .loop
  | .exit id => some (.exit id)
  | .ret => some .ret
  | _ => none

def bindW {α : Type} (x : Option α) (k : α → Prop) : Prop := ∃ a, x = some a ∧ k a

abbrev Dfr := List (Nat × List V)
section
variable (P : Program) (cl : CallT) (N : Nat)
def stepW (o : Op) (T : Fr) (D : Dfr) (H : Hp) : Option (V × Dfr × Hp) :=
  match o with
  | .defer c => (calleeV T c).map fun r => (.tup [], r :: D, H)
  | .call c => match c.callee with
    | .value _ => (calleeV T c).bind fun r => (cl r.1 r.2 H).map fun q => (q.1, D, q.2)
    | _ => (opV P o T H).map fun q => (q.1, D, q.2)
  | _ => (opV P o T H).map fun q => (q.1, D, q.2)
def dOk (N : Nat) : Option Nat → Prop
  | none => True
  | some d => d < N
/-- The blocks that were there at the region's begin stay as they are. -/
def stillP (b : Bool) (n : Nat) (x y : Hp) : Prop := b = true → x.take n = y.take n
/-- What is read is read of those blocks. -/
def selfP (P : Program) (b : Bool) (n : Nat) (o : Op) (T : Fr) (H : Hp) : Prop := b = true → ∃ r, opV P o T (H.take n) = some r ∧ eqA r.1 r.1 = true
/-- Whether a guard lets by, told by its slot. -/
def wantB (v : V) (w : Bool) : Option Bool := match v with
  | .bool b => some (b == w)
  | .undef => none
  | _ => some false
def guardR (g : Option (Nat × Bool)) (T : Fr) (c : Prop) : Prop := match g with
  | none => c
  | some (j, w) => ∃ x, wantB (get T j) w = some x ∧ (x = true → c)
def readO (x y : Option (V × Hp)) : Prop := ∃ a b, x = some a ∧ y = some b ∧ b.1 = a.1 ∧ eqA a.1 a.1 = true
/-- The elder readers read the same ahead and behind. -/
def readP (P : Program) : List (Option (Nat × Bool) × Op) → Fr → Hp → Hp → Prop
  | [], _, _, _ => True
  | r :: rs, T, H, H' => guardR r.1 T (readO (opV P r.2 T H) (opV P r.2 T H')) ∧ readP P rs T H H'
def W (n : Nat) : List Co → Fr → Dfr → Hp → (Fr → Dfr → Hp → Prop) → Prop
  | [], T, D, H, Q => Q T D H
  | c :: rest, T, D, H, Q =>
    match c.g with
    | none => bindW (stepW P cl c.o T D H) fun q => dOk N c.d ∧ stillP c.still n q.2.2 H ∧ selfP P c.self n c.o T H ∧ readP P c.rd T H q.2.2 ∧ W n rest (putO T c.d q.1) q.2.1 q.2.2 Q
    | some g => ∃ b, wantB (get T g.1) g.2 = some b ∧ dOk N c.d ∧
        (b = true → bindW (stepW P cl c.o T D H) fun q => stillP c.still n q.2.2 H ∧ selfP P c.self n c.o T H ∧ readP P c.rd T H q.2.2 ∧ W n rest (putO T c.d q.1) q.2.1 q.2.2 Q) ∧
        (b = false → W n rest (putO T c.d (.tup [])) D H Q)

/-- Code in short form: what it comes to. -/
inductive Big : Cc → St → Ex → St → Prop where
  | skip (s) : Big .skip s .nor s
  | reg (l s s') : W P cl N s.H.length l s.T s.D s.H (fun T D H => s' = ⟨T, D, H⟩) → Big (.reg l) s .nor s'
  | seq (a b s s1 e s') : Big a s .nor s1 → Big b s1 e s' → Big (.seq a b) s e s'
  | seqx (a b s e s') : Big a s e s' → e ≠ .nor → Big (.seq a b) s e s'
  | condt (c a b s e s') : ev s.T c = .bool true → Big a s e s' → Big (.cond c a b) s e s'
  | condf (c a b s e s') : ev s.T c = .bool false → Big b s e s' → Big (.cond c a b) s e s'
  | block (id b s e s') : Big b s e s' → e ≠ .exit id → Big (.block id b) s e s'
  | blockx (id b s s') : Big b s (.exit id) s' → Big (.block id b) s .nor s'
  | loop (b s s1 e s') : Big b s .nor s1 → Big (.loop b) s1 e s' → Big (.loop b) s e s'
  | loopx (b s e s') : Big b s e s' → e ≠ .nor → Big (.loop b) s e s'
  | exit (id s) : Big (.exit id) s (.exit id) s
  | ret (s) : Big .ret s .ret s
def Wp (c : Cc) (T : Fr) (D : Dfr) (H : Hp) (Q : Ex → Fr → Dfr → Hp → Prop) : Prop := ∃ e s', Big P cl N c ⟨T, D, H⟩ e s' ∧ Q e s'.T s'.D s'.H
def seqQ (b : Cc) (Q : Ex → Fr → Dfr → Hp → Prop) : Ex → Fr → Dfr → Hp → Prop
  | .nor, T, D, H => Wp P cl N b T D H Q
  | e, T, D, H => Q e T D H
def blockQ (id : Nat) (Q : Ex → Fr → Dfr → Hp → Prop) : Ex → Fr → Dfr → Hp → Prop
  | .exit j, T, D, H => if j = id then Q .nor T D H else Q (.exit j) T D H
  | e, T, D, H => Q e T D H
end

section
variable {P : Program} {cl : CallT} {N : Nat}

theorem W_mono {n : Nat} {Q Q' : Fr → Dfr → Hp → Prop} (h : ∀ T D H, Q T D H → Q' T D H) : ∀ {l : List Co} {T : Fr} {D : Dfr} {H : Hp}, W P cl N n l T D H Q → W P cl N n l T D H Q'
  | [], T, D, H, hw => h T D H hw
  | c :: rest, T, D, H, hw => by
    unfold W at hw ⊢
    split at hw
    · obtain ⟨q, h1, h2, h3, h4, h4', h5⟩ := hw
      exact ⟨q, h1, h2, h3, h4, h4', W_mono h h5⟩
    · obtain ⟨b, h1, h2, h3, h4⟩ := hw
      refine ⟨b, h1, h2, fun e => ?_, fun e => W_mono h (h4 e)⟩
      obtain ⟨q, h5, h6, h7, h7', h8⟩ := h3 e
      exact ⟨q, h5, h6, h7, h7', W_mono h h8⟩
theorem W_ex {n : Nat} {Q : Fr → Dfr → Hp → Prop} : ∀ {l : List Co} {T : Fr} {D : Dfr} {H : Hp}, W P cl N n l T D H Q → ∃ s' : St, W P cl N n l T D H (fun T D H => s' = ⟨T, D, H⟩) ∧ Q s'.T s'.D s'.H
  | [], T, D, H, hw => ⟨⟨T, D, H⟩, rfl, hw⟩
  | c :: rest, T, D, H, hw => by
    unfold W at hw
    split at hw
    · rename_i hg
      obtain ⟨q, h1, h2, h3, h4, h4', h5⟩ := hw
      obtain ⟨s', h6, h7⟩ := W_ex h5
      refine ⟨s', ?_, h7⟩
      unfold W
      rw [hg]
      exact ⟨q, h1, h2, h3, h4, h4', h6⟩
    · rename_i g hg
      obtain ⟨b, h1, h2, h3, h4⟩ := hw
      by_cases e : b = true
      · obtain ⟨q, h5, h6, h7, h7', h8⟩ := h3 e
        obtain ⟨s', h9, h10⟩ := W_ex h8
        refine ⟨s', ?_, h10⟩
        unfold W
        rw [hg]
        exact ⟨b, h1, h2, fun _ => ⟨q, h5, h6, h7, h7', h9⟩, fun n => (by rw [e] at n; cases n)⟩
      · rw [Bool.not_eq_true] at e
        obtain ⟨s', h9, h10⟩ := W_ex (h4 e)
        refine ⟨s', ?_, h10⟩
        unfold W
        rw [hg]
        exact ⟨b, h1, h2, fun n => (by rw [e] at n; cases n), fun _ => h9⟩
theorem W_iff {n : Nat} {Q : Fr → Dfr → Hp → Prop} {l : List Co} {T : Fr} {D : Dfr} {H : Hp} : W P cl N n l T D H Q ↔ ∃ s' : St, W P cl N n l T D H (fun T D H => s' = ⟨T, D, H⟩) ∧ Q s'.T s'.D s'.H :=
  ⟨W_ex, fun ⟨s', h1, h2⟩ => W_mono (fun T D H e => by subst e; exact h2) h1⟩

theorem stepV_eq (o : Oper) (s : St) : stepV P cl o s = (stepW P cl o.op s.T s.D s.H).map fun q => (q.1, ⟨s.T, q.2.1, q.2.2⟩) := by
  obtain ⟨dst, op, type, pos, after, guard⟩ := o
  cases op <;> simp only [stepV, stepW, Option.map_map] <;> try rfl
  case call c =>
    cases hc : c.callee with
    | value f =>
      simp only
      cases calleeV s.T c with
      | none => rfl
      | some r => simp only [Option.bind_some, Option.map_map]; rfl
    | _ => simp only [Option.map_map]; rfl
theorem dOk_set {s : St} {d : Option Nat} {v : V} (h : dOk N d) : setO N s d v = some { s with T := putO s.T d v } := by
  cases d with
  | none => rfl
  | some d => exact if_pos h

theorem putO_get (T : Fr) (d : Option Nat) (v : V) : ∀ t, d ≠ some t → get (putO T d v) t = get T t := by
  intro t h
  cases d with
  | none => rfl
  | some d =>
    simp only [putO, get_put]
    rw [if_neg fun e => h (by rw [e])]
theorem W_trace {n : Nat} {all : List Oper} {fl : Nat → Bool × Bool} {rd : RdT'} {s' : St} : ∀ {rest : List Oper} {i : Nat} {l : List Co} {T : Fr} {D : Dfr} {H : Hp}, compL all fl rd i rest = some l → W P cl N n l T D H (fun T D H => s' = ⟨T, D, H⟩) →
    opsV P cl N all rest ⟨T, D, H⟩ = some s' ∧ ∃ tr, traceV P cl N all rest ⟨T, D, H⟩ = some (tr, s') ∧ (tr ++ [s'])[0]? = some ⟨T, D, H⟩ ∧
      ∀ (j : Nat) (o : Oper), rest[j]? = some o → ∃ s1 s2, (tr ++ [s'])[j]? = some s1 ∧ (tr ++ [s'])[j + 1]? = some s2 ∧ stillP (fl (i + j)).1 n s2.H s1.H ∧ (wantedV all o s1.T = some true → selfP P (fl (i + j)).2 n o.op s1.T s1.H ∧ readP P (rd (i + j)) s1.T s1.H s2.H) ∧ ∀ t, o.dst ≠ some t → get s2.T t = get s1.T t
  | [], i, l, T, D, H, hc, hw => by
    simp only [compL, Option.some.injEq] at hc
    subst hc
    have e : s' = ⟨T, D, H⟩ := hw
    subst e
    exact ⟨rfl, [], rfl, rfl, fun j o h => by simp at h⟩
  | o :: rest, i, l, T, D, H, hc, hw => by
    simp only [compL] at hc
    cases h1 : coOf all fl rd i o with
    | none => rw [h1] at hc; cases hc
    | some c =>
      rw [h1] at hc
      obtain ⟨l', h2, rfl⟩ := Option.map_eq_some_iff.1 hc
      obtain ⟨g, h3, rfl⟩ := Option.map_eq_some_iff.1 h1
      have fin : ∀ {w : Bool} {T1 : Fr} {D1 : Dfr} {H1 : Hp}, wantedV all o T = some w →
          (if w = true then (stepV P cl o ⟨T, D, H⟩).bind fun q => setO N q.2 o.dst q.1 else setO N ⟨T, D, H⟩ o.dst (.tup [])) = some ⟨T1, D1, H1⟩ →
          W P cl N n l' T1 D1 H1 (fun T D H => s' = ⟨T, D, H⟩) → stillP (fl i).1 n H1 H → (w = true → selfP P (fl i).2 n o.op T H ∧ readP P (rd i) T H H1) → (∀ t, o.dst ≠ some t → get T1 t = get T t) →
          opsV P cl N all (o :: rest) ⟨T, D, H⟩ = some s' ∧ ∃ tr, traceV P cl N all (o :: rest) ⟨T, D, H⟩ = some (tr, s') ∧ (tr ++ [s'])[0]? = some ⟨T, D, H⟩ ∧
            ∀ (j : Nat) (o' : Oper), (o :: rest)[j]? = some o' → ∃ s1 s2, (tr ++ [s'])[j]? = some s1 ∧ (tr ++ [s'])[j + 1]? = some s2 ∧ stillP (fl (i + j)).1 n s2.H s1.H ∧ (wantedV all o' s1.T = some true → selfP P (fl (i + j)).2 n o'.op s1.T s1.H ∧ readP P (rd (i + j)) s1.T s1.H s2.H) ∧ ∀ t, o'.dst ≠ some t → get s2.T t = get s1.T t := by
        intro w T1 D1 H1 hw1 hst hW hstill hself hget
        obtain ⟨r1, tr, r2, r3, r4⟩ := W_trace h2 hW
        refine ⟨?_, ⟨T, D, H⟩ :: tr, ?_, rfl, fun j o' hj => ?_⟩
        · simp only [opsV]
          rw [hw1]
          simp only [Option.bind_some]
          split
          · rename_i e
            rw [if_pos e] at hst
            cases hs : stepV P cl o ⟨T, D, H⟩ with
            | none => rw [hs] at hst; cases hst
            | some q =>
              rw [hs] at hst
              simp only [Option.bind_some] at hst ⊢
              rw [hst]
              exact r1
          · rename_i e
            rw [if_neg e] at hst
            rw [hst]
            exact r1
        · simp only [traceV]
          rw [hw1]
          simp only [Option.bind_some]
          rw [hst]
          simp only [Option.bind_some]
          rw [r2]
          rfl
        · cases j with
          | zero =>
            simp only [List.getElem?_cons_zero, Option.some.injEq] at hj
            subst hj
            refine ⟨⟨T, D, H⟩, ⟨T1, D1, H1⟩, rfl, by simpa using r3, hstill, fun h2 => hself ?_, hget⟩
            rw [hw1] at h2
            injection h2
          | succ j =>
            simp only [List.getElem?_cons_succ] at hj
            obtain ⟨s1, s2, h5, h6, h7, h8⟩ := r4 j o' hj
            refine ⟨s1, s2, by simpa using h5, by simpa using h6, ?_, ?_⟩
            · rw [show i + (j + 1) = i + 1 + j by omega]; exact h7
            · rw [show i + (j + 1) = i + 1 + j by omega]; exact h8
      unfold W at hw
      cases g with
      | none =>
        have hw1 : wantedV all o T = some true := by
          unfold gslot at h3
          unfold wantedV
          cases hg : o.guard with
          | none => rfl
          | some p =>
            rw [hg] at h3
            obtain ⟨_, _, e⟩ := Option.map_eq_some_iff.1 h3
            cases e
        obtain ⟨q, h5, h6, h7, h8, h8', h9⟩ := hw
        simp only at h5 h6 h7 h8 h8' h9
        have hst : stepV P cl o ⟨T, D, H⟩ = some (q.1, ⟨T, q.2.1, q.2.2⟩) := by rw [stepV_eq]; simp only; rw [h5]; rfl
        exact fin hw1 (by rw [if_pos rfl, hst]; exact dOk_set h6) h9 h7 (fun _ => ⟨h8, h8'⟩) (putO_get _ _ _)
      | some p =>
        obtain ⟨b, h5, h6, h7, h8⟩ := hw
        simp only at h5 h6 h7 h8
        have hw1 : wantedV all o T = some b := by
          unfold gslot at h3
          unfold wantedV
          cases hg : o.guard with
          | none => rw [hg] at h3; cases h3
          | some r =>
            rw [hg] at h3
            obtain ⟨d, h9, e⟩ := Option.map_eq_some_iff.1 h3
            injection e with e
            subst e
            simp only at h5 ⊢
            rw [h9]
            exact h5
        by_cases e : b = true
        · obtain ⟨q, h9, h10, h11, h11', h12⟩ := h7 e
          have hst : stepV P cl o ⟨T, D, H⟩ = some (q.1, ⟨T, q.2.1, q.2.2⟩) := by rw [stepV_eq]; simp only; rw [h9]; rfl
          exact fin hw1 (by rw [if_pos e, hst]; exact dOk_set h6) h12 h10 (fun _ => ⟨h11, h11'⟩) (putO_get _ _ _)
        · exact fin hw1 (by rw [if_neg e]; exact dOk_set h6) (h8 (by simpa using e)) (fun _ => rfl) (fun e2 => absurd e2 e) (putO_get _ _ _)

theorem read_row {H G : Hp} {id g : Nat} {r : List V × Bool} (h : getRow H id g = some r) : getRow (H ++ G) id g = some r := by
  unfold getRow at h ⊢
  cases hb : H[id]? with
  | none => rw [hb] at h; cases h
  | some b => rw [List.getElem?_append_left (List.getElem?_eq_some_iff.1 hb).1]; exact h
theorem read_map {H G : Hp} {id : Nat} {r : TypeId × List (V × V)} (h : getMap H id = some r) : getMap (H ++ G) id = some r := by
  unfold getMap at h ⊢
  cases hb : H[id]? with
  | none => rw [hb] at h; cases h
  | some b => rw [List.getElem?_append_left (List.getElem?_eq_some_iff.1 hb).1]; exact h
theorem len_more {ts : Array TypeId} {xs : List V} {H G : Hp} {r : V × Hp} (h : builtinV P .len ts xs H = some r) : ∃ H', builtinV P .len ts xs (H ++ G) = some (r.1, H') := by
  unfold builtinV at h ⊢
  generalize ts.toList = tl at h ⊢
  match tl, xs, h with
  | t :: tl', [x], h =>
    simp only at h ⊢
    obtain ⟨v, h1, rfl⟩ := Option.map_eq_some_iff.1 h
    refine ⟨H ++ G, ?_⟩
    unfold lenV at h1 ⊢
    split at h1
    · simp only [h1]; rfl
    · simp only [h1]; rfl
    · simp only [h1]; rfl
    · simp only [h1]; rfl
    · simp only [h1]; rfl
    · simp only [h1]; rfl
    · obtain ⟨q, h2, h3⟩ := Option.bind_eq_some_iff.1 h1
      simp only [read_map h2, Option.bind_some, h3]; rfl
    · cases h1
  | [], [], h => cases h
  | [], _ :: _, h => cases h
  | _ :: _, [], h => cases h
  | _ :: _, _ :: _ :: _, h => cases h
/-- What reads, reads the same where more lies behind. -/
theorem read_more {o : Op} {T : Fr} {H G : Hp} {r : V × Hp} (hk : kind P o = .read) (h : opV P o T H = some r) : ∃ H', opV P o T (H ++ G) = some (r.1, H') := by
  cases o <;> simp only [kind, reduceCtorEq] at hk
  case load t a =>
    simp only [opV] at h ⊢
    obtain ⟨v, h1, rfl⟩ := Option.map_eq_some_iff.1 h
    refine ⟨H ++ G, ?_⟩
    unfold loadV at h1 ⊢
    split at h1
    · obtain ⟨q, h2, h3⟩ := Option.bind_eq_some_iff.1 h1
      rw [read_row h2, Option.bind_some, h3]; rfl
    · cases h1
  case lookup t x i ok =>
    simp only [opV] at h ⊢
    obtain ⟨v, h1, rfl⟩ := Option.map_eq_some_iff.1 h
    refine ⟨H ++ G, ?_⟩
    unfold lookupV at h1 ⊢
    split at h1
    · obtain ⟨q, h2, h3⟩ := Option.bind_eq_some_iff.1 h1
      have : (match ev T x with | .nilmap => some (‹TypeId›, []) | .map id => getMap (H ++ G) id | _ => none) = some q ∨ True := .inr trivial
      clear this
      split at h2
      · simp only [h2, Option.bind_some, h3]; rfl
      · simp only [read_map h2, Option.bind_some, h3]; rfl
      · cases h2
    · cases h1
  case slice t x lo hi m =>
    cases m with
    | some m => simp only [opV] at h; cases h
    | none =>
      simp only [opV] at h ⊢
      obtain ⟨v, h1, rfl⟩ := Option.map_eq_some_iff.1 h
      refine ⟨H ++ G, ?_⟩
      unfold sliceV at h1 ⊢
      split at h1
      · simp only [h1]; rfl
      · simp only [h1]; rfl
      · simp only [h1]; rfl
      · obtain ⟨sz, h2, h3⟩ := Option.bind_eq_some_iff.1 h1
        obtain ⟨q, h4, h5⟩ := Option.bind_eq_some_iff.1 h3
        simp only [h2, Option.bind_some, read_row h4, h5]; rfl
      · cases h1
  case convert s d x =>
    simp only [opV] at h ⊢
    unfold convV at h ⊢
    split at h
    · simp only [Option.some.injEq] at h; subst h; exact ⟨_, rfl⟩
    · simp only [Option.some.injEq] at h; subst h; exact ⟨_, rfl⟩
    · rename_i h1 h2 _
      simp only [h1, h2] at hk
      split at hk <;> simp_all
    · rename_i h1 h2 _
      simp only [h1, h2] at hk
      cases hk
    · rename_i h1 h2
      split at h
      · split at h
        · simp only [Option.some.injEq] at h; subst h; exact ⟨_, rfl⟩
        · obtain ⟨q, h4, h5⟩ := Option.bind_eq_some_iff.1 h
          simp only [read_row h4, Option.bind_some]
          split at h5
          · rename_i hc
            rw [if_pos hc]
            obtain ⟨l, h6, rfl⟩ := Option.map_eq_some_iff.1 h5
            rw [h6]
            exact ⟨_, rfl⟩
          · cases h5
        · cases h
      · cases h
    · cases h
  case call c =>
    cases hc : c.callee with
    | value f => rw [hc] at hk; simp at hk
    | invoke => rw [hc] at hk; simp at hk
    | builtin b =>
      rw [hc] at hk
      simp only [opV, hc] at h ⊢
      cases b <;> simp only [reduceCtorEq] at hk
      exact len_more h
theorem still_run {n : Nat} {L : List St} {lo hi : Nat} (h : ∀ k, lo ≤ k → k ≤ hi → ∃ a b, L[k]? = some a ∧ L[k + 1]? = some b ∧ b.H.take n = a.H.take n) : ∀ d a b, lo + d ≤ hi + 1 → L[lo]? = some a → L[lo + d]? = some b → b.H.take n = a.H.take n
  | 0, a, b, _, h1, h2 => by rw [Nat.add_zero, h1] at h2; injection h2 with e; rw [e]
  | d + 1, a, b, hd, h1, h2 => by
    obtain ⟨x, y, h3, h4, h5⟩ := h (lo + d) (by omega) (by omega)
    have := still_run h d a x (by omega) h1 h3
    rw [show lo + (d + 1) = lo + d + 1 by omega, h4] at h2
    injection h2 with e
    rw [← e, h5, this]

theorem same_get {all : List Oper} {L : List St} (h : ∀ (j : Nat) (o : Oper), all[j]? = some o → ∃ s1 s2, L[j]? = some s1 ∧ L[j + 1]? = some s2 ∧ ∀ t, o.dst ≠ some t → get s2.T t = get s1.T t) {t : Nat} {lo : Nat} : ∀ (d : Nat) (a b : St), (∀ k o, lo ≤ k → k < lo + d → all[k]? = some o → o.dst ≠ some t) → lo + d ≤ all.length → L[lo]? = some a → L[lo + d]? = some b → get b.T t = get a.T t
  | 0, a, b, _, _, h1, h2 => by rw [Nat.add_zero, h1] at h2; injection h2 with e; rw [e]
  | d + 1, a, b, hk, hl, h1, h2 => by
    obtain ⟨x, y, h3, h4, h5⟩ := h (lo + d) _ (List.getElem?_eq_getElem (by omega : lo + d < all.length))
    have := same_get h d a x (fun k o h6 h7 => hk k o h6 (by omega)) (by omega) h1 h3
    rw [show lo + (d + 1) = lo + d + 1 by omega, h4] at h2
    injection h2 with e
    rw [← e, h5 t (hk (lo + d) _ (by omega) (by omega) (List.getElem?_eq_getElem (by omega))), this]
theorem readP_mem : ∀ {rs : List (Option (Nat × Bool) × Op)} {T : Fr} {H H' : Hp} {r : Option (Nat × Bool) × Op}, readP P rs T H H' → r ∈ rs → guardR r.1 T (readO (opV P r.2 T H) (opV P r.2 T H'))
  | r' :: rs, T, H, H', r, h, hm => by
    rcases List.mem_cons.1 hm with rfl | hm
    · exact h.1
    · exact readP_mem h.2 hm
theorem guard_wanted {all : List Oper} {o : Oper} {g : Option (Nat × Bool)} {T : Fr} {c : Prop} (hg : gslot all o = some g) (hw : wantedV all o T = some true) (h : guardR g T c) : c := by
  unfold gslot at hg
  unfold wantedV at hw
  split at hg
  · rename_i e
    injection hg with hg
    subst hg
    exact h
  · rename_i j w e
    obtain ⟨d, h1, rfl⟩ := Option.map_eq_some_iff.1 hg
    rw [e] at hw
    simp only [h1] at hw
    obtain ⟨b, h2, h3⟩ := h
    have hw' : wantB (get T d) w = some true := hw
    rw [h2] at hw'
    injection hw' with hw'
    exact h3 hw'
theorem dyn_of {n : Nat} {all : List Oper} {L : List St} (hearly : ((unordP P all).filter fun p => decide (p.1 < p.2)).all (earlyOk all) = true)
    (h : ∀ (j : Nat) (o : Oper), all[j]? = some o → ∃ s1 s2, L[j]? = some s1 ∧ L[j + 1]? = some s2 ∧ stillP (flagsOf ((unordP P all).filter fun p => !decide (p.1 < p.2)) j).1 n s2.H s1.H ∧ (wantedV all o s1.T = some true → selfP P (flagsOf ((unordP P all).filter fun p => !decide (p.1 < p.2)) j).2 n o.op s1.T s1.H ∧ readP P (rdOf all ((unordP P all).filter fun p => decide (p.1 < p.2)) j) s1.T s1.H s2.H) ∧ ∀ t, o.dst ≠ some t → get s2.T t = get s1.T t) : drawDyn P all L = true := by
  have hgs : ∀ (j : Nat) (o : Oper), all[j]? = some o → ∃ s1 s2, L[j]? = some s1 ∧ L[j + 1]? = some s2 ∧ ∀ t, o.dst ≠ some t → get s2.T t = get s1.T t := fun j o hj =>
    let ⟨s1, s2, h1, h2, _, _, h3⟩ := h j o hj
    ⟨s1, s2, h1, h2, h3⟩
  unfold drawDyn
  simp only [List.all_eq_true, List.mem_range]
  intro q hq
  split
  · rename_i oq sq hoq hsq
    simp only [Bool.or_eq_true, List.all_eq_true, List.mem_range]
    by_cases hk : kind P oq.op = .read
    · by_cases hw : wantedV all oq sq.T = some true
      · refine .inr fun e he => ?_
        split
        · rename_i oe s1 s2 hoe hs1 hs2
          simp only [Bool.or_eq_true]
          by_cases hke : kind P oe.op = .eff
          · by_cases hqe : waitsFor (befores all) q e = true
            · simp [hqe]
            · by_cases heq : waitsFor (befores all) e q = true
              · simp [heq]
              · by_cases hwe : wantedV all oe s1.T = some true
                · refine .inr ?_
                  have hmem : (q, e) ∈ unordP P all := by
                    unfold unordP
                    simp only [List.mem_flatMap, List.mem_filterMap, List.mem_range]
                    refine ⟨q, hq, e, he, ?_⟩
                    rw [hoq, hoe]
                    simp only
                    rw [if_pos]
                    simp [hk, hke, hqe, heq]
                  by_cases hlt : q < e
                  · have hme : (q, e) ∈ (unordP P all).filter fun p => decide (p.1 < p.2) := List.mem_filter.2 ⟨hmem, by simpa using hlt⟩
                    have hok := List.all_eq_true.1 hearly _ hme
                    unfold earlyOk at hok
                    simp only [hoq, Bool.and_eq_true, List.all_eq_true, List.mem_range] at hok
                    obtain ⟨hg, hok⟩ := hok
                    obtain ⟨g, hg⟩ := Option.isSome_iff_exists.1 hg
                    have hread : (g, oq.op) ∈ rdOf all ((unordP P all).filter fun p => decide (p.1 < p.2)) e := by
                      unfold rdOf
                      simp only [List.mem_filterMap]
                      exact ⟨(q, e), hme, by simp [hoq, hg]⟩
                    obtain ⟨s1', s2', h3, h4, _, h6, _⟩ := h e oe hoe
                    rw [hs1] at h3
                    rw [hs2] at h4
                    injection h3 with h3
                    injection h4 with h4
                    subst h3 h4
                    have hagree : ∀ t ∈ readsOf all oq, get s1.T t = get sq.T t := by
                      intro t ht
                      refine same_get hgs (lo := q) (e - q) sq s1 (fun k o h7 h8 h9 hd => ?_) (by omega) hsq (by rw [show q + (e - q) = e by omega]; exact hs1)
                      have := hok k (by omega)
                      rw [h9] at this
                      simp only [hd, Bool.or_eq_true, decide_eq_true_eq, Bool.not_eq_true'] at this
                      rcases this with h10 | h10
                      · omega
                      · rw [List.contains_iff_mem.2 ht] at h10
                        cases h10
                    have hwq : wantedV all oq s1.T = some true := by
                      rw [← hw]
                      unfold wantedV
                      cases hgd : oq.guard with
                      | none => rfl
                      | some r =>
                        simp only
                        cases hd : (all[r.1]?).bind (·.dst) with
                        | none => rfl
                        | some d =>
                          simp only
                          rw [hagree d (by unfold readsOf; rw [hgd]; simp [hd])]
                    obtain ⟨a, b, k1, k2, k3, k4⟩ := guard_wanted hg hwq (readP_mem (h6 hwe).2 hread)
                    have hops : ∀ H, opV P oq.op s1.T H = opV P oq.op sq.T H := fun H => opV_congr _ fun x hx => by
                      cases x with
                      | tmp t => exact hagree t (by unfold readsOf; simp only [List.mem_append, List.mem_filterMap]; exact .inl ⟨.tmp t, by simpa using hx, rfl⟩)
                      | const v => rfl
                      | global g => rfl
                      | func f => rfl
                    rw [hops] at k1 k2
                    rw [k1, k2]
                    show eqA a.1 b.1 = true
                    rw [k3]; exact k4
                  · have hml : (q, e) ∈ (unordP P all).filter fun p => !decide (p.1 < p.2) := List.mem_filter.2 ⟨hmem, by simpa using hlt⟩
                    have hfl : ∀ k, min q e ≤ k → k ≤ max q e → ∃ a b, L[k]? = some a ∧ L[k + 1]? = some b ∧ b.H.take n = a.H.take n := by
                      intro k h1 h2
                      have hlt : k < all.length := by omega
                      obtain ⟨a, b, h3, h4, h5, _⟩ := h k _ (List.getElem?_eq_getElem hlt)
                      refine ⟨a, b, h3, h4, h5 ?_⟩
                      simp only [flagsOf, List.any_eq_true, Bool.and_eq_true, decide_eq_true_eq]
                      exact ⟨(q, e), hml, h1, h2⟩
                    obtain ⟨s0, _, hs0, _⟩ := h (min q e) _ (List.getElem?_eq_getElem (by omega : min q e < all.length))
                    have same : ∀ m s, min q e ≤ m → m ≤ max q e + 1 → L[m]? = some s → s.H.take n = s0.H.take n := by
                      intro m s h1 h2 h3
                      exact still_run hfl (m - min q e) s0 s (by omega) hs0 (by rw [show min q e + (m - min q e) = m by omega]; exact h3)
                    have e1 := same e s1 (by omega) (by omega) hs1
                    have e2 := same (e + 1) s2 (by omega) (by omega) hs2
                    have e3 := same q sq (by omega) (by omega) hsq
                    obtain ⟨sq', _, h3, _, _, h6, _⟩ := h q oq hoq
                    rw [hsq] at h3
                    injection h3 with h3
                    subst h3
                    obtain ⟨r, h7, h8⟩ := (h6 hw).1 (by simp only [flagsOf, List.any_eq_true]; exact ⟨(q, e), hml, by simp⟩)
                    have k1 : s1.H.take n = sq.H.take n := e1.trans e3.symm
                    have k2 : s2.H.take n = sq.H.take n := e2.trans e3.symm
                    obtain ⟨H1, h9⟩ := read_more (G := s1.H.drop n) hk h7
                    obtain ⟨H2, h10⟩ := read_more (G := s2.H.drop n) hk h7
                    rw [← k1, List.take_append_drop] at h9
                    rw [← k2, List.take_append_drop] at h10
                    rw [h9, h10]
                    exact h8
                · simp [hwe]
          · simp [hke]
        · rfl
      · simp [hw]
    · simp [hk]
  · rfl
end
end Go.Am
/-
  The abstract machine, part ZB: code in short form is the code; how simp steps through it. No statement of the seat stands here.
-/
namespace Go.Am
open Go

section
variable {P : Program} {Pr : Prims} {N : Nat}
theorem Big_code {c : Cc} {s s' : St} {e : Ex} (h : Big P (callL P Pr) N c s e s') : ∀ code, compC P code = some c → codeL P Pr N code s = some (e, s') := by
  induction h with
  | skip s =>
    intro code hc
    cases code <;> simp only [compC] at hc <;> try cases hc
    · rw [codeL_eq]; rfl
    · obtain ⟨_, _, e⟩ := Option.map_eq_some_iff.1 hc; cases e
    · obtain ⟨_, _, hc⟩ := Option.bind_eq_some_iff.1 hc; obtain ⟨_, _, e⟩ := Option.map_eq_some_iff.1 hc; cases e
    · obtain ⟨_, _, hc⟩ := Option.bind_eq_some_iff.1 hc; obtain ⟨_, _, e⟩ := Option.map_eq_some_iff.1 hc; cases e
    · obtain ⟨_, _, e⟩ := Option.map_eq_some_iff.1 hc; cases e
    · obtain ⟨_, _, e⟩ := Option.map_eq_some_iff.1 hc; cases e
  | reg l s s' hw =>
    intro code hc
    cases code <;> simp only [compC] at hc <;> try cases hc
    · rename_i id ops draw
      obtain ⟨l', h1, e⟩ := Option.map_eq_some_iff.1 hc
      injection e with e
      subst e
      rw [codeL_eq]
      unfold compR at h1
      simp only [codeF]
      split at h1
      · rename_i hd
        split at h1
        · rename_i hok
          obtain ⟨hok, hearly⟩ := hok
          obtain ⟨_, tr, h2, _, h3⟩ := W_trace h1 hw
          rw [if_pos hd, if_pos hok, h2]
          simp only [Option.bind_some]
          rw [if_pos]
          refine dyn_of (n := s.H.length) hearly fun j o hj => ?_
          obtain ⟨s1, s2, h4, h5, h6, h7⟩ := h3 j o hj
          rw [Nat.zero_add] at h6 h7
          exact ⟨s1, s2, h4, h5, h6, h7⟩
        · cases h1
      · rename_i hd
        obtain ⟨h2, _⟩ := W_trace h1 hw
        rw [if_neg hd, h2]
        rfl
    · obtain ⟨_, _, hc⟩ := Option.bind_eq_some_iff.1 hc; obtain ⟨_, _, e⟩ := Option.map_eq_some_iff.1 hc; cases e
    · obtain ⟨_, _, hc⟩ := Option.bind_eq_some_iff.1 hc; obtain ⟨_, _, e⟩ := Option.map_eq_some_iff.1 hc; cases e
    · obtain ⟨_, _, e⟩ := Option.map_eq_some_iff.1 hc; cases e
    · obtain ⟨_, _, e⟩ := Option.map_eq_some_iff.1 hc; cases e
  | seq a b s s1 e s' _ _ ih1 ih2 =>
    intro code hc
    cases code <;> simp only [compC] at hc <;> try cases hc
    · obtain ⟨_, _, e⟩ := Option.map_eq_some_iff.1 hc; cases e
    · obtain ⟨x, h1, hc⟩ := Option.bind_eq_some_iff.1 hc
      obtain ⟨y, h2, e⟩ := Option.map_eq_some_iff.1 hc
      injection e with e1 e2
      subst e1 e2
      rw [codeL_eq]
      simp only [codeF]
      rw [ih1 _ h1]
      exact ih2 _ h2
    · obtain ⟨_, _, hc⟩ := Option.bind_eq_some_iff.1 hc; obtain ⟨_, _, e⟩ := Option.map_eq_some_iff.1 hc; cases e
    · obtain ⟨_, _, e⟩ := Option.map_eq_some_iff.1 hc; cases e
    · obtain ⟨_, _, e⟩ := Option.map_eq_some_iff.1 hc; cases e
  | seqx a b s e s' _ hne ih1 =>
    intro code hc
    cases code <;> simp only [compC] at hc <;> try cases hc
    · obtain ⟨_, _, e⟩ := Option.map_eq_some_iff.1 hc; cases e
    · obtain ⟨x, h1, hc⟩ := Option.bind_eq_some_iff.1 hc
      obtain ⟨y, h2, e⟩ := Option.map_eq_some_iff.1 hc
      injection e with e1 e2
      subst e1 e2
      rw [codeL_eq]
      simp only [codeF]
      rw [ih1 _ h1]
      cases e with
      | nor => exact absurd rfl hne
      | exit id => rfl
      | ret => rfl
    · obtain ⟨_, _, hc⟩ := Option.bind_eq_some_iff.1 hc; obtain ⟨_, _, e⟩ := Option.map_eq_some_iff.1 hc; cases e
    · obtain ⟨_, _, e⟩ := Option.map_eq_some_iff.1 hc; cases e
    · obtain ⟨_, _, e⟩ := Option.map_eq_some_iff.1 hc; cases e
  | condt c a b s e s' hv _ ih1 =>
    intro code hc
    cases code <;> simp only [compC] at hc <;> try cases hc
    · obtain ⟨_, _, e⟩ := Option.map_eq_some_iff.1 hc; cases e
    · obtain ⟨_, _, hc⟩ := Option.bind_eq_some_iff.1 hc; obtain ⟨_, _, e⟩ := Option.map_eq_some_iff.1 hc; cases e
    · obtain ⟨x, h1, hc⟩ := Option.bind_eq_some_iff.1 hc
      obtain ⟨y, h2, e⟩ := Option.map_eq_some_iff.1 hc
      injection e with e0 e1 e2
      subst e0 e1 e2
      rw [codeL_eq]
      simp only [codeF]
      rw [hv]
      exact ih1 _ h1
    · obtain ⟨_, _, e⟩ := Option.map_eq_some_iff.1 hc; cases e
    · obtain ⟨_, _, e⟩ := Option.map_eq_some_iff.1 hc; cases e
  | condf c a b s e s' hv _ ih1 =>
    intro code hc
    cases code <;> simp only [compC] at hc <;> try cases hc
    · obtain ⟨_, _, e⟩ := Option.map_eq_some_iff.1 hc; cases e
    · obtain ⟨_, _, hc⟩ := Option.bind_eq_some_iff.1 hc; obtain ⟨_, _, e⟩ := Option.map_eq_some_iff.1 hc; cases e
    · obtain ⟨x, h1, hc⟩ := Option.bind_eq_some_iff.1 hc
      obtain ⟨y, h2, e⟩ := Option.map_eq_some_iff.1 hc
      injection e with e0 e1 e2
      subst e0 e1 e2
      rw [codeL_eq]
      simp only [codeF]
      rw [hv]
      exact ih1 _ h2
    · obtain ⟨_, _, e⟩ := Option.map_eq_some_iff.1 hc; cases e
    · obtain ⟨_, _, e⟩ := Option.map_eq_some_iff.1 hc; cases e
  | block id b s e s' _ hne ih1 =>
    intro code hc
    cases code <;> simp only [compC] at hc <;> try cases hc
    · obtain ⟨_, _, e⟩ := Option.map_eq_some_iff.1 hc; cases e
    · obtain ⟨_, _, hc⟩ := Option.bind_eq_some_iff.1 hc; obtain ⟨_, _, e⟩ := Option.map_eq_some_iff.1 hc; cases e
    · obtain ⟨_, _, hc⟩ := Option.bind_eq_some_iff.1 hc; obtain ⟨_, _, e⟩ := Option.map_eq_some_iff.1 hc; cases e
    · obtain ⟨x, h1, e⟩ := Option.map_eq_some_iff.1 hc
      injection e with e0 e1
      subst e0 e1
      rw [codeL_eq]
      simp only [codeF]
      rw [ih1 _ h1]
      cases e with
      | nor => rfl
      | ret => rfl
      | exit j =>
        simp only [Option.map_some]
        rw [if_neg fun e => hne (by rw [e])]
    · obtain ⟨_, _, e⟩ := Option.map_eq_some_iff.1 hc; cases e
  | blockx id b s s' _ ih1 =>
    intro code hc
    cases code <;> simp only [compC] at hc <;> try cases hc
    · obtain ⟨_, _, e⟩ := Option.map_eq_some_iff.1 hc; cases e
    · obtain ⟨_, _, hc⟩ := Option.bind_eq_some_iff.1 hc; obtain ⟨_, _, e⟩ := Option.map_eq_some_iff.1 hc; cases e
    · obtain ⟨_, _, hc⟩ := Option.bind_eq_some_iff.1 hc; obtain ⟨_, _, e⟩ := Option.map_eq_some_iff.1 hc; cases e
    · obtain ⟨x, h1, e⟩ := Option.map_eq_some_iff.1 hc
      injection e with e0 e1
      subst e0 e1
      rw [codeL_eq]
      simp only [codeF]
      rw [ih1 _ h1]
      simp only [Option.map_some, if_true]
    · obtain ⟨_, _, e⟩ := Option.map_eq_some_iff.1 hc; cases e
  | loop b s s1 e s' _ _ ih1 ih2 =>
    intro code hc
    cases code <;> simp only [compC] at hc <;> try cases hc
    · obtain ⟨_, _, e⟩ := Option.map_eq_some_iff.1 hc; cases e
    · obtain ⟨_, _, hc⟩ := Option.bind_eq_some_iff.1 hc; obtain ⟨_, _, e⟩ := Option.map_eq_some_iff.1 hc; cases e
    · obtain ⟨_, _, hc⟩ := Option.bind_eq_some_iff.1 hc; obtain ⟨_, _, e⟩ := Option.map_eq_some_iff.1 hc; cases e
    · obtain ⟨_, _, e⟩ := Option.map_eq_some_iff.1 hc; cases e
    · rename_i body
      have hc' := hc
      obtain ⟨x, h1, e⟩ := Option.map_eq_some_iff.1 hc
      injection e with e1
      subst e1
      rw [codeL_eq]
      simp only [codeF]
      rw [ih1 _ h1]
      exact ih2 (.loop body) hc'
  | loopx b s e s' _ hne ih1 =>
    intro code hc
    cases code <;> simp only [compC] at hc <;> try cases hc
    · obtain ⟨_, _, e⟩ := Option.map_eq_some_iff.1 hc; cases e
    · obtain ⟨_, _, hc⟩ := Option.bind_eq_some_iff.1 hc; obtain ⟨_, _, e⟩ := Option.map_eq_some_iff.1 hc; cases e
    · obtain ⟨_, _, hc⟩ := Option.bind_eq_some_iff.1 hc; obtain ⟨_, _, e⟩ := Option.map_eq_some_iff.1 hc; cases e
    · obtain ⟨_, _, e⟩ := Option.map_eq_some_iff.1 hc; cases e
    · obtain ⟨x, h1, e⟩ := Option.map_eq_some_iff.1 hc
      injection e with e1
      subst e1
      rw [codeL_eq]
      simp only [codeF]
      rw [ih1 _ h1]
      cases e with
      | nor => exact absurd rfl hne
      | exit id => rfl
      | ret => rfl
  | exit id s =>
    intro code hc
    cases code <;> simp only [compC] at hc <;> try cases hc
    · obtain ⟨_, _, e⟩ := Option.map_eq_some_iff.1 hc; cases e
    · obtain ⟨_, _, hc⟩ := Option.bind_eq_some_iff.1 hc; obtain ⟨_, _, e⟩ := Option.map_eq_some_iff.1 hc; cases e
    · obtain ⟨_, _, hc⟩ := Option.bind_eq_some_iff.1 hc; obtain ⟨_, _, e⟩ := Option.map_eq_some_iff.1 hc; cases e
    · obtain ⟨_, _, e⟩ := Option.map_eq_some_iff.1 hc; cases e
    · obtain ⟨_, _, e⟩ := Option.map_eq_some_iff.1 hc; cases e
    · rw [codeL_eq]; rfl
  | ret s =>
    intro code hc
    cases code <;> simp only [compC] at hc <;> try cases hc
    · obtain ⟨_, _, e⟩ := Option.map_eq_some_iff.1 hc; cases e
    · obtain ⟨_, _, hc⟩ := Option.bind_eq_some_iff.1 hc; obtain ⟨_, _, e⟩ := Option.map_eq_some_iff.1 hc; cases e
    · obtain ⟨_, _, hc⟩ := Option.bind_eq_some_iff.1 hc; obtain ⟨_, _, e⟩ := Option.map_eq_some_iff.1 hc; cases e
    · obtain ⟨_, _, e⟩ := Option.map_eq_some_iff.1 hc; cases e
    · obtain ⟨_, _, e⟩ := Option.map_eq_some_iff.1 hc; cases e
    · rw [codeL_eq]; rfl

/-- What a function's end asks. -/
def RetQ (P : Program) (rs : List ResultVar) (R : V → Hp → Prop) : Ex → Fr → Dfr → Hp → Prop
  | .exit _, _, _, _ => False
  | _, T, D, H => D = [] ∧ bindW ((mapO (resV P H T) rs).bind tupV) fun v => R v H
theorem call_of {k n : Nat} {fn : Func} {code : Code} {c : Cc} (hp : Pr.call k = none) (hf : P.funcs[k]? = some fn) (hb : fn.body = some code) (hc : compC P code = some c) {rs : List ResultVar} (hr : fn.results.toList = rs) {args : List V} (hn : max args.length fn.ntmps = n) {H : Hp} {R : V → Hp → Prop}
    (h : Wp P (callL P Pr) n c args [] H (RetQ P rs R)) : ∃ v H', R v H' ∧ callL P Pr k args H = some (Pr.gc H (v, H')) := by
  obtain ⟨e, s', h1, h2⟩ := h
  have hrun := Big_code h1 code hc
  cases e with
  | exit id => exact h2.elim
  | nor =>
    obtain ⟨hD, v, hv, hR⟩ := h2
    refine ⟨v, s'.H, hR, ?_⟩
    rw [callL_eq]
    unfold callF
    simp only [hp, hf, hb, Option.bind_some, hn, hrun, hD, defersV]
    unfold resultsV
    rw [hr, hv]
    rfl
  | ret =>
    obtain ⟨hD, v, hv, hR⟩ := h2
    refine ⟨v, s'.H, hR, ?_⟩
    rw [callL_eq]
    unfold callF
    simp only [hp, hf, hb, Option.bind_some, hn, hrun, hD, defersV]
    unfold resultsV
    rw [hr, hv]
    rfl
end
end Go.Am
/-
  The abstract machine, part ZC: how simp steps through code in short form. No statement of the seat stands here.
-/
namespace Go.Am
open Go

section
variable {P : Program} {cl : CallT} {N n0 : Nat} {T : Fr} {D : Dfr} {H : Hp} {Q : Fr → Dfr → Hp → Prop} {R : Ex → Fr → Dfr → Hp → Prop} {rest : List Co}

@[go_sem] theorem bindW_some {α : Type} (a : α) (k : α → Prop) : bindW (some a) k = k a := by simp [bindW]
/-- A branch, as data: nothing is stepped into before the test is settled. -/
def brQ (P : Program) (cl : CallT) (N : Nat) (v : V) (a b : Cc) (T : Fr) (D : Dfr) (H : Hp) (R : Ex → Fr → Dfr → Hp → Prop) : Prop := ∃ x, v = .bool x ∧ (x = true → Wp P cl N a T D H R) ∧ (x = false → Wp P cl N b T D H R)
@[go_sem] theorem brQ_t (a b : Cc) : brQ P cl N (.bool true) a b T D H R = Wp P cl N a T D H R := by simp [brQ]
@[go_sem] theorem brQ_f (a b : Cc) : brQ P cl N (.bool false) a b T D H R = Wp P cl N b T D H R := by simp [brQ]
theorem brQ_dec {p : Prop} [Decidable p] {a b : Cc} (h1 : p → Wp P cl N a T D H R) (h2 : ¬ p → Wp P cl N b T D H R) : brQ P cl N (.bool (decide p)) a b T D H R := ⟨_, rfl, fun h => h1 (of_decide_eq_true h), fun h => h2 (of_decide_eq_false h)⟩
theorem brQ_bool {x : Bool} {a b : Cc} (h1 : x = true → Wp P cl N a T D H R) (h2 : x = false → Wp P cl N b T D H R) : brQ P cl N (.bool x) a b T D H R := ⟨_, rfl, h1, h2⟩
@[go_sem] theorem stillP_f (n : Nat) (x y : Hp) : stillP false n x y = True := by simp [stillP]
@[go_sem] theorem stillP_t (n : Nat) (x y : Hp) : stillP true n x y = (x.take n = y.take n) := by simp [stillP]
/-- What a reader has read is a value that is equal to itself. -/
def selfO (x : Option V) : Prop := ∃ v, x = some v ∧ eqA v v = true
@[go_sem] theorem selfO_some (v : V) : selfO (some v) = (eqA v v = true) := by simp [selfO]
@[go_sem] theorem selfP_f (n : Nat) (o : Op) : selfP P false n o T H = True := by simp [selfP]
@[go_sem] theorem readP_nil (H' : Hp) : readP P [] T H H' = True := rfl
@[go_sem] theorem readP_none (o : Op) (rs : List (Option (Nat × Bool) × Op)) (H' : Hp) : readP P ((none, o) :: rs) T H H' = (readO (opV P o T H) (opV P o T H') ∧ readP P rs T H H') := rfl
def guardV (v : V) (w : Bool) (c : Prop) : Prop := ∃ x, wantB v w = some x ∧ (x = true → c)
@[go_sem] theorem guardV_tup (vs : List V) (w : Bool) (c : Prop) : guardV (.tup vs) w c = True := by simp [guardV, wantB]
@[go_sem] theorem guardV_tt (c : Prop) : guardV (.bool true) true c = c := by simp [guardV, wantB]
@[go_sem] theorem guardV_tf (c : Prop) : guardV (.bool true) false c = True := by simp [guardV, wantB]
@[go_sem] theorem guardV_ft (c : Prop) : guardV (.bool false) true c = True := by simp [guardV, wantB]
@[go_sem] theorem guardV_ff (c : Prop) : guardV (.bool false) false c = c := by simp [guardV, wantB]
@[go_sem] theorem readP_some (j : Nat) (w : Bool) (o : Op) (rs : List (Option (Nat × Bool) × Op)) (H' : Hp) : readP P ((some (j, w), o) :: rs) T H H' = (guardV (get T j) w (readO (opV P o T H) (opV P o T H')) ∧ readP P rs T H H') := rfl
/-- Read the same twice. -/
def readV (x y : Option V) : Prop := ∃ a b, x = some a ∧ y = some b ∧ b = a ∧ eqA a a = true
@[go_sem] theorem readV_some (a b : V) : readV (some a) (some b) = (b = a ∧ eqA a a = true) := by simp [readV]
theorem readO_of {x y : Option V} {H H' : Hp} : readO (x.map fun v => (v, H)) (y.map fun v => (v, H')) = readV x y := by
  simp only [readO, readV, eq_iff_iff]
  constructor
  · rintro ⟨a, b, h1, h2, h3, h4⟩
    obtain ⟨v, h5, rfl⟩ := Option.map_eq_some_iff.1 h1
    obtain ⟨w, h6, rfl⟩ := Option.map_eq_some_iff.1 h2
    exact ⟨v, w, h5, h6, h3, h4⟩
  · rintro ⟨a, b, rfl, rfl, h3, h4⟩
    exact ⟨_, _, rfl, rfl, h3, h4⟩
@[go_sem] theorem readO_load (t : TypeId) (a : Operand) (H' : Hp) : readO (opV P (.load t a) T H) (opV P (.load t a) T H') = readV (loadV P t H (ev T a)) (loadV P t H' (ev T a)) := readO_of
@[go_sem] theorem readO_lookup (t : TypeId) (x i : Operand) (ok : Bool) (H' : Hp) : readO (opV P (.lookup t x i ok) T H) (opV P (.lookup t x i ok) T H') = readV (lookupV P t H (ev T x) (ev T i) ok) (lookupV P t H' (ev T x) (ev T i) ok) := readO_of
@[go_sem] theorem readO_slice (t : TypeId) (x : Operand) (lo hi : Option Operand) (H' : Hp) : readO (opV P (.slice t x lo hi none) T H) (opV P (.slice t x lo hi none) T H') = readV (sliceV P t H (ev T x) (lo.map (ev T)) (hi.map (ev T))) (sliceV P t H' (ev T x) (lo.map (ev T)) (hi.map (ev T))) := readO_of
def lenL (P : Program) (t : TypeId) (H : Hp) : List V → Option V
  | [x] => lenV P t H x
  | _ => none
@[go_sem] theorem lenL_one (t : TypeId) (x : V) : lenL P t H [x] = lenV P t H x := rfl
@[go_sem] theorem readO_len (ags : Array Operand) (t : TypeId) (ts : List TypeId) (H' : Hp) : readO (opV P (.call ⟨.builtin .len, ags, List.toArray (t :: ts)⟩) T H) (opV P (.call ⟨.builtin .len, ags, List.toArray (t :: ts)⟩) T H') = readV (lenL P t H (ags.toList.map (ev T))) (lenL P t H' (ags.toList.map (ev T))) := by
  have h : ∀ H, opV P (.call ⟨.builtin .len, ags, List.toArray (t :: ts)⟩) T H = (lenL P t H (ags.toList.map (ev T))).map fun v => (v, H) := by
    intro H
    simp only [opV, builtinV]
    generalize ags.toList.map (ev T) = l
    match l with
    | [x] => rfl
    | [] => rfl
    | _ :: _ :: _ => rfl
  rw [h, h, readO_of]
/-- The one element of a list. -/
def bindO (l : List V) (k : V → Prop) : Prop := ∃ x, l = [x] ∧ k x
theorem selfP_of {n : Nat} {o : Op} {x : Option V} (h : opV P o T (H.take n) = x.map fun v => (v, H.take n)) : selfP P true n o T H = selfO x := by
  simp only [selfP, true_implies, h, selfO, eq_iff_iff]
  constructor
  · rintro ⟨r, h1, h2⟩
    obtain ⟨v, h3, rfl⟩ := Option.map_eq_some_iff.1 h1
    exact ⟨v, h3, h2⟩
  · rintro ⟨v, rfl, h2⟩
    exact ⟨_, rfl, h2⟩
@[go_sem] theorem selfP_load (n : Nat) (t : TypeId) (a : Operand) : selfP P true n (.load t a) T H = selfO (loadV P t (H.take n) (ev T a)) := selfP_of rfl
@[go_sem] theorem selfP_lookup (n : Nat) (t : TypeId) (x i : Operand) (ok : Bool) : selfP P true n (.lookup t x i ok) T H = selfO (lookupV P t (H.take n) (ev T x) (ev T i) ok) := selfP_of rfl
@[go_sem] theorem selfP_slice (n : Nat) (t : TypeId) (x : Operand) (lo hi : Option Operand) : selfP P true n (.slice t x lo hi none) T H = selfO (sliceV P t (H.take n) (ev T x) (lo.map (ev T)) (hi.map (ev T))) := selfP_of rfl
@[go_sem] theorem selfP_len (n : Nat) (ags : Array Operand) (t : TypeId) (ts : List TypeId) : selfP P true n (.call ⟨.builtin .len, ags, List.toArray (t :: ts)⟩) T H = bindO (ags.toList.map (ev T)) fun x => selfO (lenV P t (H.take n) x) := by
  simp only [selfP, true_implies, opV, builtinV, selfO, bindO, eq_iff_iff]
  generalize ags.toList.map (ev T) = l
  constructor
  · rintro ⟨r, h1, h2⟩
    match l, h1 with
    | [x], h1 =>
      obtain ⟨v, h3, rfl⟩ := Option.map_eq_some_iff.1 h1
      exact ⟨x, rfl, v, h3, h2⟩
    | [], h1 => cases h1
    | _ :: _ :: _, h1 => cases h1
  · rintro ⟨x, rfl, v, h1, h2⟩
    simp only [h1]
    exact ⟨_, rfl, h2⟩
@[go_sem] theorem bindO_one (v : V) (k : V → Prop) : bindO [v] k = k v := by simp [bindO]
@[go_sem] theorem eqA_int (k : IntKind) (n : Int) : eqA (.int k n) (.int k n) = true := by simp [eqA, eqC, eqBase]
@[go_sem] theorem eqA_bool (c : Bool) : eqA (.bool c) (.bool c) = true := by simp [eqA, eqC, eqBase]
@[go_sem] theorem eqA_str (c : List UInt8) : eqA (.str c) (.str c) = true := by simp [eqA, eqC, eqBase]
@[go_sem] theorem eqA_agg (cs : List V) : eqA (.agg cs) (.agg cs) = eqList eqC cs cs := rfl
@[go_sem] theorem eqA_nilslice : eqA .nilslice .nilslice = true := rfl
@[go_sem] theorem eqA_slice (a b c d e : Nat) (cp : Cap) : eqA (.slice a b c d e cp) (.slice a b c d e cp) = true := by cases cp <;> simp [eqA, eqC, eqBase]
@[go_sem] theorem eqA_ptr (a b c : Nat) : eqA (.ptr a b c) (.ptr a b c) = true := by simp [eqA, eqC, eqBase]
@[go_sem] theorem eqA_map (a : Nat) : eqA (.map a) (.map a) = true := by simp [eqA, eqC, eqBase]
@[go_sem] theorem take_len (l : Hp) : l.take l.length = l := List.take_length
@[go_sem] theorem take_app1 (l a : Hp) : (l ++ a).take l.length = l := List.take_left' rfl
@[go_sem] theorem take_app2 (l a b : Hp) : ((l ++ a) ++ b).take l.length = l := by rw [List.append_assoc, take_app1]
@[go_sem] theorem take_app3 (l a b c : Hp) : (((l ++ a) ++ b) ++ c).take l.length = l := by rw [List.append_assoc, take_app2]
@[go_sem] theorem take_app4 (l a b c d : Hp) : ((((l ++ a) ++ b) ++ c) ++ d).take l.length = l := by rw [List.append_assoc, take_app3]

@[go_sem] theorem W_nil : W P cl N n0 [] T D H Q = Q T D H := rfl
/-- What follows a step, as data. -/
def stepQ (P : Program) (cl : CallT) (N n0 : Nat) (x : Option (V × Dfr × Hp)) (d : Option Nat) (a : Bool) (rs : List (Option (Nat × Bool) × Op)) (rest : List Co) (T : Fr) (H : Hp) (Q : Fr → Dfr → Hp → Prop) : Prop := ∃ q, x = some q ∧ (stillP a n0 q.2.2 H ∧ readP P rs T H q.2.2 ∧ W P cl N n0 rest (putO T d q.1) q.2.1 q.2.2 Q)
def guardQ (P : Program) (cl : CallT) (N n0 : Nat) (v : V) (w : Bool) (o : Op) (d : Option Nat) (a b : Bool) (rs : List (Option (Nat × Bool) × Op)) (rest : List Co) (T : Fr) (D : Dfr) (H : Hp) (Q : Fr → Dfr → Hp → Prop) : Prop := ∃ x, wantB v w = some x ∧ (x = true → selfP P b n0 o T H ∧ stepQ P cl N n0 (stepW P cl o T D H) d a rs rest T H Q) ∧ (x = false → W P cl N n0 rest (putO T d (.tup [])) D H Q)
@[go_sem] theorem stepQ_some (v : V) (D' : Dfr) (H' : Hp) (d : Nat) (a : Bool) (rs : List (Option (Nat × Bool) × Op)) : stepQ P cl N n0 (some (v, D', H')) (some d) a rs rest T H Q = (stillP a n0 H' H ∧ readP P rs T H H' ∧ W P cl N n0 rest (put T d v) D' H' Q) := by simp [stepQ, putO]
@[go_sem] theorem stepQ_some0 (v : V) (D' : Dfr) (H' : Hp) (a : Bool) (rs : List (Option (Nat × Bool) × Op)) : stepQ P cl N n0 (some (v, D', H')) none a rs rest T H Q = (stillP a n0 H' H ∧ readP P rs T H H' ∧ W P cl N n0 rest T D' H' Q) := by simp [stepQ, putO]
@[go_sem] theorem guardQ_tt (o : Op) (d : Option Nat) (a b : Bool) (rs : List (Option (Nat × Bool) × Op)) : guardQ P cl N n0 (.bool true) true o d a b rs rest T D H Q = (selfP P b n0 o T H ∧ stepQ P cl N n0 (stepW P cl o T D H) d a rs rest T H Q) := by simp [guardQ, wantB]
@[go_sem] theorem guardQ_ff (o : Op) (d : Option Nat) (a b : Bool) (rs : List (Option (Nat × Bool) × Op)) : guardQ P cl N n0 (.bool false) false o d a b rs rest T D H Q = (selfP P b n0 o T H ∧ stepQ P cl N n0 (stepW P cl o T D H) d a rs rest T H Q) := by simp [guardQ, wantB]
@[go_sem] theorem guardQ_tf (o : Op) (d : Nat) (a b : Bool) (rs : List (Option (Nat × Bool) × Op)) : guardQ P cl N n0 (.bool true) false o (some d) a b rs rest T D H Q = W P cl N n0 rest (put T d (.tup [])) D H Q := by simp [guardQ, putO, wantB]
@[go_sem] theorem guardQ_ft (o : Op) (d : Nat) (a b : Bool) (rs : List (Option (Nat × Bool) × Op)) : guardQ P cl N n0 (.bool false) true o (some d) a b rs rest T D H Q = W P cl N n0 rest (put T d (.tup [])) D H Q := by simp [guardQ, putO, wantB]
@[go_sem] theorem guardQ_tf0 (o : Op) (a b : Bool) (rs : List (Option (Nat × Bool) × Op)) : guardQ P cl N n0 (.bool true) false o none a b rs rest T D H Q = W P cl N n0 rest T D H Q := by simp [guardQ, putO, wantB]
@[go_sem] theorem guardQ_ft0 (o : Op) (a b : Bool) (rs : List (Option (Nat × Bool) × Op)) : guardQ P cl N n0 (.bool false) true o none a b rs rest T D H Q = W P cl N n0 rest T D H Q := by simp [guardQ, putO, wantB]
@[go_sem] theorem guardQ_tup (vs : List V) (w : Bool) (o : Op) (d : Nat) (a b : Bool) (rs : List (Option (Nat × Bool) × Op)) : guardQ P cl N n0 (.tup vs) w o (some d) a b rs rest T D H Q = W P cl N n0 rest (put T d (.tup [])) D H Q := by simp [guardQ, putO, wantB]
@[go_sem] theorem guardQ_tup0 (vs : List V) (w : Bool) (o : Op) (a b : Bool) (rs : List (Option (Nat × Bool) × Op)) : guardQ P cl N n0 (.tup vs) w o none a b rs rest T D H Q = W P cl N n0 rest T D H Q := by simp [guardQ, putO, wantB]
@[go_sem] theorem W_c (d : Nat) (o : Op) (a b : Bool) (rs : List (Option (Nat × Bool) × Op)) : W P cl N n0 (⟨some d, o, none, a, b, rs⟩ :: rest) T D H Q = (d < N ∧ selfP P b n0 o T H ∧ stepQ P cl N n0 (stepW P cl o T D H) (some d) a rs rest T H Q) := by
  simp only [W, bindW, dOk, stepQ, eq_iff_iff]
  constructor
  · rintro ⟨q, h1, h2, h3, h4, h5⟩; exact ⟨h2, h4, q, h1, h3, h5⟩
  · rintro ⟨h2, h4, q, h1, h3, h5⟩; exact ⟨q, h1, h2, h3, h4, h5⟩
@[go_sem] theorem W_c0 (o : Op) (a b : Bool) (rs : List (Option (Nat × Bool) × Op)) : W P cl N n0 (⟨none, o, none, a, b, rs⟩ :: rest) T D H Q = (selfP P b n0 o T H ∧ stepQ P cl N n0 (stepW P cl o T D H) none a rs rest T H Q) := by
  simp only [W, bindW, dOk, stepQ, true_and, eq_iff_iff]
  constructor
  · rintro ⟨q, h1, h3, h4, h5⟩; exact ⟨h4, q, h1, h3, h5⟩
  · rintro ⟨h4, q, h1, h3, h5⟩; exact ⟨q, h1, h3, h4, h5⟩
@[go_sem] theorem W_g (d : Nat) (o : Op) (j : Nat) (w a b : Bool) (rs : List (Option (Nat × Bool) × Op)) : W P cl N n0 (⟨some d, o, some (j, w), a, b, rs⟩ :: rest) T D H Q = (d < N ∧ guardQ P cl N n0 (get T j) w o (some d) a b rs rest T D H Q) := by
  simp only [W, bindW, dOk, stepQ, guardQ, eq_iff_iff]
  constructor
  · rintro ⟨x, h1, h2, h3, h4⟩
    refine ⟨h2, x, h1, fun e => ?_, h4⟩
    obtain ⟨q, h5, h6, h7, h8⟩ := h3 e
    exact ⟨h7, q, h5, h6, h8⟩
  · rintro ⟨h2, x, h1, h3, h4⟩
    refine ⟨x, h1, h2, fun e => ?_, h4⟩
    obtain ⟨h7, q, h5, h6, h8⟩ := h3 e
    exact ⟨q, h5, h6, h7, h8⟩
@[go_sem] theorem W_g0 (o : Op) (j : Nat) (w a b : Bool) (rs : List (Option (Nat × Bool) × Op)) : W P cl N n0 (⟨none, o, some (j, w), a, b, rs⟩ :: rest) T D H Q = guardQ P cl N n0 (get T j) w o none a b rs rest T D H Q := by
  simp only [W, bindW, dOk, stepQ, guardQ, eq_iff_iff, true_and]
  constructor
  · rintro ⟨x, h1, h3, h4⟩
    refine ⟨x, h1, fun e => ?_, h4⟩
    obtain ⟨q, h5, h6, h7, h8⟩ := h3 e
    exact ⟨h7, q, h5, h6, h8⟩
  · rintro ⟨x, h1, h3, h4⟩
    refine ⟨x, h1, fun e => ?_, h4⟩
    obtain ⟨h7, q, h5, h6, h8⟩ := h3 e
    exact ⟨q, h5, h6, h7, h8⟩

@[go_sem] theorem get_put_eq (T : Fr) (d : Nat) (v : V) (i : Nat) : get (put T d v) i = if i = d then v else get T i := get_put T d v i
@[go_sem] theorem get_cons0 (v : V) (T : Fr) : get (v :: T) 0 = v := rfl
@[go_sem] theorem get_consS (v : V) (T : Fr) (i : Nat) : get (v :: T) (i + 1) = get T i := rfl
@[go_sem] theorem ev_tmp (t : Nat) : ev T (.tmp t) = get T t := rfl
@[go_sem] theorem ev_func (f : Nat) : ev T (.func f) = .fn f [] [] := rfl
@[go_sem] theorem ev_int (k : IntKind) (n : Int) : ev T (.const (.int k n)) = .int k n := rfl
@[go_sem] theorem ev_bool (b : Bool) : ev T (.const (.bool b)) = .bool b := rfl
@[go_sem] theorem ev_str (a : Array UInt8) : ev T (.const (.string ⟨a⟩)) = .str a.toList := rfl
@[go_sem] theorem ev_nilptr : ev T (.const (.pointer none)) = .nilptr := rfl
@[go_sem] theorem ev_nilslice : ev T (.const (.slice none 0 0)) = .nilslice := rfl
@[go_sem] theorem ev_nilmap : ev T (.const (.map none)) = .nilmap := rfl
@[go_sem] theorem ev_nilfn : ev T (.const .nilFunc) = .nilfn := rfl
@[go_sem] theorem ev_agg (cs : Array Value) : ev T (.const (.agg cs)) = .agg (cs.toList.map ofCell) := rfl
@[go_sem] theorem ofCell_int (k : IntKind) (n : Int) : ofCell (.int k n) = .int k n := rfl
@[go_sem] theorem ofCell_bool (b : Bool) : ofCell (.bool b) = .bool b := rfl
@[go_sem] theorem ofCell_str (a : Array UInt8) : ofCell (.string ⟨a⟩) = .str a.toList := rfl
@[go_sem] theorem ofCell_nilptr : ofCell (.pointer none) = .nilptr := rfl
@[go_sem] theorem ofCell_nilslice : ofCell (.slice none 0 0) = .nilslice := rfl
@[go_sem] theorem ofCell_nilmap : ofCell (.map none) = .nilmap := rfl

/-! Steps. -/
def mapS (D : Dfr) (x : Option (V × Hp)) : Option (V × Dfr × Hp) := x.map fun q => (q.1, D, q.2)
def mapV (D : Dfr) (H : Hp) (x : Option V) : Option (V × Dfr × Hp) := x.map fun v => (v, D, H)
def mapH (D : Dfr) (x : Option Hp) : Option (V × Dfr × Hp) := x.map fun h => (.tup [], D, h)
@[go_sem] theorem mapS_some (v : V) (h : Hp) : mapS D (some (v, h)) = some (v, D, h) := rfl
@[go_sem] theorem mapV_some (v : V) : mapV D H (some v) = some (v, D, H) := rfl
@[go_sem] theorem mapH_some (h : Hp) : mapH D (some h) = some (.tup [], D, h) := rfl
theorem map_map_V (x : Option V) : (x.map fun v => (v, H)).map (fun q : V × Hp => (q.1, D, q.2)) = mapV D H x := by cases x <;> rfl
theorem map_map_H (x : Option Hp) : (x.map fun h => (V.tup [], h)).map (fun q : V × Hp => (q.1, D, q.2)) = mapH D x := by cases x <;> rfl

@[go_sem] theorem s_move (x : Operand) : stepW P cl (.move x) T D H = some (ev T x, D, H) := rfl
@[go_sem] theorem s_assign (x : Operand) : stepW P cl (.assign x) T D H = some (ev T x, D, H) := rfl
def pickV : V → V → V → Option V
  | .bool true, a, _ => some a
  | .bool false, _, b => some b
  | _, _, _ => none
@[go_sem] theorem pickV_t (a b : V) : pickV (.bool true) a b = some a := rfl
@[go_sem] theorem pickV_f (a b : V) : pickV (.bool false) a b = some b := rfl
@[go_sem] theorem s_pick (c a b : Operand) : stepW P cl (.pick c a b) T D H = mapV D H (pickV (ev T c) (ev T a) (ev T b)) := by
  simp only [stepW, opV]
  generalize ev T c = v
  cases v with
  | bool b => cases b <;> rfl
  | _ => rfl
@[go_sem] theorem s_alloc (e : TypeId) : stepW P cl (.alloc e) T D H = mapS D ((zeroV P e).bind fun z => newRowV z.cells H) := rfl
@[go_sem] theorem s_box (e : TypeId) (x : Operand) : stepW P cl (.box e x) T D H = mapS D (newRowV (ev T x).cells H) := rfl
@[go_sem] theorem s_build (t : TypeId) (ps : Array (Nat × Operand)) : stepW P cl (.build t ps) T D H = mapV D H (buildV P t (ps.toList.map fun p => (p.1, ev T p.2))) := map_map_V _
@[go_sem] theorem s_buildSlice (t : TypeId) (n : Nat) (ps : Array (Nat × Operand)) : stepW P cl (.buildSlice t n ps) T D H = mapS D (buildSliceV P t n (ps.toList.map fun p => (p.1, ev T p.2)) H) := rfl
@[go_sem] theorem s_load (t : TypeId) (a : Operand) : stepW P cl (.load t a) T D H = mapV D H (loadV P t H (ev T a)) := map_map_V _
@[go_sem] theorem s_store (t : TypeId) (a x : Operand) : stepW P cl (.store t a x) T D H = mapH D (storeV P t H (ev T a) (ev T x)) := map_map_H _
def nilckV : V → Option V
  | .ptr id g off => some (.ptr id g off)
  | .fn f a b => some (.fn f a b)
  | _ => none
@[go_sem] theorem nilckV_ptr (id g off : Nat) : nilckV (.ptr id g off) = some (.ptr id g off) := rfl
@[go_sem] theorem nilckV_fn (f : Nat) (a b : List V) : nilckV (.fn f a b) = some (.fn f a b) := rfl
@[go_sem] theorem s_nilck (x : Operand) : stepW P cl (.nilCheck x) T D H = mapV D H (nilckV (ev T x)) := by
  simp only [stepW, opV]
  generalize ev T x = v
  cases v <;> rfl
@[go_sem] theorem s_bin (op : BinOp) (t : TypeId) (x y : Operand) (u : TypeId) : stepW P cl (.binOp op t x y u) T D H = mapV D H (binV P op t (ev T x) (ev T y)) := map_map_V _
@[go_sem] theorem s_un (op : UnOp) (t : TypeId) (x : Operand) : stepW P cl (.unOp op t x) T D H = mapV D H (unV op (ev T x)) := map_map_V _
@[go_sem] theorem s_conv (s d : TypeId) (x : Operand) : stepW P cl (.convert s d x) T D H = mapS D (convV P s d H (ev T x)) := rfl
@[go_sem] theorem s_func (f : Nat) (a b : Array Operand) : stepW P cl (.makeFunc (.func f) a b) T D H = mapV D H (if (a.toList.map (ev T)).all V.isBase = true ∧ (b.toList.map (ev T)).all V.isBase = true then some (.fn f (a.toList.map (ev T)) (b.toList.map (ev T))) else none) := by
  simp only [stepW, opV]; split <;> rfl
@[go_sem] theorem s_makeSlice (t : TypeId) (l c : Operand) : stepW P cl (.makeSlice t l c) T D H = mapS D (makeSliceV P t H (ev T l) (ev T c)) := rfl
@[go_sem] theorem s_slice (t : TypeId) (x : Operand) (lo hi : Option Operand) : stepW P cl (.slice t x lo hi none) T D H = mapV D H (sliceV P t H (ev T x) (lo.map (ev T)) (hi.map (ev T))) := map_map_V _
@[go_sem] theorem s_fieldAddr (s : TypeId) (x : Operand) (f : Nat) : stepW P cl (.fieldAddr s x f) T D H = mapV D H (fieldAddrV P s (ev T x) f) := map_map_V _
@[go_sem] theorem s_field (s : TypeId) (x : Operand) (f : Nat) : stepW P cl (.field s x f) T D H = mapV D H (fieldV P s (ev T x) f) := map_map_V _
@[go_sem] theorem s_indexAddr (t : TypeId) (x i : Operand) : stepW P cl (.indexAddr t x i) T D H = mapV D H (indexAddrV P t (ev T x) (ev T i)) := map_map_V _
@[go_sem] theorem s_index (t : TypeId) (x i : Operand) : stepW P cl (.index t x i) T D H = mapV D H (indexV P t (ev T x) (ev T i)) := map_map_V _
@[go_sem] theorem s_lookup (t : TypeId) (x i : Operand) (ok : Bool) : stepW P cl (.lookup t x i ok) T D H = mapV D H (lookupV P t H (ev T x) (ev T i) ok) := map_map_V _
@[go_sem] theorem s_mapUpdate (t : TypeId) (m k x : Operand) : stepW P cl (.mapUpdate t m k x) T D H = mapH D (updateV P t H (ev T m) (ev T k) (ev T x)) := map_map_H _
@[go_sem] theorem s_insert (t : TypeId) (m k x : Operand) : stepW P cl (.insert t m k x) T D H = mapH D (updateV P t H (ev T m) (ev T k) (ev T x)) := map_map_H _
def extV : V → Nat → Option V
  | .tup vs, i => vs[i]?
  | _, _ => none
@[go_sem] theorem extV_tup0 (v : V) (vs : List V) : extV (.tup (v :: vs)) 0 = some v := rfl
@[go_sem] theorem extV_tupS (v : V) (vs : List V) (i : Nat) : extV (.tup (v :: vs)) (i + 1) = extV (.tup vs) i := by simp [extV]
@[go_sem] theorem s_extract (x : Operand) (i : Nat) : stepW P cl (.extract x i) T D H = mapV D H (extV (ev T x) i) := by
  simp only [stepW, opV]
  generalize ev T x = v
  cases v <;> first | exact map_map_V _ | rfl
@[go_sem] theorem s_builtin (b : Builtin) (ags : Array Operand) (ts : Array TypeId) : stepW P cl (.call ⟨.builtin b, ags, ts⟩) T D H = mapS D (builtinV P b ts (ags.toList.map (ev T)) H) := rfl
/-- A function value called. -/
def appW (cl : CallT) (D : Dfr) (f : V) (ags : List V) (H : Hp) : Option (V × Dfr × Hp) :=
  match f with
  | .fn k a b => mapS D (cl k (a ++ ags ++ b) H)
  | _ => none
@[go_sem] theorem appW_fn (k : Nat) (a b ags : List V) : appW cl D (.fn k a b) ags H = mapS D (cl k (a ++ ags ++ b) H) := rfl
@[go_sem] theorem s_call (f : Operand) (ags : Array Operand) (ts : Array TypeId) : stepW P cl (.call ⟨.value f, ags, ts⟩) T D H = appW cl D (ev T f) (ags.toList.map (ev T)) H := by
  simp only [stepW, calleeV]
  generalize ev T f = v
  cases v <;> rfl
def deferW (D : Dfr) (H : Hp) (f : V) (ags : List V) : Option (V × Dfr × Hp) :=
  match f with
  | .fn k a b => some (.tup [], (k, a ++ ags ++ b) :: D, H)
  | _ => none
@[go_sem] theorem deferW_fn (k : Nat) (a b ags : List V) : deferW D H (.fn k a b) ags = some (.tup [], (k, a ++ ags ++ b) :: D, H) := rfl
@[go_sem] theorem s_defer (f : Operand) (ags : Array Operand) (ts : Array TypeId) : stepW P cl (.defer ⟨.value f, ags, ts⟩) T D H = deferW D H (ev T f) (ags.toList.map (ev T)) := by
  simp only [stepW, calleeV]
  generalize ev T f = v
  cases v <;> rfl

attribute [go_sem] Int.natCast_zero Int.cast_ofNat_Int and_self if_true if_false true_and and_true decide_true decide_false Bool.not_true Bool.not_false Bool.false_eq_true Bool.and_true Bool.true_and Bool.and_false Bool.false_and ne_eq not_true_eq_false not_false_eq_true List.not_mem_nil Int.toNat_natCast
/-! Lists of literals. -/
@[go_sem] theorem lmap_nil {α β : Type} (f : α → β) : [].map f = [] := rfl
@[go_sem] theorem lmap_cons {α β : Type} (f : α → β) (a : α) (l : List α) : (a :: l).map f = f a :: l.map f := rfl
@[go_sem] theorem omap_some' {α β : Type} (f : α → β) (a : α) : Option.map f (some a) = some (f a) := rfl
@[go_sem] theorem omap_none' {α β : Type} (f : α → β) : Option.map f none = none := rfl
@[go_sem] theorem obind_some' {α β : Type} (f : α → Option β) (a : α) : Option.bind (some a) f = f a := rfl
@[go_sem] theorem atoList {α : Type} (l : List α) : (List.toArray l).toList = l := rfl
@[go_sem] theorem nil_app {α : Type} (l : List α) : [] ++ l = l := rfl
@[go_sem] theorem cons_app {α : Type} (a : α) (l k : List α) : (a :: l) ++ k = a :: (l ++ k) := rfl
@[go_sem] theorem app_nil {α : Type} (l : List α) : l ++ [] = l := List.append_nil l
@[go_sem] theorem all_nil' {α : Type} (f : α → Bool) : [].all f = true := rfl
@[go_sem] theorem all_cons' {α : Type} (f : α → Bool) (a : α) (l : List α) : (a :: l).all f = (f a && l.all f) := rfl
@[go_sem] theorem tt_and (b : Bool) : (true && b) = b := rfl
@[go_sem] theorem isBase_ptr (a b c : Nat) : (V.ptr a b c).isBase = true := rfl
@[go_sem] theorem isBase_int (k : IntKind) (n : Int) : (V.int k n).isBase = true := rfl
@[go_sem] theorem isBase_bool (b : Bool) : (V.bool b).isBase = true := rfl
@[go_sem] theorem isBase_str (b : List UInt8) : (V.str b).isBase = true := rfl
@[go_sem] theorem isBase_slice (a b c d e : Nat) (cp : Cap) : (V.slice a b c d e cp).isBase = true := rfl
@[go_sem] theorem isBase_nilslice : V.nilslice.isBase = true := rfl
@[go_sem] theorem isBase_map (a : Nat) : (V.map a).isBase = true := rfl
@[go_sem] theorem isBase_nilmap : V.nilmap.isBase = true := rfl
@[go_sem] theorem isBase_nilptr : V.nilptr.isBase = true := rfl
@[go_sem] theorem isCell_ptr (a b c : Nat) : (V.ptr a b c).isCell = true := rfl
@[go_sem] theorem isCell_int (k : IntKind) (n : Int) : (V.int k n).isCell = true := rfl
@[go_sem] theorem isCell_bool (b : Bool) : (V.bool b).isCell = true := rfl
@[go_sem] theorem isCell_str (b : List UInt8) : (V.str b).isCell = true := rfl
@[go_sem] theorem isCell_slice (a b c d e : Nat) (cp : Cap) : (V.slice a b c d e cp).isCell = true := rfl
@[go_sem] theorem isCell_nilslice : V.nilslice.isCell = true := rfl
@[go_sem] theorem isCell_map (a : Nat) : (V.map a).isCell = true := rfl
@[go_sem] theorem isCell_nilmap : V.nilmap.isCell = true := rfl
@[go_sem] theorem isCell_nilptr : V.nilptr.isCell = true := rfl
@[go_sem] theorem isCell_fn (f : Nat) (a b : List V) : (V.fn f a b).isCell = true := rfl
@[go_sem] theorem isCell_nilfn : V.nilfn.isCell = true := rfl
@[go_sem] theorem cells_agg (cs : List V) : (V.agg cs).cells = cs := rfl
@[go_sem] theorem cells_int (k : IntKind) (n : Int) : (V.int k n).cells = [.int k n] := rfl
@[go_sem] theorem cells_bool (b : Bool) : (V.bool b).cells = [.bool b] := rfl
@[go_sem] theorem cells_str (b : List UInt8) : (V.str b).cells = [.str b] := rfl
@[go_sem] theorem cells_ptr (a b c : Nat) : (V.ptr a b c).cells = [.ptr a b c] := rfl
@[go_sem] theorem cells_slice (a b c d e : Nat) (cp : Cap) : (V.slice a b c d e cp).cells = [.slice a b c d e cp] := rfl
@[go_sem] theorem cells_nilslice : V.nilslice.cells = [.nilslice] := rfl
@[go_sem] theorem cells_map (a : Nat) : (V.map a).cells = [.map a] := rfl
@[go_sem] theorem cells_nilmap : V.nilmap.cells = [.nilmap] := rfl
@[go_sem] theorem cells_nilptr : V.nilptr.cells = [.nilptr] := rfl
@[go_sem] theorem cells_fn (f : Nat) (a b : List V) : (V.fn f a b).cells = [.fn f a b] := rfl
@[go_sem] theorem cells_nilfn : V.nilfn.cells = [.nilfn] := rfl

/-! Arithmetic. -/
@[go_sem] theorem b_add (t : TypeId) (k : IntKind) (x y : Int) : binV P .add t (.int k x) (.int k y) = some (.int k (k.wrap (x + y))) := by simp [binV, intV]
@[go_sem] theorem b_sub (t : TypeId) (k : IntKind) (x y : Int) : binV P .sub t (.int k x) (.int k y) = some (.int k (k.wrap (x - y))) := by simp [binV, intV]
@[go_sem] theorem b_mul (t : TypeId) (k : IntKind) (x y : Int) : binV P .mul t (.int k x) (.int k y) = some (.int k (k.wrap (x * y))) := by simp [binV, intV]
@[go_sem] theorem b_quo (t : TypeId) (k : IntKind) (x y : Int) : binV P .quo t (.int k x) (.int k y) = if y = 0 then none else some (.int k (k.wrap (x.tdiv y))) := by simp [binV, intV]
@[go_sem] theorem b_rem (t : TypeId) (k : IntKind) (x y : Int) : binV P .rem t (.int k x) (.int k y) = if y = 0 then none else some (.int k (x.tmod y)) := by simp [binV, intV]
@[go_sem] theorem b_eql (t : TypeId) (k : IntKind) (x y : Int) : binV P .eql t (.int k x) (.int k y) = some (.bool (decide (x = y))) := by simp [binV, intV]; rfl
@[go_sem] theorem b_neq (t : TypeId) (k : IntKind) (x y : Int) : binV P .neq t (.int k x) (.int k y) = some (.bool (!decide (x = y))) := by simp [binV, intV]; rfl
@[go_sem] theorem b_lss (t : TypeId) (k : IntKind) (x y : Int) : binV P .lss t (.int k x) (.int k y) = some (.bool (decide (x < y))) := by simp [binV, intV]
@[go_sem] theorem b_leq (t : TypeId) (k : IntKind) (x y : Int) : binV P .leq t (.int k x) (.int k y) = some (.bool (decide (x ≤ y))) := by simp [binV, intV]
@[go_sem] theorem b_gtr (t : TypeId) (k : IntKind) (x y : Int) : binV P .gtr t (.int k x) (.int k y) = some (.bool (decide (y < x))) := by simp [binV, intV]
@[go_sem] theorem b_geq (t : TypeId) (k : IntKind) (x y : Int) : binV P .geq t (.int k x) (.int k y) = some (.bool (decide (y ≤ x))) := by simp [binV, intV]
@[go_sem] theorem b_str (op : BinOp) (t : TypeId) (x y : List UInt8) : binV P op t (.str x) (.str y) = strV op x y := by simp [binV]
@[go_sem] theorem b_seql (x y : List UInt8) : strV .eql x y = some (.bool (decide (x = y))) := by
  by_cases h : x = y <;> simp [strV, h]
@[go_sem] theorem b_sneq (x y : List UInt8) : strV .neq x y = some (.bool (!decide (x = y))) := by
  by_cases h : x = y <;> simp [strV, h]
theorem b_beql (t : TypeId) (x y : Bool) (h : P.underlying t = some .bool) : binV P .eql t (.bool x) (.bool y) = some (.bool (x == y)) := by simp [binV, eqV, h]
theorem b_bneq (t : TypeId) (x y : Bool) (h : P.underlying t = some .bool) : binV P .neq t (.bool x) (.bool y) = some (.bool (!(x == y))) := by simp [binV, eqV, h]
@[go_sem] theorem u_not (b : Bool) : unV .not (.bool b) = some (.bool (!b)) := by simp [unV]
@[go_sem] theorem u_neg (k : IntKind) (n : Int) : unV .neg (.int k n) = some (.int k (k.wrap (0 - n))) := by simp [unV]

/-! Code. -/
@[go_sem] theorem Wp_skip : Wp P cl N .skip T D H R = R .nor T D H := by
  unfold Wp
  refine propext ⟨fun ⟨e, s', h, hq⟩ => ?_, fun h => ⟨.nor, _, .skip _, h⟩⟩
  cases h; exact hq
@[go_sem] theorem Wp_ret : Wp P cl N .ret T D H R = R .ret T D H := by
  unfold Wp
  refine propext ⟨fun ⟨e, s', h, hq⟩ => ?_, fun h => ⟨.ret, _, .ret _, h⟩⟩
  cases h; exact hq
@[go_sem] theorem Wp_exit (id : Nat) : Wp P cl N (.exit id) T D H R = R (.exit id) T D H := by
  unfold Wp
  refine propext ⟨fun ⟨e, s', h, hq⟩ => ?_, fun h => ⟨.exit id, _, .exit _ _, h⟩⟩
  cases h; exact hq
@[go_sem] theorem Wp_reg (l : List Co) : Wp P cl N (.reg l) T D H R = W P cl N H.length l T D H (R .nor) := by
  unfold Wp
  refine propext ⟨fun ⟨e, s', h, hq⟩ => ?_, fun h => ?_⟩
  · cases h with
    | reg _ _ _ hw => exact W_iff.2 ⟨s', hw, hq⟩
  · obtain ⟨s', hw, hq⟩ := W_iff.1 h
    exact ⟨.nor, s', .reg _ _ _ hw, hq⟩
@[go_sem] theorem Wp_seq (a b : Cc) : Wp P cl N (.seq a b) T D H R = Wp P cl N a T D H (seqQ P cl N b R) := by
  unfold Wp
  refine propext ⟨fun ⟨e, s', h, hq⟩ => ?_, fun ⟨e, s', h, hq⟩ => ?_⟩
  · cases h with
    | seq _ _ _ s1 _ _ h1 h2 => exact ⟨.nor, s1, h1, e, s', h2, hq⟩
    | seqx _ _ _ _ _ h1 hne =>
      refine ⟨e, s', h1, ?_⟩
      cases e with
      | nor => exact absurd rfl hne
      | exit id => exact hq
      | ret => exact hq
  · cases e with
    | nor =>
      obtain ⟨e, s2, h2, hq⟩ := hq
      exact ⟨e, s2, .seq _ _ _ s' _ _ h h2, hq⟩
    | exit id => exact ⟨_, s', .seqx _ _ _ _ _ h (by simp), hq⟩
    | ret => exact ⟨_, s', .seqx _ _ _ _ _ h (by simp), hq⟩
@[go_sem] theorem seqQ_nor (b : Cc) : seqQ P cl N b R .nor T D H = Wp P cl N b T D H R := rfl
@[go_sem] theorem seqQ_ret (b : Cc) : seqQ P cl N b R .ret T D H = R .ret T D H := rfl
@[go_sem] theorem seqQ_exit (b : Cc) (id : Nat) : seqQ P cl N b R (.exit id) T D H = R (.exit id) T D H := rfl
@[go_sem] theorem Wp_cond (c : Operand) (a b : Cc) : Wp P cl N (.cond c a b) T D H R = brQ P cl N (ev T c) a b T D H R := by
  unfold brQ
  refine propext ⟨fun ⟨e, s', h, hq⟩ => ?_, fun ⟨x, hx, h1, h2⟩ => ?_⟩
  · cases h with
    | condt _ _ _ _ _ _ hv h1 => exact ⟨true, hv, fun _ => ⟨e, s', h1, hq⟩, fun h => by cases h⟩
    | condf _ _ _ _ _ _ hv h1 => exact ⟨false, hv, fun h => (by cases h), fun _ => ⟨e, s', h1, hq⟩⟩
  · cases x with
    | true => obtain ⟨e, s', h, hq⟩ := h1 rfl; exact ⟨e, s', .condt _ _ _ _ _ _ hx h, hq⟩
    | false => obtain ⟨e, s', h, hq⟩ := h2 rfl; exact ⟨e, s', .condf _ _ _ _ _ _ hx h, hq⟩
@[go_sem] theorem Wp_block (id : Nat) (b : Cc) : Wp P cl N (.block id b) T D H R = Wp P cl N b T D H (blockQ id R) := by
  unfold Wp
  refine propext ⟨fun ⟨e, s', h, hq⟩ => ?_, fun ⟨e, s', h, hq⟩ => ?_⟩
  · cases h with
    | block _ _ _ _ _ h1 hne =>
      refine ⟨e, s', h1, ?_⟩
      cases e with
      | nor => exact hq
      | ret => exact hq
      | exit j =>
        simp only [blockQ]
        rw [if_neg fun e => hne (by rw [e])]
        exact hq
    | blockx _ _ _ _ h1 =>
      refine ⟨_, s', h1, ?_⟩
      simp only [blockQ, if_true]
      exact hq
  · cases e with
    | nor => exact ⟨_, s', .block _ _ _ _ _ h (by simp), hq⟩
    | ret => exact ⟨_, s', .block _ _ _ _ _ h (by simp), hq⟩
    | exit j =>
      simp only [blockQ] at hq
      split at hq
      · rename_i e; subst e; exact ⟨_, s', .blockx _ _ _ _ h, hq⟩
      · rename_i e; exact ⟨_, s', .block _ _ _ _ _ h (by simpa using e), hq⟩
@[go_sem] theorem blockQ_nor (id : Nat) : blockQ id R .nor T D H = R .nor T D H := rfl
@[go_sem] theorem blockQ_ret (id : Nat) : blockQ id R .ret T D H = R .ret T D H := rfl
@[go_sem] theorem blockQ_exit (id j : Nat) : blockQ id R (.exit j) T D H = if j = id then R .nor T D H else R (.exit j) T D H := rfl
theorem Wp_mono {R' : Ex → Fr → Dfr → Hp → Prop} {c : Cc} (h : Wp P cl N c T D H R) (hR : ∀ e T D H, R e T D H → R' e T D H) : Wp P cl N c T D H R' := by
  obtain ⟨e, s', h1, h2⟩ := h
  exact ⟨e, s', h1, hR _ _ _ _ h2⟩
/-- What a loop's round asks. -/
def loopQ (I : Fr → Dfr → Hp → Prop) (R : Ex → Fr → Dfr → Hp → Prop) : Ex → Fr → Dfr → Hp → Prop
  | .nor, T, D, H => I T D H
  | e, T, D, H => R e T D H
@[go_sem] theorem loopQ_nor (I : Fr → Dfr → Hp → Prop) : loopQ I R .nor T D H = I T D H := rfl
@[go_sem] theorem loopQ_ret (I : Fr → Dfr → Hp → Prop) : loopQ I R .ret T D H = R .ret T D H := rfl
@[go_sem] theorem loopQ_exit (I : Fr → Dfr → Hp → Prop) (id : Nat) : loopQ I R (.exit id) T D H = R (.exit id) T D H := rfl
/-- A loop: what holds with so many rounds left. -/
theorem Wp_loop (I : Nat → Fr → Dfr → Hp → Prop) {b : Cc} (h : ∀ m T D H, I m T D H → Wp P cl N b T D H (loopQ (fun T D H => ∃ m' < m, I m' T D H) R)) : ∀ m T D H, I m T D H → Wp P cl N (.loop b) T D H R := by
  intro m
  induction m using Nat.strongRecOn with
  | ind m ih =>
    intro T D H hI
    obtain ⟨e, s', h1, h2⟩ := h m T D H hI
    cases e with
    | nor =>
      obtain ⟨m', hm, h3⟩ := h2
      obtain ⟨e, s2, h4, h5⟩ := ih m' hm _ _ _ h3
      exact ⟨e, s2, .loop _ _ s' _ _ h1 h4, h5⟩
    | exit id => exact ⟨_, s', .loopx _ _ _ _ h1 (by simp), h2⟩
    | ret => exact ⟨_, s', .loopx _ _ _ _ h1 (by simp), h2⟩
@[go_sem] theorem RetQ_ret (rs : List ResultVar) (K : V → Hp → Prop) : RetQ P rs K .ret T D H = (D = [] ∧ bindW ((mapO (resV P H T) rs).bind tupV) fun v => K v H) := rfl
@[go_sem] theorem RetQ_nor (rs : List ResultVar) (K : V → Hp → Prop) : RetQ P rs K .nor T D H = (D = [] ∧ bindW ((mapO (resV P H T) rs).bind tupV) fun v => K v H) := rfl
@[go_sem] theorem mapO_nil {α β : Type} (f : α → Option β) : mapO f [] = some [] := rfl
@[go_sem] theorem mapO_cons {α β : Type} (f : α → Option β) (x : α) (l : List α) : mapO f (x :: l) = (f x).bind fun y => (mapO f l).map fun ys => y :: ys := rfl
@[go_sem] theorem resV_tmp (t : Nat) : resV P H T (.tmp t) = some (get T t) := rfl
@[go_sem] theorem resV_cell (a : Nat) (t : TypeId) : resV P H T (.cell a t) = loadV P t H (get T a) := rfl
@[go_sem] theorem tupV_one (v : V) : tupV [v] = some v := rfl
@[go_sem] theorem tupV_more (v w : V) (vs : List V) : tupV (v :: w :: vs) = if (v :: w :: vs).all (fun v => !v.isTup) = true then some (.tup (v :: w :: vs)) else none := rfl
@[go_sem] theorem tupV_nil : tupV [] = some (.tup []) := rfl
@[go_sem] theorem nt_int (k : IntKind) (n : Int) : (V.int k n).isTup = false := rfl
@[go_sem] theorem nt_bool (b : Bool) : (V.bool b).isTup = false := rfl
@[go_sem] theorem nt_str (b : List UInt8) : (V.str b).isTup = false := rfl
@[go_sem] theorem nt_agg (b : List V) : (V.agg b).isTup = false := rfl
@[go_sem] theorem nt_ptr (a b c : Nat) : (V.ptr a b c).isTup = false := rfl
@[go_sem] theorem nt_slice (a b c d e : Nat) (cp : Cap) : (V.slice a b c d e cp).isTup = false := rfl
@[go_sem] theorem nt_nilslice : V.nilslice.isTup = false := rfl
@[go_sem] theorem nt_map (a : Nat) : (V.map a).isTup = false := rfl
@[go_sem] theorem nt_nilptr : V.nilptr.isTup = false := rfl
end
end Go.Am
/-
  The abstract machine, part ZD: types, rows, slices and their operations, as simp steps through them. No statement of the seat stands here.
-/
namespace Go.Am
open Go

section
variable {P : Program} {H : Hp}

/-! Structs. -/
def offsOk (P : Program) (s : TypeId) (offs : List Nat) : Bool :=
  match P.underlying s with
  | some (.struct fs) => fs.toList.map (·.offset) == offs && fs.toList.all (fun f => match szOf P f.type with | some n => n != 0 | none => false)
  | _ => false
def fieldAt (offs : List Nat) (id g off i : Nat) : Option V := (offs[i]?).map fun o => .ptr id g (off + o)
theorem fieldAt_eq {s : TypeId} {offs : List Nat} (h : offsOk P s offs = true) (id g off i : Nat) : fieldAddrV P s (.ptr id g off) i = fieldAt offs id g off i := by
  unfold offsOk at h
  unfold fieldAddrV fieldAt
  split at h
  · rename_i fs hu
    simp only [Bool.and_eq_true, beq_iff_eq, List.all_eq_true] at h
    obtain ⟨rfl, h⟩ := h
    simp only [hu, List.getElem?_map, Array.getElem?_toList]
    cases hf : fs[i]? with
    | none => rfl
    | some f =>
      simp only [Option.bind_some, Option.map_some]
      have := h f (Array.mem_toList_iff.2 (Array.mem_of_getElem? hf))
      split at this
      · rename_i n hn
        rw [hn]
        simp only [Option.bind_some]
        rw [if_neg (by simpa using this)]
      · cases this
  · cases h
def fieldsOk (P : Program) (s : TypeId) (fl : List (Nat × Nat)) : Bool :=
  match P.underlying s with
  | some (.struct fs) => fs.toList.map (fun f => (f.type, f.offset)) == fl
  | _ => false
def fieldOf (P : Program) (fl : List (Nat × Nat)) (cs : List V) (i : Nat) : Option V := (fl[i]?).bind fun p => partV P p.1 cs p.2
theorem fieldOf_eq {s : TypeId} {fl : List (Nat × Nat)} (h : fieldsOk P s fl = true) (cs : List V) (i : Nat) : fieldV P s (.agg cs) i = fieldOf P fl cs i := by
  unfold fieldsOk at h
  unfold fieldV fieldOf
  split at h
  · rename_i fs hu
    simp only [beq_iff_eq] at h
    subst h
    simp only [hu, List.getElem?_map, Array.getElem?_toList]
    cases fs[i]? <;> rfl
  · cases h
def placesOf (P : Program) (t : TypeId) : Option (List (Nat × Nat)) :=
  match P.underlying t with
  | some (.struct fields) => fields.toList.mapM fun f => (P.info? f.type).map fun i => (f.offset, i.size)
  | _ => none
def buildOf (z : List V) (places : List (Nat × Nat)) (ps : List (Nat × V)) : Option V := (fillV (fun i => places[i]?) z ps).map V.agg
theorem buildOf_eq {t : TypeId} {z : List V} {places : List (Nat × Nat)} (hz : zeroV P t = some (.agg z)) (hp : placesOf P t = some places) (ps : List (Nat × V)) : buildV P t ps = buildOf z places ps := by
  unfold buildV buildOf
  unfold placesOf at hp
  rw [hz]
  split at hp
  · rename_i fs hu
    simp only [hu, Option.bind_some]
    rw [hp]
    rfl
  · cases hp
@[go_sem] theorem fieldAt_0 (o : Nat) (os : List Nat) (id g off : Nat) : fieldAt (o :: os) id g off 0 = some (.ptr id g (off + o)) := rfl
@[go_sem] theorem fieldAt_S (o : Nat) (os : List Nat) (id g off i : Nat) : fieldAt (o :: os) id g off (i + 1) = fieldAt os id g off i := by simp [fieldAt]
@[go_sem] theorem fieldOf_0 (p : Nat × Nat) (fl : List (Nat × Nat)) (cs : List V) : fieldOf P (p :: fl) cs 0 = partV P p.1 cs p.2 := rfl
@[go_sem] theorem fieldOf_S (p : Nat × Nat) (fl : List (Nat × Nat)) (cs : List V) (i : Nat) : fieldOf P (p :: fl) cs (i + 1) = fieldOf P fl cs i := by simp [fieldOf]
@[go_sem] theorem buildOf_def (z : List V) (places : List (Nat × Nat)) (ps : List (Nat × V)) : buildOf z places ps = (fillV (fun i => places[i]?) z ps).map V.agg := rfl
@[go_sem] theorem fillV_nil (f : Nat → Option (Nat × Nat)) (cs : List V) : fillV f cs [] = some cs := rfl
/-- One part more, laid in; first-order, so that nothing is stepped into too early. -/
def fillK (p : Option (Nat × Nat)) (f : Nat → Option (Nat × Nat)) (cs : List V) (v : V) (rest : List (Nat × V)) : Option (List V) := p.bind fun p => if v.cells.all V.isCell = true ∧ v.cells.length = p.2 ∧ p.1 + v.cells.length ≤ cs.length then fillV f (setAt cs p.1 v.cells) rest else none
@[go_sem] theorem fillV_cons (f : Nat → Option (Nat × Nat)) (cs : List V) (i : Nat) (v : V) (rest : List (Nat × V)) : fillV f cs ((i, v) :: rest) = fillK (f i) f cs v rest := rfl
@[go_sem] theorem fillK_some (o n : Nat) (f : Nat → Option (Nat × Nat)) (cs : List V) (v : V) (rest : List (Nat × V)) : fillK (some (o, n)) f cs v rest = if v.cells.all V.isCell = true ∧ v.cells.length = n ∧ o + v.cells.length ≤ cs.length then fillV f (setAt cs o v.cells) rest else none := rfl
@[go_sem] theorem getE_0 {α : Type} (a : α) (l : List α) : (a :: l)[0]? = some a := rfl
@[go_sem] theorem getE_S {α : Type} (a : α) (l : List α) (i : Nat) : (a :: l)[i + 1]? = l[i]? := rfl
@[go_sem] theorem len_nil' {α : Type} : ([] : List α).length = 0 := rfl
@[go_sem] theorem len_cons' {α : Type} (a : α) (l : List α) : (a :: l).length = l.length + 1 := rfl
@[go_sem] theorem setAt_0 (c v : V) (cs : List V) : setAt (c :: cs) 0 [v] = v :: cs := rfl
@[go_sem] theorem setAt_S (c : V) (cs vs : List V) (i : Nat) : setAt (c :: cs) (i + 1) vs = c :: setAt cs i vs := by
  simp [setAt, Nat.add_right_comm]
@[go_sem] theorem setAt_0c (c v w : V) (cs vs : List V) : setAt (c :: cs) 0 (v :: w :: vs) = v :: setAt cs 0 (w :: vs) := by
  simp [setAt]

/-! Rows. -/
@[go_sem] theorem newRow_eq (cs : List V) : newRowV cs H = if cs.all V.isCell = true then some (.ptr H.length 0 0, H ++ [.row 0 cs true]) else none := rfl
theorem getRow_last (g : Nat) (cs : List V) (o : Bool) : getRow (H ++ [.row g cs o]) H.length g = some (cs, o) := by simp [getRow]
theorem getRow_lt {id g : Nat} {r : List V × Bool} (h : getRow H id g = some r) : id < H.length := by
  unfold getRow at h
  cases hb : H[id]? with
  | none => rw [hb] at h; cases h
  | some b => exact (List.getElem?_eq_some_iff.1 hb).1
theorem getRow_app {L : Hp} {id g : Nat} (h : id < H.length) : getRow (H ++ L) id g = getRow H id g := by
  unfold getRow
  rw [List.getElem?_append_left h]
theorem loadV_ptr (t : TypeId) (id g off : Nat) : loadV P t H (.ptr id g off) = (getRow H id g).bind fun r => partV P t r.1 off := rfl
def partK (b : Option Bool) (z : Option Nat) (cs : List V) (off : Nat) : Option V := b.bind fun b => if b then z.bind fun n => if off + n ≤ cs.length then some (.agg ((cs.drop off).take n)) else none else cs[off]?
@[go_sem] theorem partV_cons (t : TypeId) (c : V) (cs : List V) (off : Nat) : partV P t (c :: cs) off = partK (aggT P t) (szOf P t) (c :: cs) off := rfl
@[go_sem] theorem partK_f (z : Option Nat) (cs : List V) (off : Nat) : partK (some false) z cs off = cs[off]? := rfl
@[go_sem] theorem partK_t (n : Nat) (cs : List V) (off : Nat) : partK (some true) (some n) cs off = if off + n ≤ cs.length then some (.agg ((cs.drop off).take n)) else none := rfl
@[go_sem] theorem drop_0 (l : List V) : l.drop 0 = l := rfl
@[go_sem] theorem drop_S (a : V) (l : List V) (i : Nat) : (a :: l).drop (i + 1) = l.drop i := rfl
@[go_sem] theorem take_0 (l : List V) : l.take 0 = [] := rfl
@[go_sem] theorem take_S (a : V) (l : List V) (i : Nat) : (a :: l).take (i + 1) = a :: l.take i := rfl
theorem storeV_ptr (t : TypeId) (id g off : Nat) (v : V) : storeV P t H (.ptr id g off) v = (getRow H id g).bind fun r => if r.2 = true ∧ szOf P t = some v.cells.length ∧ off + v.cells.length ≤ r.1.length ∧ v.cells.all V.isCell = true then some (H.set id (.row g (setAt r.1 off v.cells) true)) else none := rfl
theorem set_last (b b' : AB) : (H ++ [b]).set H.length b' = H ++ [b'] := by simp
@[go_sem] theorem load_last (t : TypeId) (g off : Nat) (cs : List V) (o : Bool) : loadV P t (H ++ [.row g cs o]) (.ptr H.length g off) = partV P t cs off := by
  rw [loadV_ptr, getRow_last]; rfl
@[go_sem] theorem load_app {L : Hp} (t : TypeId) {id g off : Nat} (h : id < H.length) : loadV P t (H ++ L) (.ptr id g off) = loadV P t H (.ptr id g off) := by
  rw [loadV_ptr, getRow_app h]; rfl
@[go_sem] theorem store_last (t : TypeId) (g off : Nat) (cs : List V) (v : V) : storeV P t (H ++ [.row g cs true]) (.ptr H.length g off) v = if szOf P t = some v.cells.length ∧ off + v.cells.length ≤ cs.length ∧ v.cells.all V.isCell = true then some (H ++ [.row g (setAt cs off v.cells) true]) else none := by
  rw [storeV_ptr, getRow_last]
  simp only [Option.bind_some, true_and, set_last]
@[go_sem] theorem store_app {L : Hp} (t : TypeId) {id g off : Nat} {v : V} (h : id < H.length) : storeV P t (H ++ L) (.ptr id g off) v = (storeV P t H (.ptr id g off) v).map (· ++ L) := by
  rw [storeV_ptr, storeV_ptr, getRow_app h]
  cases getRow H id g with
  | none => rfl
  | some r =>
    simp only [Option.bind_some]
    split
    · simp [List.set_append_left, h]
    · rfl
theorem lt_app {L : Hp} {id : Nat} (h : id < H.length) : id < (H ++ L).length := by rw [List.length_append]; omega
theorem lt_new (b : AB) : H.length < (H ++ [b]).length := by simp

/-! A list of elements of one size, as cells. -/
theorem flat_len {xs : List (List V)} {sz : Nat} (h : ∀ x ∈ xs, x.length = sz) : xs.flatten.length = xs.length * sz := by
  induction xs with
  | nil => simp
  | cons x xs ih =>
    rw [List.flatten_cons, List.length_append, ih fun y hy => h y (by simp [hy]), h x (by simp), List.length_cons, Nat.succ_mul, Nat.add_comm]
theorem flat_at {xs : List (List V)} {sz : Nat} (h : ∀ x ∈ xs, x.length = sz) : ∀ {i : Nat} {x : List V}, xs[i]? = some x → (xs.flatten.drop (i * sz)).take sz = x ∧ i * sz + sz ≤ xs.flatten.length ∧ ∀ j, j < sz → xs.flatten[i * sz + j]? = x[j]? := by
  induction xs with
  | nil => intro i x hx; simp at hx
  | cons y xs ih =>
    intro i x hx
    have hy := h y (by simp)
    cases i with
    | zero =>
      simp only [List.getElem?_cons_zero, Option.some.injEq] at hx
      subst hx
      refine ⟨?_, ?_, fun j hj => ?_⟩
      · rw [Nat.zero_mul, List.drop_zero, List.flatten_cons, ← hy, List.take_left]
      · rw [List.flatten_cons, List.length_append, hy]; omega
      · rw [Nat.zero_mul, Nat.zero_add, List.flatten_cons, List.getElem?_append_left (by omega)]
    | succ i =>
      simp only [List.getElem?_cons_succ] at hx
      obtain ⟨h1, h2, h3⟩ := ih (fun z hz => h z (by simp [hz])) hx
      refine ⟨?_, ?_, fun j hj => ?_⟩
      · rw [List.flatten_cons, List.drop_append, List.drop_eq_nil_of_le (by rw [hy, Nat.succ_mul]; omega), List.nil_append, hy, show (i + 1) * sz - sz = i * sz by rw [Nat.succ_mul]; omega]
        exact h1
      · rw [List.flatten_cons, List.length_append, hy, Nat.succ_mul]; omega
      · rw [List.flatten_cons, List.getElem?_append_right (by rw [hy, Nat.succ_mul]; omega), hy, show (i + 1) * sz + j - sz = i * sz + j by rw [Nat.succ_mul]; omega]
        exact h3 j hj
/-- An element of an array is read: as a whole, or a part of one cell. -/
theorem part_agg {xs : List (List V)} {sz i : Nat} {t : TypeId} {x : List V} (h : ∀ x ∈ xs, x.length = sz) (hg : aggT P t = some true) (hz : szOf P t = some sz) (hx : xs[i]? = some x) : partV P t xs.flatten (i * sz) = some (.agg x) := by
  obtain ⟨h1, h2, _⟩ := flat_at h hx
  unfold partV
  simp only [hg, Option.bind_some, if_true, hz]
  rw [if_pos h2, h1]
theorem part_cell {xs : List (List V)} {sz i j : Nat} {t : TypeId} {x : List V} (h : ∀ x ∈ xs, x.length = sz) (hg : aggT P t = some false) (hx : xs[i]? = some x) (hj : j < sz) : partV P t xs.flatten (i * sz + j) = x[j]? := by
  obtain ⟨_, _, h3⟩ := flat_at h hx
  unfold partV
  simp only [hg, Option.bind_some, Bool.false_eq_true, if_false]
  exact h3 j hj
theorem part_whole {x : List V} {t : TypeId} (hg : aggT P t = some true) (hz : szOf P t = some x.length) : partV P t x 0 = some (.agg x) := by
  unfold partV
  simp only [hg, Option.bind_some, if_true, hz]
  rw [if_pos (by omega), List.drop_zero, List.take_length]
/-- Elements of one cell. -/
theorem part_one {cs : List V} {i : Nat} {t : TypeId} (hg : aggT P t = some false) : partV P t cs i = cs[i]? := by
  unfold partV
  simp only [hg, Option.bind_some, Bool.false_eq_true, if_false]

/-! Slices. -/
def sliceT (P : Program) (t : TypeId) (sz : Nat) : Bool := match P.underlying t with
  | some (.slice e) => szOf P e == some sz
  | _ => false
theorem ia_slice {t : TypeId} {sz : Nat} (h : sliceT P t sz = true) {id g off n : Nat} {cp : Cap} {k : IntKind} {j : Int} (hj : 0 ≤ j ∧ j < n) : indexAddrV P t (.slice id g off n sz cp) (.int k j) = some (.ptr id g (off + j.toNat * sz)) := by
  unfold sliceT at h
  unfold indexAddrV
  split at h
  · rename_i e hu
    simp only [beq_iff_eq] at h
    simp only [hu]
    rw [if_pos ⟨h, hj.1, hj.2⟩]
  · cases h
def arrT (P : Program) (t : TypeId) (len sz : Nat) : Bool := match P.underlying t with
  | some (.array n e) => n == len && szOf P e == some sz
  | _ => false
theorem ia_arr {t : TypeId} {len sz : Nat} (h : arrT P t len sz = true) {id g off : Nat} {k : IntKind} {j : Int} (hj : 0 ≤ j ∧ j < len) : indexAddrV P t (.ptr id g off) (.int k j) = some (.ptr id g (off + j.toNat * sz)) := by
  unfold arrT at h
  unfold indexAddrV
  split at h
  · rename_i n e hu
    simp only [Bool.and_eq_true, beq_iff_eq] at h
    obtain ⟨rfl, h⟩ := h
    simp only [hu, h, Option.bind_some]
    rw [if_pos hj]
  · cases h
theorem len_slice {t : TypeId} {sz : Nat} (h : sliceT P t sz = true) (id g off n z : Nat) (cp : Cap) : lenV P t H (.slice id g off n z cp) = some (.int .i64 n) := by
  unfold sliceT at h
  unfold lenV
  split at h
  · rename_i e hu; simp only [hu]
  · cases h
theorem len_nilslice {t : TypeId} {sz : Nat} (h : sliceT P t sz = true) : lenV P t H .nilslice = some (.int .i64 0) := by
  unfold sliceT at h
  unfold lenV
  split at h
  · rename_i e hu; simp only [hu]
  · cases h
@[go_sem] theorem bu_len (t : TypeId) (ts : List TypeId) (x : V) : builtinV P .len (List.toArray (t :: ts)) [x] H = (lenV P t H x).map fun v => (v, H) := by
  unfold builtinV
  rfl
@[go_sem] theorem bu_min (ts : Array TypeId) (k k' : IntKind) (x y : Int) : builtinV P .min ts [.int k x, .int k' y] H = some (.int k (if y < x then y else x), H) := by
  unfold builtinV; rfl
@[go_sem] theorem bu_max (ts : Array TypeId) (k k' : IntKind) (x y : Int) : builtinV P .max ts [.int k x, .int k' y] H = some (.int k (if y > x then y else x), H) := by
  unfold builtinV; rfl
def appT (P : Program) (t t1 : TypeId) (sz by_ : Nat) : Bool := match P.underlying t, P.underlying t1 with
  | some (.slice e), some d => (match d with | .int _ => false | _ => true) && szOf P e == some sz && bytesOf' P e == some by_ && (match zeroV P e with | some z => z.cells.length == sz | none => false) && decide (0 < sz)
  | _, _ => false
/-- append, its types settled. -/
def appOf (sz by_ : Nat) (H : Hp) (s x : V) : Option (V × Hp) :=
  (srcCells H x).bind fun (ys, m) =>
    if ys.length = m * sz ∧ ys.all V.isCell = true then
      match s with
      | .nilslice => if m = 0 then some (.nilslice, H) else if m * by_ ≤ 2 ^ 40 ∧ m ≤ 2 ^ 40 then some (.slice H.length 0 0 m sz .full, H ++ [.row 0 ys true]) else none
      | .slice id g off n sz' cp => (getRow H id g).bind fun r =>
        if sz' = sz ∧ (n + m) * by_ ≤ 2 ^ 40 ∧ n + m ≤ 2 ^ 40 ∧ off + n * sz ≤ r.1.length then
          if m = 0 then some (s, H) else
          match cp with
          | .ex c => if c = n then some (.slice H.length 0 0 (n + m) sz .full, H ++ [.row 0 ((r.1.drop off).take (n * sz) ++ ys) true]) else none
          | .full =>
            if r.2 = true then
              if off + (n + m) * sz ≤ r.1.length then some (.slice id g off (n + m) sz .full, H.set id (.row g (setAt r.1 (off + n * sz) ys) true))
              else if off + n * sz = r.1.length then some (.slice id (g + 1) 0 (n + m) sz .full, H.set id (.row (g + 1) (r.1.drop off ++ ys) true))
              else none
            else none
          | .unk => none
        else none
      | _ => none
    else none
theorem app_eq {t t1 : TypeId} {sz by_ : Nat} (h : appT P t t1 sz by_ = true) (s x : V) : builtinV P .append #[t, t1] [s, x] H = appOf sz by_ H s x := by
  unfold appT at h
  split at h
  · rename_i e d hu hd
    simp only [Bool.and_eq_true, beq_iff_eq, decide_eq_true_eq] at h
    obtain ⟨⟨⟨⟨h1, h2⟩, h3⟩, h4⟩, h5⟩ := h
    have e1 : builtinV P .append #[t, t1] [s, x] H = appendV P t H s x := by
      unfold builtinV
      simp only [hd]
      cases d <;> first | rfl | simp at h1
    rw [e1]
    unfold appendV appOf
    simp only [hu, h2, h3, Option.bind_some]
    split at h4
    · rename_i z hz
      simp only [beq_iff_eq] at h4
      simp only [hz, Option.bind_some, h4, h5, true_and]
      rfl
    · cases h4
  · cases h

/-- A slice that is read: of so many elements, each of so many cells. -/
def Sl (H : Hp) (v : V) (sz : Nat) (xs : List (List V)) : Prop :=
  (∀ x ∈ xs, x.length = sz) ∧ ((v = .nilslice ∧ xs = []) ∨ ∃ id g off cp cs own, v = .slice id g off xs.length sz cp ∧ getRow H id g = some (cs, own) ∧ off + xs.length * sz ≤ cs.length ∧ (cs.drop off).take (xs.length * sz) = xs.flatten)
def vid : V → Nat
  | .slice id _ _ _ _ _ => id
  | _ => 0
def vgen : V → Nat
  | .slice _ g _ _ _ _ => g
  | _ => 0
def voff : V → Nat
  | .slice _ _ o _ _ _ => o
  | _ => 0
theorem Sl.len {v : V} {sz : Nat} {xs : List (List V)} (h : Sl H v sz xs) {t : TypeId} {z : Nat} (ht : sliceT P t z = true) {H' : Hp} : lenV P t H' v = some (.int .i64 xs.length) := by
  obtain ⟨_, ⟨rfl, rfl⟩ | ⟨id, g, off, cp, cs, own, rfl, _⟩⟩ := h
  · exact len_nilslice ht
  · exact len_slice ht ..
theorem Sl.idx {v : V} {sz : Nat} {xs : List (List V)} (h : Sl H v sz xs) {t : TypeId} (ht : sliceT P t sz = true) {k : IntKind} {i : Nat} (hi : i < xs.length) : indexAddrV P t v (.int k i) = some (.ptr (vid v) (vgen v) (voff v + i * sz)) := by
  obtain ⟨_, ⟨rfl, rfl⟩ | ⟨id, g, off, cp, cs, own, rfl, _⟩⟩ := h
  · simp at hi
  · exact ia_slice ht ⟨by omega, by omega⟩
theorem Sl.lt {v : V} {sz : Nat} {xs : List (List V)} (h : Sl H v sz xs) {i : Nat} (hi : i < xs.length) : vid v < H.length := by
  obtain ⟨_, ⟨rfl, rfl⟩ | ⟨id, g, off, cp, cs, own, rfl, hr, _⟩⟩ := h
  · simp at hi
  · exact getRow_lt hr
theorem Sl.at_ {v : V} {sz : Nat} {xs : List (List V)} (h : Sl H v sz xs) {i : Nat} {x : List V} (hx : xs[i]? = some x) : ∃ cs own, getRow H (vid v) (vgen v) = some (cs, own) ∧ voff v + i * sz + sz ≤ cs.length ∧ (cs.drop (voff v + i * sz)).take sz = x ∧ ∀ j, j < sz → cs[voff v + i * sz + j]? = x[j]? := by
  obtain ⟨hs, ⟨rfl, rfl⟩ | ⟨id, g, off, cp, cs, own, rfl, hr, hl, hf⟩⟩ := h
  · simp at hx
  · obtain ⟨h1, h2, h3⟩ := flat_at hs hx
    have hi : i < xs.length := (List.getElem?_eq_some_iff.1 hx).1
    have hle : (i + 1) * sz ≤ xs.length * sz := Nat.mul_le_mul_right sz hi
    rw [Nat.succ_mul] at hle
    refine ⟨cs, own, hr, by simp only [voff]; omega, ?_, fun j hj => ?_⟩
    · rw [← h1, ← hf, List.drop_take, List.take_take, List.drop_drop, Nat.min_eq_left (by omega)]
      rfl
    · rw [← h3 j hj, ← hf, List.getElem?_take_of_lt (by omega), List.getElem?_drop]
      congr 1
      simp only [voff]; omega
theorem Sl.agg {v : V} {sz : Nat} {xs : List (List V)} (h : Sl H v sz xs) {t : TypeId} (hg : aggT P t = some true) (hz : szOf P t = some sz) {i : Nat} {x : List V} (hx : xs[i]? = some x) : loadV P t H (.ptr (vid v) (vgen v) (voff v + i * sz)) = some (.agg x) := by
  obtain ⟨cs, own, h1, h2, h3, _⟩ := h.at_ hx
  rw [loadV_ptr, h1]
  simp only [Option.bind_some, partV, hg, hz, if_true]
  rw [if_pos h2, h3]
theorem Sl.cell {v : V} {sz : Nat} {xs : List (List V)} (h : Sl H v sz xs) {t : TypeId} (hg : aggT P t = some false) {i j : Nat} {x : List V} (hx : xs[i]? = some x) (hj : j < sz) : loadV P t H (.ptr (vid v) (vgen v) (voff v + i * sz + j)) = x[j]? := by
  obtain ⟨cs, own, h1, _, _, h4⟩ := h.at_ hx
  rw [loadV_ptr, h1]
  simp only [Option.bind_some, partV, hg, Bool.false_eq_true, if_false]
  exact h4 j hj
theorem Sl.cell0 {v : V} {sz : Nat} {xs : List (List V)} (h : Sl H v sz xs) {t : TypeId} (hg : aggT P t = some false) {i : Nat} {x : List V} (hx : xs[i]? = some x) (hj : 0 < sz) : loadV P t H (.ptr (vid v) (vgen v) (voff v + i * sz)) = x[0]? := h.cell (j := 0) hg hx hj
theorem Sl.frame {H' : Hp} {v : V} {sz : Nat} {xs : List (List V)} (h : Sl H v sz xs) (hf : vid v < H.length → H'[vid v]? = H[vid v]?) : Sl H' v sz xs := by
  obtain ⟨hs, h⟩ := h
  refine ⟨hs, h.imp id ?_⟩
  rintro ⟨id, g, off, cp, cs, own, rfl, hr, r⟩
  refine ⟨id, g, off, cp, cs, own, rfl, ?_, r⟩
  have := hf (getRow_lt hr)
  unfold getRow at hr ⊢
  simp only [vid] at this
  rw [this]
  exact hr
theorem Sl.app {L : Hp} {v : V} {sz : Nat} {xs : List (List V)} (h : Sl H v sz xs) : Sl (H ++ L) v sz xs := h.frame fun hl => List.getElem?_append_left hl

/-- A slice that grows: nothing yet, or the whole of a row. -/
def Own (H : Hp) (v : V) (sz : Nat) (cs : List V) : Prop :=
  (v = .nilslice ∧ cs = []) ∨ ∃ id g n, v = .slice id g 0 n sz .full ∧ n * sz = cs.length ∧ 0 < n ∧ H[id]? = some (.row g cs true)
/-- Whose row it is. -/
def At (v : V) (id : Nat) : Prop := ∃ g o n sz cp, v = .slice id g o n sz cp
theorem own_nil (H : Hp) (sz : Nat) : Own H .nilslice sz [] := .inl ⟨rfl, rfl⟩
theorem Own.frame {H' : Hp} {v : V} {sz : Nat} {cs : List V} (h : Own H v sz cs) (hf : ∀ id, At v id → H'[id]? = H[id]?) : Own H' v sz cs := by
  rcases h with h | ⟨id, g, n, rfl, h1, h2, h3⟩
  · exact .inl h
  · exact .inr ⟨id, g, n, rfl, h1, h2, (hf id ⟨g, 0, n, sz, .full, rfl⟩).trans h3⟩
theorem Own.lt {v : V} {sz : Nat} {cs : List V} (h : Own H v sz cs) {id : Nat} (ha : At v id) : id < H.length := by
  obtain ⟨g, o, n, z, cp, rfl⟩ := ha
  rcases h with ⟨h, _⟩ | ⟨id', g', n', e, _, _, h3⟩
  · cases h
  · injection e with e1; subst e1
    exact (List.getElem?_eq_some_iff.1 h3).1
/-- One element more. -/
theorem Own.push {v : V} {sz by_ : Nat} {cs ys : List V} (h : Own H v sz cs) (hy : ys.length = sz) (hc : ys.all V.isCell = true) (hsz : 0 < sz) (hb : (cs.length + 1) * by_ ≤ 2 ^ 40) (hb2 : cs.length + 1 ≤ 2 ^ 40) :
    ∃ v' H', appOf sz by_ (H ++ [.row 0 ys true]) v (.slice H.length 0 0 1 sz .full) = some (v', H') ∧ Own H' v' sz (cs ++ ys) ∧ (∀ id, id < H.length → ¬ At v id → H'[id]? = H[id]?) ∧ H.length ≤ H'.length ∧ (∀ id, At v' id → At v id ∨ H.length ≤ id) := by
  have hs : srcCells (H ++ [.row 0 ys true]) (.slice H.length 0 0 1 sz .full) = some (ys, 1) := by
    simp [srcCells, getRow, hy]
    exact List.take_of_length_le (by omega)
  unfold appOf
  rw [hs]
  simp only [Option.bind_some]
  rw [if_pos ⟨by omega, hc⟩]
  rcases h with ⟨rfl, rfl⟩ | ⟨id, g, n, rfl, h1, h2, h3⟩
  · simp only [List.length_nil, Nat.zero_add] at hb hb2
    refine ⟨_, (H ++ [AB.row 0 ys true]) ++ [.row 0 ys true], ?_, .inr ⟨(H ++ [AB.row 0 ys true]).length, 0, 1, rfl, by simp [hy], by omega, ?_⟩, ?_, ?_, ?_⟩
    · simp only
      rw [if_neg (by omega), if_pos ⟨by omega, by omega⟩]
    · simp
    · intro id hid _
      rw [List.append_assoc, List.getElem?_append_left hid]
    · simp
    · rintro id ⟨g, o, n, z, cp, e⟩
      injection e with e1
      right; subst e1; simp
  · have hid : id < H.length := (List.getElem?_eq_some_iff.1 h3).1
    have hle : n * 1 ≤ n * sz := Nat.mul_le_mul_left n hsz
    have hnb : (n + 1) * by_ ≤ (cs.length + 1) * by_ := Nat.mul_le_mul_right _ (by omega)
    have hr : getRow (H ++ [.row 0 ys true]) id g = some (cs, true) := by
      rw [getRow_app hid]
      simp [getRow, h3]
    refine ⟨_, (H ++ [AB.row 0 ys true]).set id (.row (g + 1) (cs ++ ys) true), ?_, .inr ⟨id, g + 1, n + 1, rfl, by rw [List.length_append, hy, Nat.succ_mul, h1], by omega, ?_⟩, ?_, ?_, ?_⟩
    · simp only
      rw [hr]
      simp only [Option.bind_some]
      rw [if_pos ⟨trivial, by omega, by omega, by omega⟩, if_neg (by omega), if_pos trivial, if_neg (by rw [Nat.succ_mul]; omega), if_pos (by omega)]
      simp
    · rw [List.getElem?_set_self (by simp; omega)]
    · intro id' hid' hn
      have hne : id ≠ id' := fun e => hn ⟨g, 0, n, sz, .full, by rw [e]⟩
      rw [List.getElem?_set_ne hne, List.getElem?_append_left hid']
    · simp
    · rintro id' ⟨g', o, n', z, cp, e⟩
      injection e with e1
      subst e1
      exact .inl ⟨g, 0, n, sz, .full, rfl⟩
theorem Own.sl {v : V} {sz : Nat} {xs : List (List V)} (h : Own H v sz xs.flatten) (hs : ∀ x ∈ xs, x.length = sz) (h0 : 0 < sz) : Sl H v sz xs := by
  refine ⟨hs, ?_⟩
  have hl := flat_len hs
  rcases h with ⟨rfl, h2⟩ | ⟨id, g, n, rfl, h1, h2, h3⟩
  · rw [h2] at hl
    simp only [List.length_nil] at hl
    refine .inl ⟨rfl, List.length_eq_zero_iff.1 ?_⟩
    rcases Nat.mul_eq_zero.1 hl.symm with h | h
    · exact h
    · omega
  · have hn : n = xs.length := Nat.eq_of_mul_eq_mul_right h0 (h1.trans hl)
    subst hn
    exact .inr ⟨id, g, 0, .full, xs.flatten, true, rfl, by simp [getRow, h3], by omega, by rw [List.drop_zero, List.take_of_length_le (by omega)]⟩
def bsT (P : Program) (t : TypeId) (z : List V) : Prop := ∃ e, P.underlying t = some (.slice e) ∧ szOf P e = some z.length ∧ ∃ zv, zeroV P e = some zv ∧ zv.cells = z
/-- A slice of one element, written out. -/
theorem bs_one {t e : TypeId} {sz : Nat} {zv : V} (hu : P.underlying t = some (.slice e)) (hz : szOf P e = some sz) (hv : zeroV P e = some zv) (hl : zv.cells.length = sz) (hs : 0 < sz) (hs2 : sz ≤ 2 ^ 24) (v : V) (hc : v.cells.all V.isCell = true) (hn : v.cells.length = sz) : buildSliceV P t 1 [(0, v)] H = some (.slice H.length 0 0 1 sz .full, H ++ [.row 0 v.cells true]) := by
  unfold buildSliceV
  simp only [hu, hz, hv, Option.bind_some]
  rw [if_pos ⟨hl, hs, by omega⟩]
  simp only [fillV, Option.bind_some, Nat.zero_mul, Nat.zero_add]
  rw [if_pos ⟨hc, hn, by simp [repeatV, hl, hn]⟩]
  simp only [Option.bind_some]
  have e1 : setAt (repeatV zv.cells 1) 0 v.cells = v.cells := by
    simp [setAt, repeatV, hn, hl]
  rw [e1, if_pos hc]
theorem bs_if {t e : TypeId} {sz : Nat} {zv : V} (hu : P.underlying t = some (.slice e)) (hz : szOf P e = some sz) (hv : zeroV P e = some zv) (hl : zv.cells.length = sz) (hs : 0 < sz) (hs2 : sz ≤ 2 ^ 24) (v : V) : buildSliceV P t 1 [(0, v)] H = if v.cells.all V.isCell = true ∧ v.cells.length = sz then some (.slice H.length 0 0 1 sz .full, H ++ [.row 0 v.cells true]) else none := by
  split
  · rename_i h; exact bs_one hu hz hv hl hs hs2 v h.1 h.2
  · rename_i h
    unfold buildSliceV
    simp only [hu, hz, hv, Option.bind_some]
    rw [if_pos ⟨hl, hs, by omega⟩]
    simp only [fillV, Option.bind_some, Nat.zero_mul, Nat.zero_add]
    rw [if_neg fun h2 => h ⟨h2.1, h2.2.1⟩]
    rfl
theorem pre_of {H' : Hp} (h : ∀ id, id < H.length → H'[id]? = H[id]?) : ∃ G, H' = H ++ G := by
  refine ⟨H'.drop H.length, ?_⟩
  apply List.ext_getElem?
  intro i
  rw [List.getElem?_append]
  split
  · exact h i (by assumption)
  · rw [List.getElem?_drop]; congr 1; omega
theorem callL_some {Pr : Prims} {k : Nat} {a : List V} {H' : Hp} {v : V} (h : callL P Pr k a H = some (v, H')) : ∃ n H', callN P Pr n k a H = some (v, H') := by
  obtain ⟨n, hn⟩ := callL_iff.1 h
  exact ⟨n, H', hn⟩
/-- A list of numbers as an argument. -/
def intC (n : Int) : List V := [.int .i64 n]
theorem arg_ints {m : Nat} {t e : TypeId} {x : V} (hu : P.underlying t = some (.slice e)) (he : P.underlying e = some (.int .i64)) (hc : P.cellsOf e = 1) (h : ArgT P H (m + 2) t x) : ∃ l : List Int, Sl H x 1 (l.map intC) ∧ l.length ≤ maxLen ∧ ∀ n ∈ l, -9223372036854775808 ≤ n ∧ n ≤ 9223372036854775807 := by
  rcases arg_slice (m := m + 1) hu h with rfl | ⟨id, xss, rfl, h1, hbytes, h2, h3⟩
  · exact ⟨[], ⟨by simp, .inl ⟨rfl, rfl⟩⟩, by simp, by simp⟩
  · clear h hbytes
    have : ∃ l : List Int, xss = l.map intC ∧ ∀ n ∈ l, -9223372036854775808 ≤ n ∧ n ≤ 9223372036854775807 := by
      clear h1 h2
      induction xss with
      | nil => exact ⟨[], rfl, by simp⟩
      | cons x xss ih =>
        obtain ⟨l, rfl, hl⟩ := ih fun y hy => h3 y (by simp [hy])
        obtain ⟨n, e, hw⟩ := rd_int (m := m) he (h3 x (by simp)).2
        refine ⟨n :: l, by rw [e]; rfl, fun k hk => ?_⟩
        rcases List.mem_cons.1 hk with rfl | hk
        · simpa [Lit.wf, IntKind.min, IntKind.max, IntKind.signed, IntKind.bits] using hw
        · exact hl k hk
    obtain ⟨l, rfl, hl⟩ := this
    rw [List.length_map] at h2
    refine ⟨l, ⟨by simp [intC], .inr ⟨id, 0, 0, .unk, _, false, by rw [hc], h1, ?_, ?_⟩⟩, h2, hl⟩
    · rw [flat_len (sz := 1) (by simp [intC])]; omega
    · rw [List.drop_zero, List.take_of_length_le]
      rw [flat_len (sz := 1) (by simp [intC])]; omega
/-- A function that tells something plain: what it has made is gone. -/
theorem flat_of {k : Nat} {cl : CallT} {args : List V} {v : V} (h : ∃ v' H', (v' = v ∧ ∃ G, H' = H ++ G) ∧ cl k args H = some (gcC H (v', H'))) (hf : fineR v = true) (hr : refR v = []) : cl k args H = some (v, H) := by
  obtain ⟨v', H', ⟨rfl, G, rfl⟩, h2⟩ := h
  rw [h2, gc_old (by simp) hf (by simp [hr])]
end
end Go.Am
/-
  The abstract machine, part ZE: arguments as lists of plain data. No statement of the seat stands here.
-/
namespace Go.Am
open Go Go.RowKit

section
variable {P : Program} {H : Hp}
def structTys (P : Program) (t : TypeId) : Option (List TypeId) := match P.underlying t with
  | some (.struct fs) => some (fs.toList.map (·.type))
  | _ => none
def RdTs (P : Program) (H : Hp) (m : Nat) : List TypeId → List (List V) → Prop
  | [], [] => True
  | t :: ts, x :: xs => (x.length = P.cellsOf t ∧ RdT P H m t x) ∧ RdTs P H m ts xs
  | _, _ => False
theorem rdTs_of {m : Nat} : ∀ {fs : List Field} {xss : List (List V)}, xss.length = fs.length → (∀ (i : Nat) (fld : Field) (x : List V), fs[i]? = some fld → xss[i]? = some x → x.length = P.cellsOf fld.type ∧ RdT P H m fld.type x) → RdTs P H m (fs.map (·.type)) xss
  | [], [], _, _ => trivial
  | f :: fs, x :: xss, hl, h => ⟨h 0 f x rfl rfl, rdTs_of (by simpa using hl) fun i fld y h1 h2 => h (i + 1) fld y (by simpa using h1) (by simpa using h2)⟩
  | [], _ :: _, hl, _ => by simp at hl
  | _ :: _, [], hl, _ => by simp at hl
theorem rd_parts {m : Nat} {t : TypeId} {ts : List TypeId} {xs : List V} (hu : structTys P t = some ts) (h : RdT P H (m + 1) t xs) : ∃ xss, xs = xss.flatten ∧ RdTs P H m ts xss := by
  unfold structTys at hu
  split at hu
  · rename_i fs hs
    injection hu with hu
    subst hu
    obtain ⟨xss, h1, h2, h3⟩ := rd_struct hs h
    exact ⟨xss, h1, rdTs_of (by simpa using h2) fun i fld x h4 h5 => h3 i fld x (by simpa using h4) h5⟩
  · cases hu
theorem rdTs_cons {m : Nat} {t : TypeId} {ts : List TypeId} {xss : List (List V)} (h : RdTs P H m (t :: ts) xss) : ∃ x l, xss = x :: l ∧ RdT P H m t x ∧ RdTs P H m ts l := by
  cases xss with
  | nil => exact h.elim
  | cons x l => exact ⟨x, l, rfl, h.1.2, h.2⟩
theorem rdTs_nil {m : Nat} {xss : List (List V)} (h : RdTs P H m [] xss) : xss = [] := by
  cases xss with
  | nil => rfl
  | cons x l => exact h.elim
def Inx (n : Int) : Prop := -9223372036854775808 ≤ n ∧ n ≤ 9223372036854775807
theorem rd_i64 {m : Nat} {t : TypeId} {xs : List V} (hu : P.underlying t = some (.int .i64)) (h : RdT P H (m + 1) t xs) : ∃ n, xs = [.int .i64 n] ∧ Inx n := by
  obtain ⟨n, e, hw⟩ := rd_int hu h
  exact ⟨n, e, by simpa [Inx, Lit.wf, IntKind.min, IntKind.max, IntKind.signed, IntKind.bits] using hw⟩
theorem rd_u8 {m : Nat} {t : TypeId} {xs : List V} (hu : P.underlying t = some (.int .u8)) (h : RdT P H (m + 1) t xs) : ∃ n : UInt8, xs = [.int .u8 n.toNat] := by
  obtain ⟨n, e, hw⟩ := rd_int hu h
  have hr : 0 ≤ n ∧ n ≤ 255 := by simpa [Lit.wf, IntKind.min, IntKind.max, IntKind.signed, IntKind.bits] using hw
  refine ⟨UInt8.ofNat n.toNat, ?_⟩
  rw [e, UInt8.toNat_ofNat', Nat.mod_eq_of_lt (by omega)]
  congr 2
  omega
/-- A list of elements, read each by itself. -/
theorem dec_list {α : Type} {m : Nat} {e : TypeId} {enc : α → List V} {Ok : α → Prop} (dec : ∀ x, RdT P H m e x → ∃ a, x = enc a ∧ Ok a) : ∀ (xss : List (List V)), (∀ x ∈ xss, x.length = P.cellsOf e ∧ RdT P H m e x) → ∃ l : List α, xss = l.map enc ∧ ∀ a ∈ l, Ok a
  | [], _ => ⟨[], rfl, by simp⟩
  | x :: xss, h => by
    obtain ⟨l, rfl, hl⟩ := dec_list dec xss fun y hy => h y (by simp [hy])
    obtain ⟨a, rfl, ha⟩ := dec x (h x (by simp)).2
    refine ⟨a :: l, rfl, fun b hb => ?_⟩
    rcases List.mem_cons.1 hb with rfl | hb
    · exact ha
    · exact hl b hb
/-- What is known of a slice's value that came as an argument. -/
def Given (v : V) : Prop := v.isCell = true ∧ v.isTup = false ∧ eqC v v = true ∧ v.cells = [v] ∧ (v = .nilslice ∨ ∃ id g off n sz, v = .slice id g off n sz .unk)
theorem given_nil : Given .nilslice := ⟨rfl, rfl, rfl, rfl, .inl rfl⟩
theorem given_slice (id g off n sz : Nat) : Given (.slice id g off n sz .unk) := ⟨rfl, rfl, by simp [eqC, eqBase], rfl, .inr ⟨_, _, _, _, _, rfl⟩⟩
theorem rd_list {α : Type} {m : Nat} {t e : TypeId} {sz : Nat} {enc : α → List V} {Ok : α → Prop} (hu : P.underlying t = some (.slice e)) (hc : P.cellsOf e = sz) (hsz : ∀ a, (enc a).length = sz) (dec : ∀ x, RdT P H m e x → ∃ a, x = enc a ∧ Ok a) {xs : List V} (h : RdT P H (m + 1) t xs) :
    ∃ (v : V) (l : List α), xs = [v] ∧ Given v ∧ Sl H v sz (l.map enc) ∧ (∀ a ∈ l, Ok a) ∧ l.length * P.bytesOf e ≤ reachBytes ∧ l.length ≤ 9223372036854775807 := by
  rcases rd_slice hu h with rfl | ⟨id, xss, rfl, h1, h2, h3, h4⟩
  · exact ⟨.nilslice, [], rfl, given_nil, ⟨by simp, .inl ⟨rfl, rfl⟩⟩, by simp, by simp, by simp⟩
  · obtain ⟨l, rfl, hl⟩ := dec_list dec xss h4
    rw [List.length_map] at h2 h3
    have hz : ∀ x ∈ l.map enc, x.length = sz := by
      intro x hx
      obtain ⟨a, _, rfl⟩ := List.mem_map.1 hx
      exact hsz a
    refine ⟨_, l, rfl, given_slice .., ⟨hz, .inr ⟨id, 0, 0, .unk, _, false, by rw [hc], h1, ?_, ?_⟩⟩, hl, h2, h3⟩
    · rw [flat_len hz]; omega
    · rw [List.drop_zero, List.take_of_length_le]
      rw [flat_len hz]; omega
theorem arg_list {α : Type} {m : Nat} {t e : TypeId} {sz : Nat} {enc : α → List V} {Ok : α → Prop} (hu : P.underlying t = some (.slice e)) (hc : P.cellsOf e = sz) (hsz : ∀ a, (enc a).length = sz) (dec : ∀ x, RdT P H m e x → ∃ a, x = enc a ∧ Ok a) {x : V} (h : ArgT P H (m + 1) t x) :
    ∃ l : List α, Given x ∧ Sl H x sz (l.map enc) ∧ (∀ a ∈ l, Ok a) ∧ l.length * P.bytesOf e ≤ reachBytes ∧ l.length ≤ 9223372036854775807 := by
  unfold ArgT at h
  rw [hu] at h
  obtain ⟨v, l, e, r⟩ := rd_list hu hc hsz dec h
  injection e with e
  subst e
  exact ⟨l, r⟩
theorem arg_i64 {m : Nat} {t : TypeId} {x : V} (hu : P.underlying t = some (.int .i64)) (h : ArgT P H (m + 1) t x) : ∃ n, x = .int .i64 n ∧ Inx n := by
  unfold ArgT at h; rw [hu] at h
  obtain ⟨n, e, hw⟩ := rd_i64 hu h
  injection e with e
  exact ⟨n, e, hw⟩
/-- A byte's cells. -/
def byC (b : UInt8) : List V := [.int .u8 b.toNat]
theorem byC_len (b : UInt8) : (byC b).length = 1 := rfl
theorem rd_bytes {m : Nat} {t e : TypeId} (hu : P.underlying t = some (.slice e)) (he : P.underlying e = some (.int .u8)) (hc : P.cellsOf e = 1) {xs : List V} (h : RdT P H (m + 2) t xs) :
    ∃ (v : V) (l : List UInt8), xs = [v] ∧ Given v ∧ Sl H v 1 (l.map byC) ∧ (∀ b ∈ l, True) ∧ l.length * P.bytesOf e ≤ reachBytes ∧ l.length ≤ 9223372036854775807 :=
  rd_list (m := m + 1) (enc := byC) (Ok := fun _ => True) hu hc byC_len (fun _ hx => let ⟨n, e⟩ := rd_u8 (m := m) he hx; ⟨n, e, trivial⟩) h

/-! What a call leaves of its new rows. -/
theorem fresh_of {n : Nat} {id g : Nat} (h : n ≤ id) : fresh n [(id, g)] = [(id, g)] := by
  unfold fresh
  rw [List.filter_cons_of_pos (by simpa using h), List.filter_nil]
  rfl
theorem leaf_refB {w : V} (h : w.leaf = true) : refA w = [] ∧ fineA w = true ∧ ∀ f, renA f w = w := by
  cases w <;> simp [V.leaf] at h <;> exact ⟨rfl, rfl, fun _ => rfl⟩
theorem leaf_refs {ws : List V} (h : ws.all V.leaf = true) : ws.flatMap refA = [] ∧ ws.all fineA = true ∧ ∀ f, ws.map (renA f) = ws := by
  induction ws with
  | nil => exact ⟨rfl, rfl, fun _ => rfl⟩
  | cons w ws ih =>
    simp only [List.all_cons, Bool.and_eq_true] at h
    obtain ⟨h1, h2, h3⟩ := leaf_refB h.1
    obtain ⟨h4, h5, h6⟩ := ih h.2
    refine ⟨by rw [List.flatMap_cons, h1, h4]; rfl, by rw [List.all_cons, h2, h5]; rfl, fun f => by rw [List.map_cons, h3, h6]⟩
/-- A slice that was made by the call, alone or ahead of plain values. -/
theorem own_gc {H' : Hp} {v : V} {sz : Nat} {cs : List V} (ho : Own H' v sz cs) (hpre : ∀ id, id < H.length → H'[id]? = H[id]?) (hfr : ∀ id, At v id → H.length ≤ id) (hleaf : cs.all V.leaf = true) {ws : List V} (hw : ws.all V.leaf = true) :
    ∃ v2 H2, gcC H (.tup (v :: ws), H') = (.tup (v2 :: ws), H2) ∧ gcC H (v, H') = (v2, H2) ∧ Own H2 v2 sz cs ∧ (∃ G, H2 = H ++ G) ∧ (∀ id, At v2 id → H.length ≤ id) := by
  obtain ⟨h4, h5, h6⟩ := leaf_refs hw
  have hp : H'.take H.length = H := by
    obtain ⟨G, rfl⟩ := pre_of hpre
    simp
  rcases ho with ⟨rfl, rfl⟩ | ⟨id, g, n, rfl, h1, h2, h3⟩
  · refine ⟨.nilslice, H, ?_, ?_, own_nil _ _, ⟨[], by simp⟩, hfr⟩
    · refine gc_old hp ?_ ?_
      · simp only [fineR, List.all_cons, h5, Bool.and_true]; rfl
      · simp only [refR, List.flatMap_cons, h4, List.append_nil]; simp [refA, refB]
    · exact gc_old hp rfl (by simp [refR, refA, refB])
  · have hid : H.length ≤ id := hfr id ⟨_, _, _, _, _, rfl⟩
    have hm : moveTo H.length [(id, g)] id g = (H.length, 0) := by
      unfold moveTo
      rw [if_neg (by omega)]
      simp
    refine ⟨.slice H.length 0 0 n sz .full, H ++ [.row 0 cs true], ?_, ?_, .inr ⟨H.length, 0, n, rfl, h1, h2, by simp⟩, ⟨_, rfl⟩, ?_⟩
    · rw [gc_one hp ?_ hid h3 hleaf ?_]
      · simp only [renR, List.map_cons, h6]
        simp only [renA, renB, hm]
      · simp only [fineR, List.all_cons, h5, Bool.and_true]; rfl
      · simp only [refR, List.flatMap_cons, h4, List.append_nil]
        exact fresh_of hid
    · rw [gc_one (v := .slice id g 0 n sz .full) hp rfl hid h3 hleaf (show fresh H.length [(id, g)] = [(id, g)] from fresh_of hid)]
      simp only [renR, renA, renB, hm]
    · rintro id' ⟨g', o, n', z, cp, e⟩
      injection e with e1
      omega
/-- A slice, alone or ahead of plain values, that a function answers. -/
def RetOwn (H : Hp) (sz : Nat) (cs : List V) (ws : List V) (v : V) (H' : Hp) : Prop := ∃ out, v = .tup (out :: ws) ∧ Own H' out sz cs ∧ (∀ id, id < H.length → H'[id]? = H[id]?) ∧ ∀ id, At out id → H.length ≤ id
theorem own_of {k : Nat} {cl : CallT} {args : List V} {sz : Nat} {cs ws : List V} (h : ∃ v' H', RetOwn H sz cs ws v' H' ∧ cl k args H = some (gcC H (v', H'))) (hl : cs.all V.leaf = true) (hw : ws.all V.leaf = true) :
    ∃ v H2, cl k args H = some (.tup (v :: ws), H2) ∧ Own H2 v sz cs ∧ (∃ G, H2 = H ++ G) ∧ ∀ id, At v id → H.length ≤ id := by
  obtain ⟨v', H', ⟨out, rfl, h1, h2, h3⟩, h4⟩ := h
  obtain ⟨v2, H2, h5, _, h6, h7, h8⟩ := own_gc h1 h2 h3 hl hw
  exact ⟨v2, H2, by rw [h4, h5], h6, h7, h8⟩
def RetOwn1 (H : Hp) (sz : Nat) (cs : List V) (v : V) (H' : Hp) : Prop := Own H' v sz cs ∧ (∀ id, id < H.length → H'[id]? = H[id]?) ∧ ∀ id, At v id → H.length ≤ id
theorem own1_of {k : Nat} {cl : CallT} {args : List V} {sz : Nat} {cs : List V} (h : ∃ v' H', RetOwn1 H sz cs v' H' ∧ cl k args H = some (gcC H (v', H'))) (hl : cs.all V.leaf = true) :
    ∃ v H2, cl k args H = some (v, H2) ∧ Own H2 v sz cs ∧ (∃ G, H2 = H ++ G) ∧ ∀ id, At v id → H.length ≤ id := by
  obtain ⟨v', H', ⟨h1, h2, h3⟩, h4⟩ := h
  obtain ⟨v2, H2, _, h5, h6, h7, h8⟩ := own_gc h1 h2 h3 hl (ws := []) rfl
  exact ⟨v2, H2, by rw [h4, h5], h6, h7, h8⟩
theorem row_frame {H' : Hp} {id g : Nat} {r : List V × Bool} (h : getRow H id g = some r) (hf : H'[id]? = H[id]?) : getRow H' id g = some r := by
  unfold getRow at h ⊢
  rw [hf]; exact h
theorem row_app {L : Hp} {id g : Nat} {r : List V × Bool} (h : getRow H id g = some r) : getRow (H ++ L) id g = some r := row_frame h (List.getElem?_append_left (getRow_lt h))
theorem Own.nt {v : V} {sz : Nat} {cs : List V} (h : Own H v sz cs) : v.isTup = false := by
  rcases h with ⟨rfl, _⟩ | ⟨id, g, n, rfl, _⟩ <;> rfl
theorem Own.app {L : Hp} {v : V} {sz : Nat} {cs : List V} (h : Own H v sz cs) : Own (H ++ L) v sz cs := h.frame fun _ ha => List.getElem?_append_left (h.lt ha)
theorem prefix_trans {H1 H2 : Hp} (h : ∃ G, H1 = H ++ G) (k : ∃ G, H2 = H1 ++ G) : ∃ G, H2 = H ++ G := by
  obtain ⟨G, rfl⟩ := h
  obtain ⟨G', rfl⟩ := k
  exact ⟨G ++ G', by simp⟩
/-! Arrays written out. -/
theorem buildArr_eq {t e : TypeId} {n sz : Nat} {z : List V} (hu : P.underlying t = some (.array n e)) (he : szOf P e = some sz) (hz : zeroV P t = some (.agg z)) (ps : List (Nat × V)) : buildV P t ps = (fillV (fun i => some (i * sz, sz)) z ps).map V.agg := by
  unfold buildV
  simp only [hu, he, hz, Option.bind_some]
  rfl
/-! Aggregates compared. -/
theorem agg_eq {t : TypeId} {ks : List CK} (hf : flatT P 8 t = some ks) (ha : aggT P t = some true) (hz : szOf P t = some ks.length) (xs ys : List V) : binV P .eql t (.agg xs) (.agg ys) = if ckOks ks xs = true ∧ ckOks ks ys = true then some (.bool (eqCells xs ys)) else none := by
  simp only [binV, eqV, hf, ha, hz, Option.bind_some, and_true]
  split <;> rfl
theorem agg_ne {t : TypeId} {ks : List CK} (hf : flatT P 8 t = some ks) (ha : aggT P t = some true) (hz : szOf P t = some ks.length) (xs ys : List V) : binV P .neq t (.agg xs) (.agg ys) = if ckOks ks xs = true ∧ ckOks ks ys = true then some (.bool (!eqCells xs ys)) else none := by
  simp only [binV, eqV, hf, ha, hz, Option.bind_some, and_true]
  split <;> rfl
@[go_sem] theorem ckOks_nil : ckOks [] [] = true := rfl
@[go_sem] theorem ckOks_cons (k : CK) (v : V) (ks : List CK) (vs : List V) : ckOks (k :: ks) (v :: vs) = (ckOk k v && ckOks ks vs) := rfl
@[go_sem] theorem ckOk_int (k : IntKind) (n : Int) : ckOk (.int k) (.int k n) = true := by simp [ckOk]
@[go_sem] theorem ckOk_str (s : List UInt8) : ckOk .str (.str s) = true := rfl
@[go_sem] theorem ckOk_bool (b : Bool) : ckOk .bool (.bool b) = true := rfl
@[go_sem] theorem eqCells_nil : eqCells [] [] = true := rfl
@[go_sem] theorem eqCells_cons (a b : V) (x y : List V) : eqCells (a :: x) (b :: y) = (eqCell a b && eqCells x y) := rfl
@[go_sem] theorem eqCell_int (k k' : IntKind) (a b : Int) : eqCell (.int k a) (.int k' b) = decide (a = b) := by simp [eqCell]; rfl
@[go_sem] theorem eqCell_bool (a b : Bool) : eqCell (.bool a) (.bool b) = (a == b) := rfl
@[go_sem] theorem eqCell_str (a b : List UInt8) : eqCell (.str a) (.str b) = decide (a = b) := by
  by_cases h : a = b <;> simp [eqCell, h]

/-! Lists. -/
/-- The number of the first element of which it is told. -/
def findI {α : Type} (p : α → Bool) : List α → Int → Int
  | [], _ => -1
  | x :: xs, i => if p x then i else findI p xs (i + 1)
theorem findI_any {α : Type} (p : α → Bool) : ∀ (xs : List α) (i : Int), 0 ≤ i → decide (0 ≤ findI p xs i) = xs.any p
  | [], i, _ => rfl
  | x :: xs, i, h => by
    unfold findI
    by_cases hp : p x = true
    · simp [hp, h]
    · rw [if_neg hp, findI_any p xs (i + 1) (by omega)]
      simp [hp]
theorem findI_drop {α : Type} (p : α → Bool) {xs : List α} {i : Nat} {x : α} (hx : xs[i]? = some x) (n : Int) : findI p (xs.drop i) n = if p x then n else findI p (xs.drop (i + 1)) (n + 1) := by
  obtain ⟨h1, rfl⟩ := List.getElem?_eq_some_iff.1 hx
  rw [List.drop_eq_getElem_cons h1]
  rfl
theorem take_snoc {α : Type} {l : List α} {i : Nat} {t : α} (h : l[i]? = some t) : l.take (i + 1) = l.take i ++ [t] := by
  rw [List.take_add_one, h]; rfl
/-! A value that is equal to itself. -/
@[go_sem] theorem eqList_nil (f : V → V → Bool) : eqList f [] [] = true := rfl
@[go_sem] theorem eqList_cons (f : V → V → Bool) (a b : V) (x y : List V) : eqList f (a :: x) (b :: y) = (f a b && eqList f x y) := rfl
@[go_sem] theorem eqC_int (k : IntKind) (n : Int) : eqC (.int k n) (.int k n) = true := by simp [eqC, eqBase]
@[go_sem] theorem eqC_bool (b : Bool) : eqC (.bool b) (.bool b) = true := by simp [eqC, eqBase]
@[go_sem] theorem eqC_str (b : List UInt8) : eqC (.str b) (.str b) = true := by simp [eqC, eqBase]
end
end Go.Am
/-
  The abstract machine, part ZF: slices cut, copied, turned to texts. No statement of the seat stands here.
-/
namespace Go.Am
open Go

section
variable {P : Program} {H : Hp}
theorem Sl.src {v : V} {sz : Nat} {xs : List (List V)} (h : Sl H v sz xs) : srcCells H v = some (xs.flatten, xs.length) := by
  obtain ⟨hs, ⟨rfl, rfl⟩ | ⟨id, g, off, cp, cs, own, rfl, hr, hl, hf⟩⟩ := h
  · rfl
  · simp only [srcCells, hr, Option.bind_some]
    rw [if_pos hl, hf]
/-- A part of a slice. -/
theorem Sl.sub {v : V} {sz : Nat} {xs : List (List V)} (h : Sl H v sz xs) {t : TypeId} (ht : sliceT P t sz = true) {k e : Nat} (h1 : k ≤ e) (h2 : e ≤ xs.length) :
    ∃ v', (∀ (H' : Hp) (j j' : IntKind), sliceV P t H' v (some (.int j k)) (some (.int j' e)) = some v') ∧ Sl H v' sz ((xs.drop k).take (e - k)) ∧ ∀ id, At v' id → At v id := by
  obtain ⟨hs, h⟩ := h
  have hs' : ∀ x ∈ (xs.drop k).take (e - k), x.length = sz := fun x hx => hs x (List.mem_of_mem_drop (List.mem_of_mem_take hx))
  unfold sliceT at ht
  split at ht
  · rename_i el hu
    simp only [beq_iff_eq] at ht
    rcases h with ⟨rfl, rfl⟩ | ⟨id, g, off, cp, cs, own, rfl, hr, hl, hf⟩
    · refine ⟨.nilslice, fun H' j j' => ?_, ⟨by simp, .inl ⟨rfl, by simp⟩⟩, fun id h => h⟩
      simp only [List.length_nil] at h2
      obtain rfl : e = 0 := by omega
      obtain rfl : k = 0 := by omega
      simp [sliceV, hu, ht, boundV]
    · refine ⟨.slice id g (off + k * sz) (e - k) sz (cutCap cp k), fun H' j j' => ?_, ⟨hs', .inr ⟨id, g, off + k * sz, cutCap cp k, cs, own, ?_, hr, ?_, ?_⟩⟩, ?_⟩
      · simp only [sliceV, hu, boundV, Option.bind_some, ht]
        rw [if_pos ⟨trivial, by omega, by omega, by omega⟩]
        simp
      · rw [List.length_take, List.length_drop, Nat.min_eq_left (by omega)]
      · rw [List.length_take, List.length_drop, Nat.min_eq_left (by omega), Nat.add_assoc, ← Nat.add_mul]
        have : (k + (e - k)) * sz ≤ xs.length * sz := Nat.mul_le_mul_right _ (by omega)
        omega
      · rw [List.length_take, List.length_drop, Nat.min_eq_left (by omega)]
        have hle : k * sz + (e - k) * sz ≤ xs.length * sz := by
          rw [← Nat.add_mul]; exact Nat.mul_le_mul_right _ (by omega)
        have e1 : (cs.drop (off + k * sz)).take ((e - k) * sz) = (xs.flatten.drop (k * sz)).take ((e - k) * sz) := by
          rw [← hf, List.drop_take, List.take_take, List.drop_drop, Nat.min_eq_left (by omega)]
        rw [e1]
        clear e1 hle hl hf hr hs' ht hu
        have flat_drop : ∀ (k : Nat) (ys : List (List V)), (∀ x ∈ ys, x.length = sz) → ys.flatten.drop (k * sz) = (ys.drop k).flatten := by
          intro k
          induction k with
          | zero => intro ys _; simp
          | succ k ih =>
            intro ys hy
            cases ys with
            | nil => simp
            | cons y ys =>
              rw [List.flatten_cons, Nat.succ_mul, Nat.add_comm, ← List.drop_drop, ← hy y (by simp), List.drop_left, List.drop_succ_cons, hy y (by simp)]
              exact ih ys fun x hx => hy x (by simp [hx])
        have flat_take : ∀ (k : Nat) (ys : List (List V)), (∀ x ∈ ys, x.length = sz) → ys.flatten.take (k * sz) = (ys.take k).flatten := by
          intro k
          induction k with
          | zero => intro ys _; simp
          | succ k ih =>
            intro ys hy
            cases ys with
            | nil => simp
            | cons y ys =>
              rw [List.flatten_cons, Nat.succ_mul, Nat.add_comm, ← hy y (by simp), List.take_length_add_append, List.take_succ_cons, List.flatten_cons, hy y (by simp)]
              rw [ih ys fun x hx => hy x (by simp [hx])]
        rw [flat_drop k xs hs, flat_take (e - k) _ fun x hx => hs x (List.mem_of_mem_drop hx)]
      · rintro id' ⟨g', o, n, z, cp', e'⟩
        injection e' with e1
        subst e1
        exact ⟨_, _, _, _, _, rfl⟩
  · cases ht
/-- Bytes as a text. -/
def strT (P : Program) (s d : TypeId) : Bool := match P.underlying s, P.underlying d with
  | some (.slice e), some .string => (match P.underlying e with | some (.int .u8) => true | _ => false)
  | _, _ => false
theorem bytesOf_byC : ∀ (l : List UInt8), bytesOf (l.map byC).flatten = some l
  | [] => rfl
  | b :: l => by
    simp only [List.map_cons, List.flatten_cons, byC, List.cons_append, List.nil_append, bytesOf, byteOf]
    rw [show (l.map byC).flatten = (l.map byC).flatten from rfl, bytesOf_byC l]
    simp
theorem Sl.str {v : V} {l : List UInt8} (h : Sl H v 1 (l.map byC)) {s d : TypeId} (ht : strT P s d = true) : convV P s d H v = some (.str l, H) := by
  unfold strT at ht
  split at ht
  · rename_i e hu hd
    split at ht
    · rename_i he
      obtain ⟨hs, ⟨rfl, h2⟩ | ⟨id, g, off, cp, cs, own, rfl, hr, hl, hf⟩⟩ := h
      · obtain rfl : l = [] := by simpa using h2
        simp [convV, hu, hd, he]
      · simp only [List.length_map, Nat.mul_one] at hl hf
        simp only [convV, hu, hd, he, List.length_map, hr, Option.bind_some]
        rw [if_pos ⟨trivial, hl⟩, hf, bytesOf_byC]
        rfl
    · cases ht
  · cases ht
theorem byC_cells (l : List UInt8) : (l.map byC).flatten.all V.isCell = true ∧ (l.map byC).flatten.all V.leaf = true ∧ (l.map byC).flatten.length = l.length := by
  induction l with
  | nil => exact ⟨rfl, rfl, rfl⟩
  | cons b l ih =>
    obtain ⟨h1, h2, h3⟩ := ih
    simp only [List.map_cons, List.flatten_cons, List.all_append, List.length_append, h1, h2, h3, List.length_cons]
    refine ⟨rfl, rfl, ?_⟩
    simp [byC, Nat.add_comm]
/-- No element at all, written out. -/
theorem bs_zero {t e : TypeId} {sz : Nat} {zv : V} (hu : P.underlying t = some (.slice e)) (hz : szOf P e = some sz) (hv : zeroV P e = some zv) (hl : zv.cells.length = sz) (hs : 0 < sz) : buildSliceV P t 0 [] H = some (.slice H.length 0 0 0 sz .full, H ++ [.row 0 [] true]) := by
  unfold buildSliceV
  simp only [hu, hz, hv, Option.bind_some]
  rw [if_pos ⟨hl, hs, by omega⟩]
  rfl
/-- All of a list laid behind nothing. -/
theorem app_nil' {x : V} {sz by_ : Nat} {xs : List (List V)} (h : Sl H x sz xs) (hc : xs.flatten.all V.isCell = true) (hn : xs ≠ []) (h1 : xs.length * by_ ≤ 2 ^ 40) (h2 : xs.length ≤ 2 ^ 40) : appOf sz by_ H .nilslice x = some (.slice H.length 0 0 xs.length sz .full, H ++ [.row 0 xs.flatten true]) := by
  unfold appOf
  rw [h.src]
  simp only [Option.bind_some]
  have : xs.length ≠ 0 := fun e => hn (List.length_eq_zero_iff.1 e)
  rw [if_pos ⟨flat_len h.1, hc⟩, if_neg this, if_pos ⟨h1, h2⟩]
theorem app_empty {x : V} {sz by_ : Nat} {xs : List (List V)} (h : Sl H x sz xs) (hc : xs.flatten.all V.isCell = true) (hn : xs ≠ []) (h0 : 0 < sz) (h1 : xs.length * by_ ≤ 2 ^ 40) (h2 : xs.length ≤ 2 ^ 40) : appOf sz by_ (H ++ [.row 0 [] true]) (.slice H.length 0 0 0 sz .full) x = some (.slice H.length 1 0 xs.length sz .full, H ++ [.row 1 xs.flatten true]) := by
  unfold appOf
  rw [h.app.src]
  simp only [Option.bind_some, getRow_last]
  have h3 : xs.length ≠ 0 := fun e => hn (List.length_eq_zero_iff.1 e)
  have h4 : 0 < xs.length * sz := Nat.mul_pos (by omega) h0
  rw [if_pos ⟨flat_len h.1, hc⟩, if_pos ⟨trivial, by simpa using h1, by simpa using h2, by simp⟩, if_neg h3]
  simp only [if_true]
  rw [if_neg (by simp only [List.length_nil, Nat.zero_add]; omega), if_pos (by simp)]
  simp
/-- What is kept of a call's new rows, if a slice of values that lead somewhere is told: all of it; else the row. -/
theorem own_gc2 {H' : Hp} {v : V} {sz : Nat} {cs : List V} (ho : Own H' v sz cs) (hpre : ∀ id, id < H.length → H'[id]? = H[id]?) (hfr : ∀ id, At v id → H.length ≤ id) {ws : List V} (hw : ws.all V.leaf = true) :
    ∃ v2 H2, gcC H (.tup (v :: ws), H') = (.tup (v2 :: ws), H2) ∧ Own H2 v2 sz cs ∧ (∃ G, H2 = H ++ G) ∧ (∀ id, At v2 id → H.length ≤ id) ∧ ((H2 = H' ∧ v2 = v) ∨ cs.all V.leaf = true) := by
  by_cases hl : cs.all V.leaf = true
  · obtain ⟨v2, H2, h1, _, h2, h3, h4⟩ := own_gc ho hpre hfr hl hw
    exact ⟨v2, H2, h1, h2, h3, h4, .inr hl⟩
  · obtain ⟨G, hG⟩ := pre_of hpre
    rcases ho with ⟨rfl, rfl⟩ | ⟨id, g, n, rfl, h1, h2, h3⟩
    · exact absurd rfl hl
    · obtain ⟨h4, _, _⟩ := leaf_refs hw
      have hid : H.length ≤ id := hfr id ⟨_, _, _, _, _, rfl⟩
      have hL : fresh H.length (refR (.tup (.slice id g 0 n sz .full :: ws))) = [(id, g)] := by
        simp only [refR, List.flatMap_cons, h4, List.append_nil]
        exact fresh_of hid
      have hk : keepRow H H' (id, g) = none := by
        unfold keepRow
        rw [if_pos hid]
        simp only [h3]
        rw [if_neg (by simp [hl])]
      refine ⟨.slice id g 0 n sz .full, H', ?_, .inr ⟨id, g, n, rfl, h1, h2, h3⟩, ⟨G, hG⟩, hfr, .inl ⟨rfl, rfl⟩⟩
      unfold gcC
      split
      · simp only [hL, mapO, hk, Option.bind_none]
      · rfl
structure Nice (d : V) : Prop where
  cell : d.isCell = true
  tup : d.isTup = false
  self : eqC d d = true
  cells : d.cells = [d]
theorem nice_nil : Nice .nilslice := ⟨rfl, rfl, rfl, rfl⟩
theorem nice_slice (a b c d e : Nat) : Nice (.slice a b c d e .full) := ⟨rfl, rfl, by simp [eqC, eqBase], rfl⟩
theorem Sl.at_lt {v : V} {sz : Nat} {xs : List (List V)} (h : Sl H v sz xs) {i : Nat} (ha : At v i) : i < H.length := by
  obtain ⟨g', o, n, z, cp', rfl⟩ := ha
  obtain ⟨_, ⟨h2, _⟩ | ⟨id, g, off, cp, cs, own, e, hr, _⟩⟩ := h
  · cases h2
  · injection e with e1
    subst e1
    exact getRow_lt hr
theorem Sl.move {H' : Hp} {v : V} {sz : Nat} {xs : List (List V)} (h : Sl H v sz xs) (hf : ∀ i, At v i → H'[i]? = H[i]?) : Sl H' v sz xs := by
  obtain ⟨hs, h⟩ := h
  refine ⟨hs, h.imp (fun h => h) ?_⟩
  rintro ⟨id, g, off, cp, cs, own, rfl, hr, r⟩
  exact ⟨id, g, off, cp, cs, own, rfl, row_frame hr (hf id ⟨_, _, _, _, _, rfl⟩), r⟩
/-! A row whose place is told otherwise. -/
theorem len_snoc (l : Hp) (a b : AB) : (l ++ [a]).length = (l ++ [b]).length := by simp
@[go_sem] theorem load_at {id : Nat} (t : TypeId) (g off : Nat) (cs : List V) (o : Bool) (h : id = H.length) : loadV P t (H ++ [.row g cs o]) (.ptr id g off) = partV P t cs off := by
  subst h; exact load_last ..
@[go_sem] theorem store_at {id : Nat} (t : TypeId) (g off : Nat) (cs : List V) (v : V) (h : id = H.length) : storeV P t (H ++ [.row g cs true]) (.ptr id g off) v = if szOf P t = some v.cells.length ∧ off + v.cells.length ≤ cs.length ∧ v.cells.all V.isCell = true then some (H ++ [.row g (setAt cs off v.cells) true]) else none := by
  subst h; exact store_last ..
/-! Is it nil? -/
def isSlT (P : Program) (t : TypeId) : Bool := match P.underlying t with
  | some (.slice _) => true
  | _ => false
def isPtT (P : Program) (t : TypeId) : Bool := match P.underlying t with
  | some (.pointer _) => true
  | _ => false
def isMpT (P : Program) (t : TypeId) : Bool := match P.underlying t with
  | some (.map _ _) => true
  | _ => false
theorem sl_nil {t : TypeId} (h : isSlT P t = true) (a b c d e : Nat) (cp : Cap) : binV P .eql t (.slice a b c d e cp) .nilslice = some (.bool false) ∧ binV P .neq t (.slice a b c d e cp) .nilslice = some (.bool true) ∧ binV P .eql t .nilslice .nilslice = some (.bool true) ∧ binV P .neq t .nilslice .nilslice = some (.bool false) := by
  unfold isSlT at h
  split at h
  · rename_i hu; simp [binV, eqV, hu]
  · cases h
theorem pt_nil {t : TypeId} (h : isPtT P t = true) (a b c : Nat) : binV P .eql t (.ptr a b c) .nilptr = some (.bool false) ∧ binV P .neq t (.ptr a b c) .nilptr = some (.bool true) ∧ binV P .eql t .nilptr .nilptr = some (.bool true) ∧ binV P .neq t .nilptr .nilptr = some (.bool false) := by
  unfold isPtT at h
  split at h
  · rename_i hu; simp [binV, eqV, hu]
  · cases h
theorem mp_nil {t : TypeId} (h : isMpT P t = true) (a : Nat) : binV P .eql t (.map a) .nilmap = some (.bool false) ∧ binV P .neq t (.map a) .nilmap = some (.bool true) ∧ binV P .eql t .nilmap .nilmap = some (.bool true) ∧ binV P .neq t .nilmap .nilmap = some (.bool false) := by
  unfold isMpT at h
  split at h
  · rename_i hu; simp [binV, eqV, hu]
  · cases h
end
end Go.Am
/-
  The abstract machine, part ZG: one element of a row, read and written in place. No statement of the seat stands here.
-/
namespace Go.Am
open Go

section
variable {P : Program} {H : Hp} {id g : Nat} {pre mid post : List V} {o : Bool}
theorem foc_row (hid : id < H.length) : getRow (H.set id (.row g (pre ++ mid ++ post) o)) id g = some (pre ++ mid ++ post, o) := by
  unfold getRow
  rw [List.getElem?_set_self hid]
  simp
theorem foc_load {t : TypeId} (hg : aggT P t = some false) (hid : id < H.length) {j : Nat} (hj : j + 1 ≤ mid.length) : loadV P t (H.set id (.row g (pre ++ mid ++ post) o)) (.ptr id g (pre.length + j)) = mid[j]? := by
  rw [loadV_ptr, foc_row hid]
  simp only [Option.bind_some, partV, hg, Bool.false_eq_true, if_false]
  rw [List.append_assoc, List.getElem?_append_right (by omega), Nat.add_sub_cancel_left, List.getElem?_append_left (by omega)]
theorem foc_load0 {t : TypeId} (hg : aggT P t = some false) (hid : id < H.length) (hj : 1 ≤ mid.length) : loadV P t (H.set id (.row g (pre ++ mid ++ post) o)) (.ptr id g pre.length) = mid[0]? := by
  have := foc_load (P := P) (H := H) (g := g) (pre := pre) (post := post) (o := o) hg hid (j := 0) (mid := mid) (by omega)
  rwa [Nat.add_zero] at this
theorem foc_agg {t : TypeId} {n : Nat} (hg : aggT P t = some true) (hz : szOf P t = some n) (hid : id < H.length) (hn : mid.length = n) : loadV P t (H.set id (.row g (pre ++ mid ++ post) o)) (.ptr id g pre.length) = some (.agg mid) := by
  rw [loadV_ptr, foc_row hid]
  simp only [Option.bind_some, partV, hg, if_true, hz]
  rw [if_pos (by simp [hn]), List.append_assoc, List.drop_left, ← hn, List.take_left]
theorem setAt_def (cs : List V) (off : Nat) (vs : List V) : setAt cs off vs = cs.take off ++ vs ++ cs.drop (off + vs.length) := rfl
theorem setAt_mid (vs : List V) {j : Nat} (hj : j + vs.length ≤ mid.length) : setAt (pre ++ mid ++ post) (pre.length + j) vs = pre ++ setAt mid j vs ++ post := by
  rw [setAt_def, setAt_def, List.append_assoc pre mid post, List.take_append, List.drop_append, List.take_of_length_le (by omega), List.drop_eq_nil_of_le (by omega), Nat.add_sub_cancel_left, List.nil_append]
  rw [show pre.length + j + vs.length - pre.length = j + vs.length by omega, List.take_append_of_le_length (by omega), List.drop_append_of_le_length (by omega)]
  simp only [List.append_assoc]
theorem foc_store {t : TypeId} {n : Nat} (hz : szOf P t = some n) (hid : id < H.length) {j : Nat} {v : V} (hn : v.cells.length = n) (hj : j + v.cells.length ≤ mid.length) (hc : v.cells.all V.isCell = true) : storeV P t (H.set id (.row g (pre ++ mid ++ post) true)) (.ptr id g (pre.length + j)) v = some (H.set id (.row g (pre ++ setAt mid j v.cells ++ post) true)) := by
  rw [storeV_ptr, foc_row hid]
  simp only [Option.bind_some]
  rw [if_pos ⟨trivial, by rw [hz, hn], by simp only [List.length_append]; omega, hc⟩, setAt_mid _ hj, List.set_set]
theorem foc_store0 {t : TypeId} {n : Nat} (hz : szOf P t = some n) (hid : id < H.length) {v : V} (hn : v.cells.length = n) (hj : v.cells.length ≤ mid.length) (hc : v.cells.all V.isCell = true) : storeV P t (H.set id (.row g (pre ++ mid ++ post) true)) (.ptr id g pre.length) v = some (H.set id (.row g (pre ++ setAt mid 0 v.cells ++ post) true)) := by
  have := foc_store (P := P) (H := H) (g := g) (pre := pre) (post := post) (mid := mid) hz hid (j := 0) hn (by omega) hc
  rwa [Nat.add_zero] at this
theorem foc_stI {t : TypeId} (hz : szOf P t = some 1) (hid : id < H.length) {j : Nat} {k : IntKind} {n : Int} (hj : j + 1 ≤ mid.length) : storeV P t (H.set id (.row g (pre ++ mid ++ post) true)) (.ptr id g (pre.length + j)) (.int k n) = some (H.set id (.row g (pre ++ setAt mid j [.int k n] ++ post) true)) :=
  foc_store hz hid rfl hj rfl
theorem foc_stI0 {t : TypeId} (hz : szOf P t = some 1) (hid : id < H.length) {k : IntKind} {n : Int} (hj : 1 ≤ mid.length) : storeV P t (H.set id (.row g (pre ++ mid ++ post) true)) (.ptr id g pre.length) (.int k n) = some (H.set id (.row g (pre ++ setAt mid 0 [.int k n] ++ post) true)) :=
  foc_store0 hz hid rfl hj rfl
theorem foc_stA {t : TypeId} {n : Nat} (hz : szOf P t = some n) (hid : id < H.length) {cs : List V} (hn : cs.length = n) (hm : mid.length = n) (hc : cs.all V.isCell = true) : storeV P t (H.set id (.row g (pre ++ mid ++ post) true)) (.ptr id g pre.length) (.agg cs) = some (H.set id (.row g (pre ++ cs ++ post) true)) := by
  rw [foc_store0 (v := .agg cs) hz hid hn (by show cs.length ≤ _; omega) hc]
  show some (H.set id (.row g (pre ++ setAt mid 0 cs ++ post) true)) = _
  rw [setAt_def, List.take_zero, List.nil_append, List.drop_eq_nil_of_le (by omega), List.append_nil]
/-- Another block is as it was. -/
theorem foc_other {t : TypeId} {b : AB} {id' g' off : Nat} (hne : id ≠ id') : loadV P t (H.set id b) (.ptr id' g' off) = loadV P t H (.ptr id' g' off) := by
  rw [loadV_ptr, loadV_ptr]
  unfold getRow
  rw [List.getElem?_set_ne hne]
theorem load_frame {H' : Hp} {t : TypeId} {id' g' off : Nat} (h : H'[id']? = H[id']?) : loadV P t H' (.ptr id' g' off) = loadV P t H (.ptr id' g' off) := by
  rw [loadV_ptr, loadV_ptr]
  unfold getRow
  rw [h]
theorem set_same {b : AB} (h : H[id]? = some b) : H.set id b = H := by
  apply List.ext_getElem?
  intro i
  rw [List.getElem?_set]
  split
  · rename_i e
    subst e
    rw [if_pos (List.getElem?_eq_some_iff.1 h).1, h]
  · rfl
/-- An element among the cells of all. -/
theorem split_at {α : Type} {enc : α → List V} {w : Nat} (hw : ∀ a, (enc a).length = w) : ∀ {xs : List α} {i : Nat} {x : α}, xs[i]? = some x → ∃ pre post, (xs.map enc).flatten = pre ++ enc x ++ post ∧ pre.length = i * w ∧ ∀ x', ((xs.set i x').map enc).flatten = pre ++ enc x' ++ post
  | [], i, x, h => by simp at h
  | y :: xs, 0, x, h => by
    simp only [List.getElem?_cons_zero, Option.some.injEq] at h
    subst h
    exact ⟨[], (xs.map enc).flatten, by simp, by simp, fun x' => by simp⟩
  | y :: xs, i + 1, x, h => by
    simp only [List.getElem?_cons_succ] at h
    obtain ⟨pre, post, h1, h2, h3⟩ := split_at hw h
    refine ⟨enc y ++ pre, post, ?_, ?_, fun x' => ?_⟩
    · simp only [List.map_cons, List.flatten_cons, h1, List.append_assoc]
    · rw [List.length_append, hw, h2, Nat.succ_mul, Nat.add_comm]
    · simp only [List.set_cons_succ, List.map_cons, List.flatten_cons, h3, List.append_assoc]
/-- A slice that grows, one element in sight. -/
theorem Own.focus {α : Type} {enc : α → List V} {w : Nat} (hw : ∀ a, (enc a).length = w) (hw0 : 0 < w) {v : V} {xs : List α} (h : Own H v w (xs.map enc).flatten) {i : Nat} {x : α} (hx : xs[i]? = some x) :
    ∃ id g pre post, v = .slice id g 0 xs.length w .full ∧ id < H.length ∧ 0 + i * w = pre.length ∧ H = H.set id (.row g (pre ++ enc x ++ post) true) ∧ (∀ x', Own (H.set id (.row g (pre ++ enc x' ++ post) true)) v w ((xs.set i x').map enc).flatten) := by
  obtain ⟨pre, post, h1, h2, h3⟩ := split_at hw hx
  have hl : (xs.map enc).flatten.length = xs.length * w := by
    rw [flat_len (sz := w)]
    · simp
    · intro y hy
      obtain ⟨a, _, rfl⟩ := List.mem_map.1 hy
      exact hw a
  rcases h with ⟨rfl, h4⟩ | ⟨id, g, n, rfl, h4, h5, h6⟩
  · rw [h4] at h1
    have := congrArg List.length h1
    simp only [List.length_nil, List.length_append, hw] at this
    omega
  · have hn : n = xs.length := Nat.eq_of_mul_eq_mul_right hw0 (h4.trans hl)
    subst hn
    have hid : id < H.length := (List.getElem?_eq_some_iff.1 h6).1
    refine ⟨id, g, pre, post, rfl, hid, by omega, ?_, fun x' => .inr ⟨id, g, xs.length, rfl, ?_, h5, ?_⟩⟩
    · rw [← h1, set_same h6]
    · rw [h3, ← hl, h1]
      simp only [List.length_append, hw]
    · rw [List.getElem?_set_self hid, h3]
theorem own_new {n sz : Nat} {cs : List V} (h1 : n * sz = cs.length) (h2 : 0 < n) : Own (H ++ [.row 0 cs true]) (.slice H.length 0 0 n sz .full) sz cs :=
  .inr ⟨H.length, 0, n, rfl, h1, h2, by simp⟩
/-- A slice written out. -/
theorem bs_gen {t e : TypeId} {sz len : Nat} {zv : V} (hu : P.underlying t = some (.slice e)) (hz : szOf P e = some sz) (hv : zeroV P e = some zv) (hl : zv.cells.length = sz) (hs : 0 < sz) (hs2 : len * sz ≤ 2 ^ 24) (ps : List (Nat × V)) : buildSliceV P t len ps H = (fillV (fun i => some (i * sz, sz)) (repeatV zv.cells len) ps).bind fun cs => if cs.all V.isCell = true then some (.slice H.length 0 0 len sz .full, H ++ [.row 0 cs true]) else none := by
  unfold buildSliceV
  simp only [hu, hz, hv, Option.bind_some]
  rw [if_pos ⟨hl, hs, hs2⟩]
@[go_sem] theorem repeatV_0 (z : List V) : repeatV z 0 = [] := rfl
@[go_sem] theorem repeatV_S (z : List V) (n : Nat) : repeatV z (n + 1) = z ++ repeatV z n := rfl
end
end Go.Am
