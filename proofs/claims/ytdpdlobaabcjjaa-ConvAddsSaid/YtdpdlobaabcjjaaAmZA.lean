/-
  The abstract machine, part ZA: code in a short form, and its weakest preconditions. No statement of the seat stands here.
-/
import Derived.Test.YtdpdlobaabcjjaaAmZ
import Derived.Attr
namespace Go.Am
open Go

/-- An operation in short form; the guard names the slot of its test; what must be still; whose answer must equal itself; which elder readers must read the same ahead of it and behind it. -/
structure Co where
  d : Option Nat
  o : Op
  g : Option (Nat × Bool)
  still : Bool
  self : Bool
  rd : List (Option (Nat × Bool) × Op)
inductive Cc where
  | skip
  | reg (l : List Co)
  | seq (a b : Cc)
  | cond (c : Operand) (a b : Cc)
  | block (id : Nat) (b : Cc)
  | loop (b : Cc)
  | exit (id : Nat)
  | ret

def gslot (all : List Oper) (o : Oper) : Option (Option (Nat × Bool)) :=
  match o.guard with
  | none => some none
  | some (j, w) => ((all[j]?).bind (·.dst)).map fun d => some (d, w)
abbrev RdT' := Nat → List (Option (Nat × Bool) × Op)
def coOf (all : List Oper) (fl : Nat → Bool × Bool) (rd : RdT') (i : Nat) (o : Oper) : Option Co := (gslot all o).map fun g => ⟨o.dst, o.op, g, (fl i).1, (fl i).2, rd i⟩
def compL (all : List Oper) (fl : Nat → Bool × Bool) (rd : RdT') : Nat → List Oper → Option (List Co)
  | _, [] => some []
  | i, o :: r => (coOf all fl rd i o).bind fun c => (compL all fl rd (i + 1) r).map (c :: ·)
def unordP (P : Program) (all : List Oper) : List (Nat × Nat) :=
  let B := befores all
  let n := all.length
  (List.range n).flatMap fun q => (List.range n).filterMap fun e => match all[q]?, all[e]? with
    | some oq, some oe => if kind P oq.op == .read && kind P oe.op == .eff && !(waitsFor B q e) && !(waitsFor B e q) then some (q, e) else none
    | _, _ => none
def flagsOf (pairs : List (Nat × Nat)) (i : Nat) : Bool × Bool := (pairs.any fun p => decide (min p.1 p.2 ≤ i) && decide (i ≤ max p.1 p.2), pairs.any fun p => p.1 == i)
/-- The slots that an operation looks at. -/
def readsOf (all : List Oper) (o : Oper) : List Tmp :=
  (o.op.operands.toList.filterMap fun x => match x with | .tmp t => some t | _ => none) ++ (match o.guard with | some (j, _) => ((all[j]?).bind (·.dst)).toList | none => [])
/-- A reader ahead of an effect: none of its slots is written between the two. -/
def earlyOk (all : List Oper) (p : Nat × Nat) : Bool :=
  match all[p.1]? with
  | none => false
  | some oq => (gslot all oq).isSome && (List.range p.2).all fun k => decide (k < p.1) || (match all[k]? with
    | some ok => (match ok.dst with | some d => !(readsOf all oq).contains d | none => true)
    | none => true)
def rdOf (all : List Oper) (early : List (Nat × Nat)) (i : Nat) : List (Option (Nat × Bool) × Op) :=
  early.filterMap fun p => if p.2 = i then (all[p.1]?).bind fun oq => (gslot all oq).map fun g => (g, oq.op) else none
def compR (P : Program) (all : List Oper) (draw : Bool) : Option (List Co) :=
  if draw = true then
    if drawOk P all = true ∧ ((unordP P all).filter fun p => decide (p.1 < p.2)).all (earlyOk all) = true then compL all (flagsOf ((unordP P all).filter fun p => !decide (p.1 < p.2))) (rdOf all ((unordP P all).filter fun p => decide (p.1 < p.2))) 0 all else none
  else compL all (fun _ => (false, false)) (fun _ => []) 0 all
def compC (P : Program) : Code → Option Cc
  | .skip => some .skip
  | .region _ ops draw => (compR P ops.toList draw).map .reg
  | .seq a b => (compC P a).bind fun x => (compC P b).map (.seq x)
  | .cond c a b => (compC P a).bind fun x => (compC P b).map (.cond c x)
  | .block id b => (compC P b).map (.block id)
  | .loop b => (compC P b).map .loop
  | .exit id => some (.exit id)
  | .ret => some .ret
  | _ => none

def bindW {α : Type} (x : Option α) (k : α → Prop) : Prop := ∃ a, x = some a ∧ k a

abbrev Dfr := List (Nat × List V)
section
variable (P : Program) (cl : CallT) (N : Nat)
def stepW (o : Op) (T : Fr) (D : Dfr) (H : Hp) : Option (V × Dfr × Hp) :=
  match o with
  | .defer c => (calleeV T c).map fun r => (.tup [], r :: D, H)
  | .call c => match c.callee with
    | .value _ => (calleeV T c).bind fun r => (cl r.1 r.2 H).map fun q => (q.1, D, q.2)
    | _ => (opV P o T H).map fun q => (q.1, D, q.2)
  | _ => (opV P o T H).map fun q => (q.1, D, q.2)
def dOk (N : Nat) : Option Nat → Prop
  | none => True
  | some d => d < N
/-- The blocks that were there at the region's begin stay as they are. -/
def stillP (b : Bool) (n : Nat) (x y : Hp) : Prop := b = true → x.take n = y.take n
/-- What is read is read of those blocks. -/
def selfP (P : Program) (b : Bool) (n : Nat) (o : Op) (T : Fr) (H : Hp) : Prop := b = true → ∃ r, opV P o T (H.take n) = some r ∧ eqA r.1 r.1 = true
/-- Whether a guard lets by, told by its slot. -/
def wantB (v : V) (w : Bool) : Option Bool := match v with
  | .bool b => some (b == w)
  | .undef => none
  | _ => some false
def guardR (g : Option (Nat × Bool)) (T : Fr) (c : Prop) : Prop := match g with
  | none => c
  | some (j, w) => ∃ x, wantB (get T j) w = some x ∧ (x = true → c)
def readO (x y : Option (V × Hp)) : Prop := ∃ a b, x = some a ∧ y = some b ∧ b.1 = a.1 ∧ eqA a.1 a.1 = true
/-- The elder readers read the same ahead and behind. -/
def readP (P : Program) : List (Option (Nat × Bool) × Op) → Fr → Hp → Hp → Prop
  | [], _, _, _ => True
  | r :: rs, T, H, H' => guardR r.1 T (readO (opV P r.2 T H) (opV P r.2 T H')) ∧ readP P rs T H H'
def W (n : Nat) : List Co → Fr → Dfr → Hp → (Fr → Dfr → Hp → Prop) → Prop
  | [], T, D, H, Q => Q T D H
  | c :: rest, T, D, H, Q =>
    match c.g with
    | none => bindW (stepW P cl c.o T D H) fun q => dOk N c.d ∧ stillP c.still n q.2.2 H ∧ selfP P c.self n c.o T H ∧ readP P c.rd T H q.2.2 ∧ W n rest (putO T c.d q.1) q.2.1 q.2.2 Q
    | some g => ∃ b, wantB (get T g.1) g.2 = some b ∧ dOk N c.d ∧
        (b = true → bindW (stepW P cl c.o T D H) fun q => stillP c.still n q.2.2 H ∧ selfP P c.self n c.o T H ∧ readP P c.rd T H q.2.2 ∧ W n rest (putO T c.d q.1) q.2.1 q.2.2 Q) ∧
        (b = false → W n rest (putO T c.d (.tup [])) D H Q)

/-- Code in short form: what it comes to. -/
inductive Big : Cc → St → Ex → St → Prop where
  | skip (s) : Big .skip s .nor s
  | reg (l s s') : W P cl N s.H.length l s.T s.D s.H (fun T D H => s' = ⟨T, D, H⟩) → Big (.reg l) s .nor s'
  | seq (a b s s1 e s') : Big a s .nor s1 → Big b s1 e s' → Big (.seq a b) s e s'
  | seqx (a b s e s') : Big a s e s' → e ≠ .nor → Big (.seq a b) s e s'
  | condt (c a b s e s') : ev s.T c = .bool true → Big a s e s' → Big (.cond c a b) s e s'
  | condf (c a b s e s') : ev s.T c = .bool false → Big b s e s' → Big (.cond c a b) s e s'
  | block (id b s e s') : Big b s e s' → e ≠ .exit id → Big (.block id b) s e s'
  | blockx (id b s s') : Big b s (.exit id) s' → Big (.block id b) s .nor s'
  | loop (b s s1 e s') : Big b s .nor s1 → Big (.loop b) s1 e s' → Big (.loop b) s e s'
  | loopx (b s e s') : Big b s e s' → e ≠ .nor → Big (.loop b) s e s'
  | exit (id s) : Big (.exit id) s (.exit id) s
  | ret (s) : Big .ret s .ret s
def Wp (c : Cc) (T : Fr) (D : Dfr) (H : Hp) (Q : Ex → Fr → Dfr → Hp → Prop) : Prop := ∃ e s', Big P cl N c ⟨T, D, H⟩ e s' ∧ Q e s'.T s'.D s'.H
def seqQ (b : Cc) (Q : Ex → Fr → Dfr → Hp → Prop) : Ex → Fr → Dfr → Hp → Prop
  | .nor, T, D, H => Wp P cl N b T D H Q
  | e, T, D, H => Q e T D H
def blockQ (id : Nat) (Q : Ex → Fr → Dfr → Hp → Prop) : Ex → Fr → Dfr → Hp → Prop
  | .exit j, T, D, H => if j = id then Q .nor T D H else Q (.exit j) T D H
  | e, T, D, H => Q e T D H
end

section
variable {P : Program} {cl : CallT} {N : Nat}

theorem W_mono {n : Nat} {Q Q' : Fr → Dfr → Hp → Prop} (h : ∀ T D H, Q T D H → Q' T D H) : ∀ {l : List Co} {T : Fr} {D : Dfr} {H : Hp}, W P cl N n l T D H Q → W P cl N n l T D H Q'
  | [], T, D, H, hw => h T D H hw
  | c :: rest, T, D, H, hw => by
    unfold W at hw ⊢
    split at hw
    · obtain ⟨q, h1, h2, h3, h4, h4', h5⟩ := hw
      exact ⟨q, h1, h2, h3, h4, h4', W_mono h h5⟩
    · obtain ⟨b, h1, h2, h3, h4⟩ := hw
      refine ⟨b, h1, h2, fun e => ?_, fun e => W_mono h (h4 e)⟩
      obtain ⟨q, h5, h6, h7, h7', h8⟩ := h3 e
      exact ⟨q, h5, h6, h7, h7', W_mono h h8⟩
theorem W_ex {n : Nat} {Q : Fr → Dfr → Hp → Prop} : ∀ {l : List Co} {T : Fr} {D : Dfr} {H : Hp}, W P cl N n l T D H Q → ∃ s' : St, W P cl N n l T D H (fun T D H => s' = ⟨T, D, H⟩) ∧ Q s'.T s'.D s'.H
  | [], T, D, H, hw => ⟨⟨T, D, H⟩, rfl, hw⟩
  | c :: rest, T, D, H, hw => by
    unfold W at hw
    split at hw
    · rename_i hg
      obtain ⟨q, h1, h2, h3, h4, h4', h5⟩ := hw
      obtain ⟨s', h6, h7⟩ := W_ex h5
      refine ⟨s', ?_, h7⟩
      unfold W
      rw [hg]
      exact ⟨q, h1, h2, h3, h4, h4', h6⟩
    · rename_i g hg
      obtain ⟨b, h1, h2, h3, h4⟩ := hw
      by_cases e : b = true
      · obtain ⟨q, h5, h6, h7, h7', h8⟩ := h3 e
        obtain ⟨s', h9, h10⟩ := W_ex h8
        refine ⟨s', ?_, h10⟩
        unfold W
        rw [hg]
        exact ⟨b, h1, h2, fun _ => ⟨q, h5, h6, h7, h7', h9⟩, fun n => (by rw [e] at n; cases n)⟩
      · rw [Bool.not_eq_true] at e
        obtain ⟨s', h9, h10⟩ := W_ex (h4 e)
        refine ⟨s', ?_, h10⟩
        unfold W
        rw [hg]
        exact ⟨b, h1, h2, fun n => (by rw [e] at n; cases n), fun _ => h9⟩
theorem W_iff {n : Nat} {Q : Fr → Dfr → Hp → Prop} {l : List Co} {T : Fr} {D : Dfr} {H : Hp} : W P cl N n l T D H Q ↔ ∃ s' : St, W P cl N n l T D H (fun T D H => s' = ⟨T, D, H⟩) ∧ Q s'.T s'.D s'.H :=
  ⟨W_ex, fun ⟨s', h1, h2⟩ => W_mono (fun T D H e => by subst e; exact h2) h1⟩

theorem stepV_eq (o : Oper) (s : St) : stepV P cl o s = (stepW P cl o.op s.T s.D s.H).map fun q => (q.1, ⟨s.T, q.2.1, q.2.2⟩) := by
  obtain ⟨dst, op, type, pos, after, guard⟩ := o
  cases op <;> simp only [stepV, stepW, Option.map_map] <;> try rfl
  case call c =>
    cases hc : c.callee with
    | value f =>
      simp only
      cases calleeV s.T c with
      | none => rfl
      | some r => simp only [Option.bind_some, Option.map_map]; rfl
    | _ => simp only [Option.map_map]; rfl
theorem dOk_set {s : St} {d : Option Nat} {v : V} (h : dOk N d) : setO N s d v = some { s with T := putO s.T d v } := by
  cases d with
  | none => rfl
  | some d => exact if_pos h

theorem putO_get (T : Fr) (d : Option Nat) (v : V) : ∀ t, d ≠ some t → get (putO T d v) t = get T t := by
  intro t h
  cases d with
  | none => rfl
  | some d =>
    simp only [putO, get_put]
    rw [if_neg fun e => h (by rw [e])]
theorem W_trace {n : Nat} {all : List Oper} {fl : Nat → Bool × Bool} {rd : RdT'} {s' : St} : ∀ {rest : List Oper} {i : Nat} {l : List Co} {T : Fr} {D : Dfr} {H : Hp}, compL all fl rd i rest = some l → W P cl N n l T D H (fun T D H => s' = ⟨T, D, H⟩) →
    opsV P cl N all rest ⟨T, D, H⟩ = some s' ∧ ∃ tr, traceV P cl N all rest ⟨T, D, H⟩ = some (tr, s') ∧ (tr ++ [s'])[0]? = some ⟨T, D, H⟩ ∧
      ∀ (j : Nat) (o : Oper), rest[j]? = some o → ∃ s1 s2, (tr ++ [s'])[j]? = some s1 ∧ (tr ++ [s'])[j + 1]? = some s2 ∧ stillP (fl (i + j)).1 n s2.H s1.H ∧ (wantedV all o s1.T = some true → selfP P (fl (i + j)).2 n o.op s1.T s1.H ∧ readP P (rd (i + j)) s1.T s1.H s2.H) ∧ ∀ t, o.dst ≠ some t → get s2.T t = get s1.T t
  | [], i, l, T, D, H, hc, hw => by
    simp only [compL, Option.some.injEq] at hc
    subst hc
    have e : s' = ⟨T, D, H⟩ := hw
    subst e
    exact ⟨rfl, [], rfl, rfl, fun j o h => by simp at h⟩
  | o :: rest, i, l, T, D, H, hc, hw => by
    simp only [compL] at hc
    cases h1 : coOf all fl rd i o with
    | none => rw [h1] at hc; cases hc
    | some c =>
      rw [h1] at hc
      obtain ⟨l', h2, rfl⟩ := Option.map_eq_some_iff.1 hc
      obtain ⟨g, h3, rfl⟩ := Option.map_eq_some_iff.1 h1
      have fin : ∀ {w : Bool} {T1 : Fr} {D1 : Dfr} {H1 : Hp}, wantedV all o T = some w →
          (if w = true then (stepV P cl o ⟨T, D, H⟩).bind fun q => setO N q.2 o.dst q.1 else setO N ⟨T, D, H⟩ o.dst (.tup [])) = some ⟨T1, D1, H1⟩ →
          W P cl N n l' T1 D1 H1 (fun T D H => s' = ⟨T, D, H⟩) → stillP (fl i).1 n H1 H → (w = true → selfP P (fl i).2 n o.op T H ∧ readP P (rd i) T H H1) → (∀ t, o.dst ≠ some t → get T1 t = get T t) →
          opsV P cl N all (o :: rest) ⟨T, D, H⟩ = some s' ∧ ∃ tr, traceV P cl N all (o :: rest) ⟨T, D, H⟩ = some (tr, s') ∧ (tr ++ [s'])[0]? = some ⟨T, D, H⟩ ∧
            ∀ (j : Nat) (o' : Oper), (o :: rest)[j]? = some o' → ∃ s1 s2, (tr ++ [s'])[j]? = some s1 ∧ (tr ++ [s'])[j + 1]? = some s2 ∧ stillP (fl (i + j)).1 n s2.H s1.H ∧ (wantedV all o' s1.T = some true → selfP P (fl (i + j)).2 n o'.op s1.T s1.H ∧ readP P (rd (i + j)) s1.T s1.H s2.H) ∧ ∀ t, o'.dst ≠ some t → get s2.T t = get s1.T t := by
        intro w T1 D1 H1 hw1 hst hW hstill hself hget
        obtain ⟨r1, tr, r2, r3, r4⟩ := W_trace h2 hW
        refine ⟨?_, ⟨T, D, H⟩ :: tr, ?_, rfl, fun j o' hj => ?_⟩
        · simp only [opsV]
          rw [hw1]
          simp only [Option.bind_some]
          split
          · rename_i e
            rw [if_pos e] at hst
            cases hs : stepV P cl o ⟨T, D, H⟩ with
            | none => rw [hs] at hst; cases hst
            | some q =>
              rw [hs] at hst
              simp only [Option.bind_some] at hst ⊢
              rw [hst]
              exact r1
          · rename_i e
            rw [if_neg e] at hst
            rw [hst]
            exact r1
        · simp only [traceV]
          rw [hw1]
          simp only [Option.bind_some]
          rw [hst]
          simp only [Option.bind_some]
          rw [r2]
          rfl
        · cases j with
          | zero =>
            simp only [List.getElem?_cons_zero, Option.some.injEq] at hj
            subst hj
            refine ⟨⟨T, D, H⟩, ⟨T1, D1, H1⟩, rfl, by simpa using r3, hstill, fun h2 => hself ?_, hget⟩
            rw [hw1] at h2
            injection h2
          | succ j =>
            simp only [List.getElem?_cons_succ] at hj
            obtain ⟨s1, s2, h5, h6, h7, h8⟩ := r4 j o' hj
            refine ⟨s1, s2, by simpa using h5, by simpa using h6, ?_, ?_⟩
            · rw [show i + (j + 1) = i + 1 + j by omega]; exact h7
            · rw [show i + (j + 1) = i + 1 + j by omega]; exact h8
      unfold W at hw
      cases g with
      | none =>
        have hw1 : wantedV all o T = some true := by
          unfold gslot at h3
          unfold wantedV
          cases hg : o.guard with
          | none => rfl
          | some p =>
            rw [hg] at h3
            obtain ⟨_, _, e⟩ := Option.map_eq_some_iff.1 h3
            cases e
        obtain ⟨q, h5, h6, h7, h8, h8', h9⟩ := hw
        simp only at h5 h6 h7 h8 h8' h9
        have hst : stepV P cl o ⟨T, D, H⟩ = some (q.1, ⟨T, q.2.1, q.2.2⟩) := by rw [stepV_eq]; simp only; rw [h5]; rfl
        exact fin hw1 (by rw [if_pos rfl, hst]; exact dOk_set h6) h9 h7 (fun _ => ⟨h8, h8'⟩) (putO_get _ _ _)
      | some p =>
        obtain ⟨b, h5, h6, h7, h8⟩ := hw
        simp only at h5 h6 h7 h8
        have hw1 : wantedV all o T = some b := by
          unfold gslot at h3
          unfold wantedV
          cases hg : o.guard with
          | none => rw [hg] at h3; cases h3
          | some r =>
            rw [hg] at h3
            obtain ⟨d, h9, e⟩ := Option.map_eq_some_iff.1 h3
            injection e with e
            subst e
            simp only at h5 ⊢
            rw [h9]
            exact h5
        by_cases e : b = true
        · obtain ⟨q, h9, h10, h11, h11', h12⟩ := h7 e
          have hst : stepV P cl o ⟨T, D, H⟩ = some (q.1, ⟨T, q.2.1, q.2.2⟩) := by rw [stepV_eq]; simp only; rw [h9]; rfl
          exact fin hw1 (by rw [if_pos e, hst]; exact dOk_set h6) h12 h10 (fun _ => ⟨h11, h11'⟩) (putO_get _ _ _)
        · exact fin hw1 (by rw [if_neg e]; exact dOk_set h6) (h8 (by simpa using e)) (fun _ => rfl) (fun e2 => absurd e2 e) (putO_get _ _ _)

theorem read_row {H G : Hp} {id g : Nat} {r : List V × Bool} (h : getRow H id g = some r) : getRow (H ++ G) id g = some r := by
  unfold getRow at h ⊢
  cases hb : H[id]? with
  | none => rw [hb] at h; cases h
  | some b => rw [List.getElem?_append_left (List.getElem?_eq_some_iff.1 hb).1]; exact h
theorem read_map {H G : Hp} {id : Nat} {r : TypeId × List (V × V)} (h : getMap H id = some r) : getMap (H ++ G) id = some r := by
  unfold getMap at h ⊢
  cases hb : H[id]? with
  | none => rw [hb] at h; cases h
  | some b => rw [List.getElem?_append_left (List.getElem?_eq_some_iff.1 hb).1]; exact h
theorem len_more {ts : Array TypeId} {xs : List V} {H G : Hp} {r : V × Hp} (h : builtinV P .len ts xs H = some r) : ∃ H', builtinV P .len ts xs (H ++ G) = some (r.1, H') := by
  unfold builtinV at h ⊢
  generalize ts.toList = tl at h ⊢
  match tl, xs, h with
  | t :: tl', [x], h =>
    simp only at h ⊢
    obtain ⟨v, h1, rfl⟩ := Option.map_eq_some_iff.1 h
    refine ⟨H ++ G, ?_⟩
    unfold lenV at h1 ⊢
    split at h1
    · simp only [h1]; rfl
    · simp only [h1]; rfl
    · simp only [h1]; rfl
    · simp only [h1]; rfl
    · simp only [h1]; rfl
    · simp only [h1]; rfl
    · obtain ⟨q, h2, h3⟩ := Option.bind_eq_some_iff.1 h1
      simp only [read_map h2, Option.bind_some, h3]; rfl
    · cases h1
  | [], [], h => cases h
  | [], _ :: _, h => cases h
  | _ :: _, [], h => cases h
  | _ :: _, _ :: _ :: _, h => cases h
/-- What reads, reads the same where more lies behind. -/
theorem read_more {o : Op} {T : Fr} {H G : Hp} {r : V × Hp} (hk : kind P o = .read) (h : opV P o T H = some r) : ∃ H', opV P o T (H ++ G) = some (r.1, H') := by
  cases o <;> simp only [kind, reduceCtorEq] at hk
  case load t a =>
    simp only [opV] at h ⊢
    obtain ⟨v, h1, rfl⟩ := Option.map_eq_some_iff.1 h
    refine ⟨H ++ G, ?_⟩
    unfold loadV at h1 ⊢
    split at h1
    · obtain ⟨q, h2, h3⟩ := Option.bind_eq_some_iff.1 h1
      rw [read_row h2, Option.bind_some, h3]; rfl
    · cases h1
  case lookup t x i ok =>
    simp only [opV] at h ⊢
    obtain ⟨v, h1, rfl⟩ := Option.map_eq_some_iff.1 h
    refine ⟨H ++ G, ?_⟩
    unfold lookupV at h1 ⊢
    split at h1
    · obtain ⟨q, h2, h3⟩ := Option.bind_eq_some_iff.1 h1
      have : (match ev T x with | .nilmap => some (‹TypeId›, []) | .map id => getMap (H ++ G) id | _ => none) = some q ∨ True := .inr trivial
      clear this
      split at h2
      · simp only [h2, Option.bind_some, h3]; rfl
      · simp only [read_map h2, Option.bind_some, h3]; rfl
      · cases h2
    · cases h1
  case slice t x lo hi m =>
    cases m with
    | some m => simp only [opV] at h; cases h
    | none =>
      simp only [opV] at h ⊢
      obtain ⟨v, h1, rfl⟩ := Option.map_eq_some_iff.1 h
      refine ⟨H ++ G, ?_⟩
      unfold sliceV at h1 ⊢
      split at h1
      · simp only [h1]; rfl
      · simp only [h1]; rfl
      · simp only [h1]; rfl
      · obtain ⟨sz, h2, h3⟩ := Option.bind_eq_some_iff.1 h1
        obtain ⟨q, h4, h5⟩ := Option.bind_eq_some_iff.1 h3
        simp only [h2, Option.bind_some, read_row h4, h5]; rfl
      · cases h1
  case convert s d x =>
    simp only [opV] at h ⊢
    unfold convV at h ⊢
    split at h
    · simp only [Option.some.injEq] at h; subst h; exact ⟨_, rfl⟩
    · simp only [Option.some.injEq] at h; subst h; exact ⟨_, rfl⟩
    · rename_i h1 h2 _
      simp only [h1, h2] at hk
      split at hk <;> simp_all
    · rename_i h1 h2 _
      simp only [h1, h2] at hk
      cases hk
    · rename_i h1 h2
      split at h
      · split at h
        · simp only [Option.some.injEq] at h; subst h; exact ⟨_, rfl⟩
        · obtain ⟨q, h4, h5⟩ := Option.bind_eq_some_iff.1 h
          simp only [read_row h4, Option.bind_some]
          split at h5
          · rename_i hc
            rw [if_pos hc]
            obtain ⟨l, h6, rfl⟩ := Option.map_eq_some_iff.1 h5
            rw [h6]
            exact ⟨_, rfl⟩
          · cases h5
        · cases h
      · cases h
    · cases h
  case call c =>
    cases hc : c.callee with
    | value f => rw [hc] at hk; simp at hk
    | invoke => rw [hc] at hk; simp at hk
    | builtin b =>
      rw [hc] at hk
      simp only [opV, hc] at h ⊢
      cases b <;> simp only [reduceCtorEq] at hk
      exact len_more h
theorem still_run {n : Nat} {L : List St} {lo hi : Nat} (h : ∀ k, lo ≤ k → k ≤ hi → ∃ a b, L[k]? = some a ∧ L[k + 1]? = some b ∧ b.H.take n = a.H.take n) : ∀ d a b, lo + d ≤ hi + 1 → L[lo]? = some a → L[lo + d]? = some b → b.H.take n = a.H.take n
  | 0, a, b, _, h1, h2 => by rw [Nat.add_zero, h1] at h2; injection h2 with e; rw [e]
  | d + 1, a, b, hd, h1, h2 => by
    obtain ⟨x, y, h3, h4, h5⟩ := h (lo + d) (by omega) (by omega)
    have := still_run h d a x (by omega) h1 h3
    rw [show lo + (d + 1) = lo + d + 1 by omega, h4] at h2
    injection h2 with e
    rw [← e, h5, this]

theorem same_get {all : List Oper} {L : List St} (h : ∀ (j : Nat) (o : Oper), all[j]? = some o → ∃ s1 s2, L[j]? = some s1 ∧ L[j + 1]? = some s2 ∧ ∀ t, o.dst ≠ some t → get s2.T t = get s1.T t) {t : Nat} {lo : Nat} : ∀ (d : Nat) (a b : St), (∀ k o, lo ≤ k → k < lo + d → all[k]? = some o → o.dst ≠ some t) → lo + d ≤ all.length → L[lo]? = some a → L[lo + d]? = some b → get b.T t = get a.T t
  | 0, a, b, _, _, h1, h2 => by rw [Nat.add_zero, h1] at h2; injection h2 with e; rw [e]
  | d + 1, a, b, hk, hl, h1, h2 => by
    obtain ⟨x, y, h3, h4, h5⟩ := h (lo + d) _ (List.getElem?_eq_getElem (by omega : lo + d < all.length))
    have := same_get h d a x (fun k o h6 h7 => hk k o h6 (by omega)) (by omega) h1 h3
    rw [show lo + (d + 1) = lo + d + 1 by omega, h4] at h2
    injection h2 with e
    rw [← e, h5 t (hk (lo + d) _ (by omega) (by omega) (List.getElem?_eq_getElem (by omega))), this]
theorem readP_mem : ∀ {rs : List (Option (Nat × Bool) × Op)} {T : Fr} {H H' : Hp} {r : Option (Nat × Bool) × Op}, readP P rs T H H' → r ∈ rs → guardR r.1 T (readO (opV P r.2 T H) (opV P r.2 T H'))
  | r' :: rs, T, H, H', r, h, hm => by
    rcases List.mem_cons.1 hm with rfl | hm
    · exact h.1
    · exact readP_mem h.2 hm
theorem guard_wanted {all : List Oper} {o : Oper} {g : Option (Nat × Bool)} {T : Fr} {c : Prop} (hg : gslot all o = some g) (hw : wantedV all o T = some true) (h : guardR g T c) : c := by
  unfold gslot at hg
  unfold wantedV at hw
  split at hg
  · rename_i e
    injection hg with hg
    subst hg
    exact h
  · rename_i j w e
    obtain ⟨d, h1, rfl⟩ := Option.map_eq_some_iff.1 hg
    rw [e] at hw
    simp only [h1] at hw
    obtain ⟨b, h2, h3⟩ := h
    have hw' : wantB (get T d) w = some true := hw
    rw [h2] at hw'
    injection hw' with hw'
    exact h3 hw'
theorem dyn_of {n : Nat} {all : List Oper} {L : List St} (hearly : ((unordP P all).filter fun p => decide (p.1 < p.2)).all (earlyOk all) = true)
    (h : ∀ (j : Nat) (o : Oper), all[j]? = some o → ∃ s1 s2, L[j]? = some s1 ∧ L[j + 1]? = some s2 ∧ stillP (flagsOf ((unordP P all).filter fun p => !decide (p.1 < p.2)) j).1 n s2.H s1.H ∧ (wantedV all o s1.T = some true → selfP P (flagsOf ((unordP P all).filter fun p => !decide (p.1 < p.2)) j).2 n o.op s1.T s1.H ∧ readP P (rdOf all ((unordP P all).filter fun p => decide (p.1 < p.2)) j) s1.T s1.H s2.H) ∧ ∀ t, o.dst ≠ some t → get s2.T t = get s1.T t) : drawDyn P all L = true := by
  have hgs : ∀ (j : Nat) (o : Oper), all[j]? = some o → ∃ s1 s2, L[j]? = some s1 ∧ L[j + 1]? = some s2 ∧ ∀ t, o.dst ≠ some t → get s2.T t = get s1.T t := fun j o hj =>
    let ⟨s1, s2, h1, h2, _, _, h3⟩ := h j o hj
    ⟨s1, s2, h1, h2, h3⟩
  unfold drawDyn
  simp only [List.all_eq_true, List.mem_range]
  intro q hq
  split
  · rename_i oq sq hoq hsq
    simp only [Bool.or_eq_true, List.all_eq_true, List.mem_range]
    by_cases hk : kind P oq.op = .read
    · by_cases hw : wantedV all oq sq.T = some true
      · refine .inr fun e he => ?_
        split
        · rename_i oe s1 s2 hoe hs1 hs2
          simp only [Bool.or_eq_true]
          by_cases hke : kind P oe.op = .eff
          · by_cases hqe : waitsFor (befores all) q e = true
            · simp [hqe]
            · by_cases heq : waitsFor (befores all) e q = true
              · simp [heq]
              · by_cases hwe : wantedV all oe s1.T = some true
                · refine .inr ?_
                  have hmem : (q, e) ∈ unordP P all := by
                    unfold unordP
                    simp only [List.mem_flatMap, List.mem_filterMap, List.mem_range]
                    refine ⟨q, hq, e, he, ?_⟩
                    rw [hoq, hoe]
                    simp only
                    rw [if_pos]
                    simp [hk, hke, hqe, heq]
                  by_cases hlt : q < e
                  · have hme : (q, e) ∈ (unordP P all).filter fun p => decide (p.1 < p.2) := List.mem_filter.2 ⟨hmem, by simpa using hlt⟩
                    have hok := List.all_eq_true.1 hearly _ hme
                    unfold earlyOk at hok
                    simp only [hoq, Bool.and_eq_true, List.all_eq_true, List.mem_range] at hok
                    obtain ⟨hg, hok⟩ := hok
                    obtain ⟨g, hg⟩ := Option.isSome_iff_exists.1 hg
                    have hread : (g, oq.op) ∈ rdOf all ((unordP P all).filter fun p => decide (p.1 < p.2)) e := by
                      unfold rdOf
                      simp only [List.mem_filterMap]
                      exact ⟨(q, e), hme, by simp [hoq, hg]⟩
                    obtain ⟨s1', s2', h3, h4, _, h6, _⟩ := h e oe hoe
                    rw [hs1] at h3
                    rw [hs2] at h4
                    injection h3 with h3
                    injection h4 with h4
                    subst h3 h4
                    have hagree : ∀ t ∈ readsOf all oq, get s1.T t = get sq.T t := by
                      intro t ht
                      refine same_get hgs (lo := q) (e - q) sq s1 (fun k o h7 h8 h9 hd => ?_) (by omega) hsq (by rw [show q + (e - q) = e by omega]; exact hs1)
                      have := hok k (by omega)
                      rw [h9] at this
                      simp only [hd, Bool.or_eq_true, decide_eq_true_eq, Bool.not_eq_true'] at this
                      rcases this with h10 | h10
                      · omega
                      · rw [List.contains_iff_mem.2 ht] at h10
                        cases h10
                    have hwq : wantedV all oq s1.T = some true := by
                      rw [← hw]
                      unfold wantedV
                      cases hgd : oq.guard with
                      | none => rfl
                      | some r =>
                        simp only
                        cases hd : (all[r.1]?).bind (·.dst) with
                        | none => rfl
                        | some d =>
                          simp only
                          rw [hagree d (by unfold readsOf; rw [hgd]; simp [hd])]
                    obtain ⟨a, b, k1, k2, k3, k4⟩ := guard_wanted hg hwq (readP_mem (h6 hwe).2 hread)
                    have hops : ∀ H, opV P oq.op s1.T H = opV P oq.op sq.T H := fun H => opV_congr _ fun x hx => by
                      cases x with
                      | tmp t => exact hagree t (by unfold readsOf; simp only [List.mem_append, List.mem_filterMap]; exact .inl ⟨.tmp t, by simpa using hx, rfl⟩)
                      | const v => rfl
                      | global g => rfl
                      | func f => rfl
                    rw [hops] at k1 k2
                    rw [k1, k2]
                    show eqA a.1 b.1 = true
                    rw [k3]; exact k4
                  · have hml : (q, e) ∈ (unordP P all).filter fun p => !decide (p.1 < p.2) := List.mem_filter.2 ⟨hmem, by simpa using hlt⟩
                    have hfl : ∀ k, min q e ≤ k → k ≤ max q e → ∃ a b, L[k]? = some a ∧ L[k + 1]? = some b ∧ b.H.take n = a.H.take n := by
                      intro k h1 h2
                      have hlt : k < all.length := by omega
                      obtain ⟨a, b, h3, h4, h5, _⟩ := h k _ (List.getElem?_eq_getElem hlt)
                      refine ⟨a, b, h3, h4, h5 ?_⟩
                      simp only [flagsOf, List.any_eq_true, Bool.and_eq_true, decide_eq_true_eq]
                      exact ⟨(q, e), hml, h1, h2⟩
                    obtain ⟨s0, _, hs0, _⟩ := h (min q e) _ (List.getElem?_eq_getElem (by omega : min q e < all.length))
                    have same : ∀ m s, min q e ≤ m → m ≤ max q e + 1 → L[m]? = some s → s.H.take n = s0.H.take n := by
                      intro m s h1 h2 h3
                      exact still_run hfl (m - min q e) s0 s (by omega) hs0 (by rw [show min q e + (m - min q e) = m by omega]; exact h3)
                    have e1 := same e s1 (by omega) (by omega) hs1
                    have e2 := same (e + 1) s2 (by omega) (by omega) hs2
                    have e3 := same q sq (by omega) (by omega) hsq
                    obtain ⟨sq', _, h3, _, _, h6, _⟩ := h q oq hoq
                    rw [hsq] at h3
                    injection h3 with h3
                    subst h3
                    obtain ⟨r, h7, h8⟩ := (h6 hw).1 (by simp only [flagsOf, List.any_eq_true]; exact ⟨(q, e), hml, by simp⟩)
                    have k1 : s1.H.take n = sq.H.take n := e1.trans e3.symm
                    have k2 : s2.H.take n = sq.H.take n := e2.trans e3.symm
                    obtain ⟨H1, h9⟩ := read_more (G := s1.H.drop n) hk h7
                    obtain ⟨H2, h10⟩ := read_more (G := s2.H.drop n) hk h7
                    rw [← k1, List.take_append_drop] at h9
                    rw [← k2, List.take_append_drop] at h10
                    rw [h9, h10]
                    exact h8
                · simp [hwe]
          · simp [hke]
        · rfl
      · simp [hw]
    · simp [hk]
  · rfl
end
end Go.Am
