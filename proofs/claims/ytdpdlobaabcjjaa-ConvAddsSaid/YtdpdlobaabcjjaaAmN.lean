/-
  The abstract machine, part N: what an operation looks at. No statement of the seat stands here.
-/
import Derived.Test.YtdpdlobaabcjjaaAmM
namespace Go.Am
open Go

section
variable {P : Program}

/-- The block that a value leads to. -/
def V.id? : V → Option Nat
  | .ptr id _ _ => some id
  | .slice id _ _ _ _ _ => some id
  | .map id => some id
  | _ => none

theorem map_ev {T T' : Fr} : ∀ {xs : List Operand}, (∀ x ∈ xs, ev T x = ev T' x) → xs.map (ev T) = xs.map (ev T')
  | [], _ => rfl
  | x :: xs, h => by rw [List.map_cons, List.map_cons, h x (by simp), map_ev fun y hy => h y (by simp [hy])]
theorem pairs_ev {T T' : Fr} : ∀ {xs : List (Nat × Operand)}, (∀ x ∈ xs, ev T x.2 = ev T' x.2) → (xs.map fun p => (p.1, ev T p.2)) = xs.map fun p => (p.1, ev T' p.2)
  | [], _ => rfl
  | x :: xs, h => by rw [List.map_cons, List.map_cons, h x (by simp), pairs_ev fun y hy => h y (by simp [hy])]
theorem opt_ev {T T' : Fr} {x : Option Operand} (h : ∀ y, x = some y → ev T y = ev T' y) : x.map (ev T) = x.map (ev T') := by
  cases x with
  | none => rfl
  | some y => simp [h y rfl]

theorem opV_congr (o : Op) {T T' : Fr} {H : Hp} (h : ∀ x ∈ o.operands, ev T x = ev T' x) : opV P o T H = opV P o T' H := by
  cases o with
  | build t ps => simp only [opV, Op.operands] at *; rw [pairs_ev (T' := T')]; intro x hx; exact h x.2 (by simp; exact ⟨x.1, by simpa using hx⟩)
  | buildSlice t n ps => simp only [opV, Op.operands] at *; rw [pairs_ev (T' := T')]; intro x hx; exact h x.2 (by simp; exact ⟨x.1, by simpa using hx⟩)
  | makeFunc f a b =>
    simp only [Op.operands] at h
    have e1 : a.toList.map (ev T) = a.toList.map (ev T') := map_ev fun x hx => h x (by simp at hx ⊢; exact .inl hx)
    have e2 : b.toList.map (ev T) = b.toList.map (ev T') := map_ev fun x hx => h x (by simp at hx ⊢; exact .inr hx)
    cases f <;> simp only [opV, e1, e2]
  | call c =>
    simp only [Op.operands] at h
    simp only [opV]
    have : c.args.toList.map (ev T) = c.args.toList.map (ev T') := map_ev fun x hx => h x (by simp at hx; simp [Call.operands, hx])
    rw [this]
  | slice t x lo hi mx =>
    simp only [Op.operands] at h
    cases mx with
    | some m => rfl
    | none =>
      have e1 : lo.map (ev T) = lo.map (ev T') := opt_ev fun y hy => h y (by simp [hy])
      have e2 : hi.map (ev T) = hi.map (ev T') := opt_ev fun y hy => h y (by simp [hy])
      simp only [opV, e1, e2, h x (by simp)]
  | makeMap t r => cases r <;> rfl
  | pick c a b => simp only [Op.operands] at h; simp only [opV, h c (by simp), h a (by simp), h b (by simp)]
  | _ => simp only [Op.operands] at h; first
    | rfl
    | (simp only [opV]; simp_all; done)

theorem callee_congr (c : Call) {T T' : Fr} (h : ∀ x ∈ c.operands, ev T x = ev T' x) : calleeV T c = calleeV T' c := by
  have e : c.args.toList.map (ev T) = c.args.toList.map (ev T') := map_ev fun x hx => h x (by simp at hx; simp [Call.operands, hx])
  unfold calleeV
  cases hc : c.callee with
  | value f => simp only [e, h f (by simp [Call.operands, hc])]
  | _ => rfl

theorem wanted_congr {all : List Oper} {o : Oper} {T T' : Fr} (h : ∀ t ∈ namesOf all o, get T t = get T' t) : wantedV all o T = wantedV all o T' := by
  unfold wantedV
  cases hg : o.guard with
  | none => rfl
  | some g =>
    obtain ⟨j, want⟩ := g
    simp only
    cases hd : (all[j]?).bind (·.dst) with
    | none => rfl
    | some d =>
      have : get T d = get T' d := h d (by simp [namesOf, hg, hd])
      simp only [this]
theorem ev_names {all : List Oper} {o : Oper} {T T' : Fr} (h : ∀ t ∈ namesOf all o, get T t = get T' t) : ∀ x ∈ o.op.operands, ev T x = ev T' x := by
  intro x hx
  cases x with
  | tmp t => exact h t (by simp only [namesOf, List.mem_append, List.mem_filterMap]; exact .inl (.inr ⟨.tmp t, by simpa using hx, rfl⟩))
  | _ => rfl
theorem stepV_congr {all : List Oper} {cl : CallT} {o : Oper} {s : St} {T' : Fr} (h : ∀ t ∈ namesOf all o, get s.T t = get T' t) :
    stepV P cl o { s with T := T' } = (stepV P cl o s).map fun q => (q.1, { q.2 with T := T' }) := by
  have he := ev_names h
  obtain ⟨dst, op, type, pos, after, guard⟩ := o
  have hop : opV P op T' s.H = opV P op s.T s.H := (opV_congr op he).symm
  cases op with
  | defer c =>
    have := callee_congr c (T := s.T) (T' := T') (fun x hx => he x (by simpa [Op.operands] using hx))
    simp only [stepV, ← this]
    cases calleeV s.T c <;> rfl
  | call c =>
    have := callee_congr c (T := s.T) (T' := T') (fun x hx => he x (by simpa [Op.operands] using hx))
    simp only [stepV, ← this, hop]
    cases hc : c.callee with
    | value f =>
      simp only
      cases calleeV s.T c with
      | none => rfl
      | some r => simp only [Option.bind_some]; cases cl r.1 r.2 s.H <;> rfl
    | _ => simp only; cases opV P (.call c) s.T s.H <;> rfl
  | _ =>
    simp only [stepV, hop]
    generalize opV P _ s.T s.H = r
    cases r <;> rfl

/-! What hangs on memory. -/
theorem map_self {α : Type} {o : Option α} {f : α → V} {v : V} {H H' : Hp} (h : (o.map fun x => (f x, H)) = some (v, H')) : H' = H ∧ ∀ H2 : Hp, (o.map fun x => (f x, H2)) = some (v, H2) := by
  cases o with
  | none => cases h
  | some x =>
    simp only [Option.map_some, Option.some.injEq, Prod.mk.injEq] at h ⊢
    exact ⟨h.2.symm, fun _ => ⟨h.1, trivial⟩⟩
theorem pure_law {o : Op} {T : Fr} {H H' : Hp} {v : V} (hk : kind P o = .pure) (h : opV P o T H = some (v, H')) : H' = H ∧ ∀ H2, opV P o T H2 = some (v, H2) := by
  cases o <;> simp only [kind] at hk <;> try (cases hk; done)
  case move x => simp only [opV, Option.some.injEq, Prod.mk.injEq] at h ⊢; exact ⟨h.2.symm, fun _ => ⟨h.1, trivial⟩⟩
  case assign x => simp only [opV, Option.some.injEq, Prod.mk.injEq] at h ⊢; exact ⟨h.2.symm, fun _ => ⟨h.1, trivial⟩⟩
  case pick c a b =>
    simp only [opV] at h ⊢
    split at h <;> simp only [Option.some.injEq, Prod.mk.injEq, reduceCtorEq] at h ⊢
    · exact ⟨h.2.symm, fun _ => ⟨h.1, trivial⟩⟩
    · exact ⟨h.2.symm, fun _ => ⟨h.1, trivial⟩⟩
  case nilCheck x =>
    simp only [opV] at h ⊢
    split at h <;> simp only [Option.some.injEq, Prod.mk.injEq, reduceCtorEq] at h ⊢
    · exact ⟨h.2.symm, fun _ => ⟨h.1, trivial⟩⟩
    · exact ⟨h.2.symm, fun _ => ⟨h.1, trivial⟩⟩
  case makeFunc f a b =>
    cases f <;> simp only [opV] at h ⊢ <;> try (cases h; done)
    split at h
    · rename_i hc
      simp only [Option.some.injEq, Prod.mk.injEq] at h
      exact ⟨h.2.symm, fun _ => by rw [if_pos hc, h.1]⟩
    · cases h
  case build t ps => simp only [opV] at h ⊢; exact map_self (f := fun x => x) h
  case binOp op t x y e => simp only [opV] at h ⊢; exact map_self (f := fun x => x) h
  case unOp op t x => simp only [opV] at h ⊢; exact map_self (f := fun x => x) h
  case fieldAddr s x f => simp only [opV] at h ⊢; exact map_self (f := fun x => x) h
  case field s x f => simp only [opV] at h ⊢; exact map_self (f := fun x => x) h
  case indexAddr t x i => simp only [opV] at h ⊢; exact map_self (f := fun x => x) h
  case index t x i => simp only [opV] at h ⊢; exact map_self (f := fun x => x) h
  case extract x i =>
    simp only [opV] at h ⊢
    split at h
    · exact map_self (f := fun x => x) h
    · cases h
  case convert s d x =>
    simp only [opV, convV] at h ⊢
    cases hs : P.underlying s with
    | none => rw [hs] at h; simp at h
    | some us =>
      cases hd : P.underlying d with
      | none => rw [hs, hd] at h; cases us <;> simp at h
      | some ud =>
        rw [hs, hd] at hk h
        cases ud <;> try (exfalso; cases us <;> simp at hk; done)
        case int k =>
          cases hx : ev T x <;> rw [hx] at h <;> cases us <;> simp at h ⊢ <;> exact ⟨h.2.symm, h.1⟩
        case string =>
          cases us <;> simp only [reduceCtorEq] at hk
          cases hx : ev T x <;> rw [hx] at h <;> simp at h ⊢ <;> exact ⟨h.2.symm, h.1⟩
  case call c =>
    simp only [opV] at h ⊢
    split at h
    · rename_i b hb
      rw [hb] at hk
      cases b <;> simp only [reduceCtorEq] at hk
      all_goals
        simp only [builtinV] at h ⊢
        split at h <;> first
          | contradiction
          | exact map_self (f := fun x => x) h
          | (cases h; done)
    · cases h

theorem getRow_keep {H H2 : Hp} {id g : Nat} {r : List V × Bool} (hg : getRow H id g = some r) (hk : ∀ b, H[id]? = some b → H2[id]? = some b) : getRow H2 id g = some r := by
  unfold getRow at *
  cases hb : H[id]? with
  | none => rw [hb] at hg; cases hg
  | some b => rw [hk b hb]; rw [hb] at hg; exact hg
theorem getMap_keep {H H2 : Hp} {id : Nat} {r : TypeId × List (V × V)} (hg : getMap H id = some r) (hk : ∀ b, H[id]? = some b → H2[id]? = some b) : getMap H2 id = some r := by
  unfold getMap at *
  cases hb : H[id]? with
  | none => rw [hb] at hg; cases hg
  | some b => rw [hk b hb]; rw [hb] at hg; exact hg
/-- What a reader reads is still read where its blocks are the same. -/
theorem read_law {o : Op} {T : Fr} {H H' : Hp} {v : V} (hk : kind P o = .read) (h : opV P o T H = some (v, H')) :
    H' = H ∧ ∀ H2, (∀ x ∈ o.operands, ∀ id, (ev T x).id? = some id → ∀ b, H[id]? = some b → H2[id]? = some b) → opV P o T H2 = some (v, H2) := by
  cases o <;> simp only [kind, reduceCtorEq] at hk
  case load t x =>
    simp only [opV, loadV, Op.operands] at h ⊢
    split at h
    · rename_i id g off e
      obtain ⟨q, hq, rfl, rfl⟩ := opt_pair (f := fun x => x) h
      refine ⟨rfl, fun H2 h2 => ?_⟩
      cases hg : getRow H' id g with
      | none => rw [hg] at hq; cases hq
      | some r =>
        rw [getRow_keep hg (h2 x (by simp) id (by rw [e]; rfl))]
        rw [hg] at hq
        rw [hq]; rfl
    · cases h
  case lookup t x i ok =>
    simp only [opV, lookupV, Op.operands] at h ⊢
    obtain ⟨q, hq, rfl, rfl⟩ := opt_pair (f := fun x => x) h
    refine ⟨rfl, fun H2 h2 => ?_⟩
    split at hq
    · rename_i kt et hu
      cases hm : ev T x with
      | nilmap => rw [hm] at hq; simp only at hq ⊢; rw [hq]; rfl
      | map id =>
        rw [hm] at hq
        simp only at hq ⊢
        cases hg : getMap H' id with
        | none => rw [hg] at hq; cases hq
        | some r =>
          rw [hg] at hq
          rw [getMap_keep hg (h2 x (by simp) id (by rw [hm]; rfl)), hq]; rfl
      | _ => rw [hm] at hq; simp at hq
    · cases hq
  case slice t x lo hi mx =>
    cases mx with
    | some m => simp [opV] at h
    | none =>
      simp only [opV, Op.operands] at h ⊢
      obtain ⟨q, hq, rfl, rfl⟩ := opt_pair (f := fun x => x) h
      refine ⟨rfl, fun H2 h2 => ?_⟩
      have : sliceV P t H2 (ev T x) (lo.map (ev T)) (hi.map (ev T)) = some v := by
        unfold sliceV at hq ⊢
        split at hq
        · simp_all
        · simp_all
        · simp_all
        · rename_i n e id g off hu hx
          cases hs : szOf P e with
          | none => rw [hs] at hq; cases hq
          | some sz =>
            rw [hs] at hq
            simp only [Option.bind_some] at hq ⊢
            cases hg : getRow H' id g with
            | none => rw [hg] at hq; cases hq
            | some r =>
              rw [hg] at hq
              rw [getRow_keep hg (h2 x (by simp) id (by rw [hx]; rfl))]
              exact hq
        · cases hq
      rw [this]; rfl
  case convert s d x =>
    simp only [opV, convV, Op.operands] at h ⊢
    cases hs : P.underlying s with
    | none => rw [hs] at h; simp at h
    | some us =>
      cases hd : P.underlying d with
      | none => rw [hs, hd] at h; cases us <;> simp at h
      | some ud =>
        rw [hs, hd] at hk h
        cases ud <;> cases us <;> simp only [reduceCtorEq] at hk
        rename_i e
        cases hx : ev T x with
        | nilslice =>
          rw [hx] at h
          simp only at h ⊢
          split at h
          · simp_all
          · cases h
        | slice id g off n sz cp =>
          rw [hx] at h
          simp only at h ⊢
          split at h
          · rename_i hu
            cases hg : getRow H id g with
            | none => rw [hg] at h; cases h
            | some r =>
              rw [hg] at h
              simp only [Option.bind_some] at h
              split at h
              · rename_i hc
                obtain ⟨q, hq, rfl, rfl⟩ := opt_pair (f := V.str) h
                refine ⟨rfl, fun H2 h2 => ?_⟩
                rw [getRow_keep hg (h2 x (by simp) id (by rw [hx]; rfl))]
                simp only [Option.bind_some]
                rw [if_pos hc, hq]
                rfl
              · cases h
          · cases h
        | str l => rw [hx] at h; simp only [Option.some.injEq, Prod.mk.injEq] at h; exact ⟨h.2.symm, fun H2 _ => by simp [h.1]⟩
        | _ => rw [hx] at h; simp only at h; split at h <;> cases h
  case call c =>
    simp only [opV, Op.operands] at h ⊢
    split at h
    · rename_i b hb
      rw [hb] at hk
      cases b <;> simp only [reduceCtorEq] at hk
      simp only [builtinV] at h ⊢
      split at h <;> try (contradiction)
      · rename_i t r x' _ hts hargs
        obtain ⟨q, hq, rfl, rfl⟩ := opt_pair (f := fun x => x) h
        refine ⟨rfl, fun H2 h2 => ?_⟩
        obtain ⟨x, hx, hev⟩ : ∃ x ∈ c.args.toList, ev T x = x' := by
          have : x' ∈ c.args.toList.map (ev T) := by rw [hargs]; simp
          simpa using this
        have h2' := h2 x (by simp at hx; simp [Call.operands, hx])
        rw [hev] at h2'
        have : lenV P t H2 x' = some v := by
          unfold lenV at hq ⊢
          split at hq
          case h_7 k e id hu =>
            cases hg : getMap H' id with
            | none => rw [hg] at hq; cases hq
            | some r =>
              rw [hg] at hq
              rw [getMap_keep hg (h2' id rfl)]
              exact hq
          all_goals simp_all
        rw [this]; rfl
    · cases h

theorem alloc_law {o : Op} {T : Fr} {H H' : Hp} {v : V} (hk : kind P o = .alloc) (h : opV P o T H = some (v, H')) :
    ∃ b, b ≠ .hole ∧ H' = H ++ [b] ∧ ∀ H2 : Hp, H2.length = H.length → opV P o T H2 = some (v, H2 ++ [b]) := by
  have row : ∀ {cs : List V} {H H' : Hp} {v : V}, newRowV cs H = some (v, H') → ∃ b, b ≠ .hole ∧ H' = H ++ [b] ∧ ∀ H2 : Hp, H2.length = H.length → newRowV cs H2 = some (v, H2 ++ [b]) := by
    intro cs H H' v h
    unfold newRowV at h ⊢
    split at h
    · rename_i hc
      simp only [Option.some.injEq, Prod.mk.injEq] at h
      refine ⟨.row 0 cs true, nofun, h.2.symm, fun H2 e => ?_⟩
      rw [if_pos hc, e, h.1]
    · cases h
  cases o <;> simp only [kind, reduceCtorEq] at hk
  case alloc e =>
    simp only [opV] at h ⊢
    cases hz : zeroV P e with
    | none => rw [hz] at h; cases h
    | some z => rw [hz] at h; exact row h
  case box e x => simp only [opV] at h ⊢; exact row h
  case buildSlice t n ps =>
    simp only [opV, buildSliceV] at h ⊢
    split at h
    · rename_i e hu
      cases hs : szOf P e with
      | none => rw [hs] at h; cases h
      | some sz =>
        cases hz : zeroV P e with
        | none => rw [hs, hz] at h; cases h
        | some z =>
          rw [hs, hz] at h
          simp only [Option.bind_some] at h ⊢
          split at h
          · rename_i hc
            simp only [hc, and_self, if_true]
            generalize fillV _ _ _ = q at h ⊢
            cases q with
            | none => cases h
            | some cs =>
              simp only [Option.bind_some] at h ⊢
              split at h
              · rename_i hc2
                simp only [Option.some.injEq, Prod.mk.injEq] at h
                refine ⟨.row 0 cs true, nofun, h.2.symm, fun H2 e => ?_⟩
                rw [if_pos hc2, e, h.1]
              · cases h
          · cases h
    · cases h
  case makeMap t r =>
    cases r with
    | some _ => simp [opV] at h
    | none =>
      simp only [opV] at h ⊢
      split at h
      · rename_i kt et hu
        simp only [Option.some.injEq, Prod.mk.injEq] at h
        refine ⟨.map kt [], nofun, h.2.symm, fun H2 e => ?_⟩
        rw [e, h.1]
      · cases h
  case makeSlice t n c =>
    simp only [opV, makeSliceV] at h ⊢
    split at h
    · rename_i e n' c' hu hn hc
      cases hs : szOf P e with
      | none => rw [hs] at h; cases h
      | some sz =>
        cases hb : bytesOf' P e with
        | none => rw [hs, hb] at h; cases h
        | some by_ =>
          cases hz : zeroV P e with
          | none => rw [hs, hb, hz] at h; cases h
          | some z =>
            rw [hs, hb, hz] at h
            simp only [Option.bind_some] at h ⊢
            split at h
            · rename_i hc
              simp only [Option.some.injEq, Prod.mk.injEq] at h
              refine ⟨.row 0 (repeatV z.cells n'.toNat) true, nofun, h.2.symm, fun H2 e => ?_⟩
              rw [if_pos hc, e, h.1]
            · cases h
    · cases h
  case convert s d x =>
    simp only [opV, convV] at h ⊢
    cases hs : P.underlying s with
    | none => rw [hs] at h; simp at h
    | some us =>
      cases hd : P.underlying d with
      | none => rw [hs, hd] at h; cases us <;> simp at h
      | some ud =>
        rw [hs, hd] at hk h
        cases ud <;> cases us <;> simp only [reduceCtorEq] at hk
        rename_i e
        cases hx : ev T x with
        | str l =>
          rw [hx] at h
          simp only at h ⊢
          split at h
          · rename_i hu
            split at h
            · rename_i hc
              simp only [Option.some.injEq, Prod.mk.injEq] at h
              refine ⟨.row 0 (l.map fun b => .int .u8 b.toNat) true, nofun, h.2.symm, fun H2 e => ?_⟩
              rw [if_pos hc, e, h.1]
            · cases h
          · cases h
        | _ => rw [hx] at h; simp at h
  case call c =>
    cases hc : c.callee with
    | builtin b => rw [hc] at hk; cases b <;> simp at hk
    | _ => rw [hc] at hk; simp at hk
end
end Go.Am
