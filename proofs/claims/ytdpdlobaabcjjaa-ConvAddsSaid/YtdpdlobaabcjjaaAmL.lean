/-
  The abstract machine, part L: every operation, held against the model. No statement of the seat stands here.
-/
import Derived.Test.YtdpdlobaabcjjaaAmK
namespace Go.Am
open Go

/-- A frame's slots. -/
def FrR (ρ : Ren) (T : Fr) (tmps : Array Value) : Prop := ∀ i, VR ρ (get T i) (tmps.getD i undef)

section
variable {P : Program} {b0 : Nat} {ρ : Ren} {H : Hp} {W : World} {T : Fr} {a : Act}

theorem ev_sim (hT : FrR ρ T a.tmps) (x : Operand) : VR ρ (ev T x) (a.eval x) := by
  cases x with
  | tmp t => exact hT t
  | const v => exact VR_ofVal ρ v
  | global g => trivial
  | func f => exact ⟨#[], #[], rfl, trivial, trivial⟩
theorem evs_sim (hT : FrR ρ T a.tmps) : ∀ xs : List Operand, VL (VR ρ) (xs.map (ev T)) (xs.map a.eval)
  | [] => trivial
  | x :: xs => ⟨ev_sim hT x, evs_sim hT xs⟩
theorem parts_sim (hT : FrR ρ T a.tmps) (ps : Array (Nat × Operand)) : PartsRel ρ (ps.toList.map fun p => (p.1, ev T p.2)) (ps.map fun (i, x) => (i, a.eval x)).toList := by
  refine ⟨by simp, fun j p hj => ?_⟩
  rw [List.getElem?_map] at hj
  obtain ⟨q, hq, rfl⟩ := Option.map_eq_some_iff.1 hj
  refine ⟨(q.1, a.eval q.2), ?_, rfl, ev_sim hT q.2⟩
  rw [Array.toList_map, List.getElem?_map, hq]
  rfl
theorem ro_sim (hT : FrR ρ T a.tmps) (x : Option Operand) : RO ρ (x.map (ev T)) (x.map a.eval) := by
  cases x with
  | none => trivial
  | some x => exact ev_sim hT x

theorem len_sim (hR : Rel P b0 ρ H W) {t ty : TypeId} {ts : Array TypeId} (hts : ts[0]? = some t) {x v : V} {u : Value} (hx : VR ρ x u) (h : lenV P t H x = some v) : Out P b0 ρ H W ((Builtin.len_ ts ty #[u]).run P W) v H := by
  unfold lenV at h
  split at h
  · rename_i s hu
    obtain rfl : u = .string ⟨s.toArray⟩ := hx
    split at h
    · injection h with h; subst h
      exact ⟨_, W, ρ, by simp [Builtin.len_, hts, run_underlying hu, bytes_size, goInt], rfl, Step.refl hR⟩
    · cases h
  · rename_i n e hu
    injection h with h; subst h
    exact ⟨_, W, ρ, by simp [Builtin.len_, hts, run_underlying hu, goInt], rfl, Step.refl hR⟩
  · rename_i p hu
    split at h
    · rename_i n e hu2
      injection h with h; subst h
      exact ⟨_, W, ρ, by simp [Builtin.len_, hts, run_underlying hu, run_underlying hu2, goInt], rfl, Step.refl hR⟩
    · cases h
  · rename_i e hu
    obtain rfl : u = .slice none 0 0 := hx
    injection h with h; subst h
    exact ⟨_, W, ρ, by simp [Builtin.len_, hts, run_underlying hu, goInt], rfl, Step.refl hR⟩
  · rename_i e id g off n sz cp hu
    obtain ⟨l, b, c, _, rfl, _⟩ := hx
    injection h with h; subst h
    exact ⟨_, W, ρ, by simp [Builtin.len_, hts, run_underlying hu, goInt], rfl, Step.refl hR⟩
  · rename_i k e hu
    obtain rfl : u = .map none := hx
    injection h with h; subst h
    exact ⟨_, W, ρ, by simp [Builtin.len_, hts, run_underlying hu, goInt], rfl, Step.refl hR⟩
  · rename_i k e id hu
    obtain ⟨l, hloc, rfl⟩ := hx
    cases hg : getMap H id with
    | none => rw [hg] at h; cases h
    | some q =>
      rw [hg] at h
      simp only [Option.bind_some] at h
      split at h
      · injection h with h; subst h
        obtain ⟨hid, hlo, hlb, ents, clk, hC, hE⟩ := map_at hR hg hloc
        have hgo := run_getObj_map (P := P) hC
        exact ⟨_, W, ρ, by simp [Builtin.len_, hts, run_underlying hu, hgo, goInt, ← hE.size], rfl, Step.refl hR⟩
      · cases h
  · cases h

theorem max_sim : ∀ {xs : List V} {us : List Value} {x v : V} {u : Value}, VR ρ x u → VL (VR ρ) xs us → foldV max2V xs x = some v → ∃ r, (us.foldlM Builtin.max2 u).run P W = .ok r W ∧ VR ρ v r
  | [], [], x, v, u, hx, _, h => by simp only [foldV, Option.some.injEq] at h; subst h; exact ⟨u, rfl, hx⟩
  | y :: xs, w :: us, x, v, u, hx, hl, h => by
    simp only [foldV] at h
    cases hm : max2V x y with
    | none => rw [hm] at h; cases h
    | some z =>
      rw [hm] at h
      simp only [Option.bind_some] at h
      unfold max2V at hm
      split at hm
      · rename_i k n k' n'
        obtain rfl : u = .int k n := hx
        obtain rfl : w = .int k' n' := hl.1
        injection hm with hm
        subst hm
        obtain ⟨r, h1, h2⟩ := max_sim (x := .int k (if n' > n then n' else n)) (u := .int k (if n' > n then n' else n)) rfl hl.2 h
        refine ⟨r, ?_, h2⟩
        simp only [List.foldlM_cons, Sem.run_bind, Builtin.max2, Sem.run_pure, Result.andThen_ok]
        exact h1
      · cases hm
  | [], _ :: _, _, _, _, _, hl, _ => hl.elim
  | _ :: _, [], _, _, _, _, hl, _ => hl.elim
theorem min_sim : ∀ {xs : List V} {us : List Value} {x v : V} {u : Value}, VR ρ x u → VL (VR ρ) xs us → foldV min2V xs x = some v → ∃ r, (us.foldlM Builtin.min2 u).run P W = .ok r W ∧ VR ρ v r
  | [], [], x, v, u, hx, _, h => by simp only [foldV, Option.some.injEq] at h; subst h; exact ⟨u, rfl, hx⟩
  | y :: xs, w :: us, x, v, u, hx, hl, h => by
    simp only [foldV] at h
    cases hm : min2V x y with
    | none => rw [hm] at h; cases h
    | some z =>
      rw [hm] at h
      simp only [Option.bind_some] at h
      unfold min2V at hm
      split at hm
      · rename_i k n k' n'
        obtain rfl : u = .int k n := hx
        obtain rfl : w = .int k' n' := hl.1
        injection hm with hm
        subst hm
        obtain ⟨r, h1, h2⟩ := min_sim (x := .int k (if n' < n then n' else n)) (u := .int k (if n' < n then n' else n)) rfl hl.2 h
        refine ⟨r, ?_, h2⟩
        simp only [List.foldlM_cons, Sem.run_bind, Builtin.min2, Sem.run_pure, Result.andThen_ok]
        exact h1
      · cases hm
  | [], _ :: _, _, _, _, _, hl, _ => hl.elim
  | _ :: _, [], _, _, _, _, hl, _ => hl.elim

/-- What an operation comes to, as the machine takes it. -/
def OpOut (P : Program) (b0 : Nat) (ρ : Ren) (H : Hp) (W : World) (r : Result Next) (v : V) (H' : Hp) : Prop :=
  ∃ nv u W' ρ', r = .ok nv W' ∧ (nv = .value u ∨ nv = .skip ∧ u = undef) ∧ VR ρ' v u ∧ Step P b0 ρ ρ' H H' W W'
theorem Out.op {s : Sem Value} {v : V} {H' : Hp} (h : Out P b0 ρ H W (s.run P W) v H') : OpOut P b0 ρ H W ((do pure (Next.value (← s)) : Sem Next).run P W) v H' := by
  obtain ⟨u, W', ρ', h1, h2, h3⟩ := h
  exact ⟨_, u, W', ρ', run_v h1, .inl rfl, h2, h3⟩
theorem OutU.op {s : Sem Unit} {H' : Hp} (h : OutU P b0 ρ H W (s.run P W) H') : OpOut P b0 ρ H W ((do s; pure Next.skip : Sem Next).run P W) (.tup []) H' := by
  obtain ⟨W', ρ', h1, h3⟩ := h
  exact ⟨_, undef, W', ρ', run_u h1, .inr ⟨rfl, rfl⟩, ⟨_, rfl, trivial⟩, h3⟩

theorem opt_pair {α : Type} {o : Option α} {f : α → V} {v : V} {H H' : Hp} (h : (o.map fun x => (f x, H)) = some (v, H')) : ∃ x, o = some x ∧ v = f x ∧ H' = H := by
  obtain ⟨x, hx, e⟩ := Option.map_eq_some_iff.1 h
  injection e with e1 e2
  exact ⟨x, hx, e1.symm, e2.symm⟩

theorem builtin_sim (hR : Rel P b0 ρ H W) {b : Builtin} {ts : Array TypeId} {ty : TypeId} {cs : Array Bool} {args : List V} {us : Array Value} {v : V} {H' : Hp} (ha : VL (VR ρ) args us.toList) (h : builtinV P b ts args H = some (v, H')) :
    OpOut P b0 ρ H W ((builtin b ts ty cs us).run P W) v H' := by
  unfold builtinV at h
  split at h
  · rename_i t t1 s x hts
    obtain ⟨us, rfl⟩ : ∃ l, us = List.toArray l := ⟨us.toList, by simp⟩
    obtain rfl : ts = #[t, t1] := by apply Array.ext'; simpa using hts
    match us, ha with
    | [u, w], ha =>
      split at h
      · cases h
      · rename_i d hn hd
        exact (append_sim (ty := ty) hR ha.1 ha.2.1 hd (fun k e => hn k e) h).op
      · cases h
  · rename_i t t1 s x hts
    obtain ⟨us, rfl⟩ : ∃ l, us = List.toArray l := ⟨us.toList, by simp⟩
    obtain rfl : ts = #[t, t1] := by apply Array.ext'; simpa using hts
    match us, ha with
    | [u, w], ha => exact (copy_sim (ty := ty) hR ha.1 ha.2.1 h).op
  · rename_i t r m k hts
    obtain ⟨us, rfl⟩ : ∃ l, us = List.toArray l := ⟨us.toList, by simp⟩
    have hts' : ts[0]? = some t := by rw [← Array.getElem?_toList, hts]; rfl
    match us, ha with
    | [u, w], ha =>
      obtain ⟨q, hq, e⟩ := Option.map_eq_some_iff.1 h
      injection e with e1 e2
      subst e1 e2
      exact (delete_sim (ty := ty) hR hts' ha.1 ha.2.1 hq).op
  · rename_i t r x hts
    obtain ⟨us, rfl⟩ : ∃ l, us = List.toArray l := ⟨us.toList, by simp⟩
    have hts' : ts[0]? = some t := by rw [← Array.getElem?_toList, hts]; rfl
    match us, ha with
    | [u], ha =>
      obtain ⟨q, hq, rfl, rfl⟩ := opt_pair (f := fun x => x) h
      exact (len_sim (ty := ty) hR hts' ha.1 hq).op
  · rename_i x xs
    obtain ⟨us, rfl⟩ : ∃ l, us = List.toArray l := ⟨us.toList, by simp⟩
    match us, ha with
    | u :: us, ha =>
      obtain ⟨q, hq, rfl, rfl⟩ := opt_pair (f := fun x => x) h
      obtain ⟨r, h1, h2⟩ := max_sim (P := P) (W := W) ha.1 ha.2 hq
      exact Out.op (s := Builtin.max_ ts ty (u :: us).toArray) ⟨r, W, ρ, h1, h2, Step.refl hR⟩
  · rename_i x xs
    obtain ⟨us, rfl⟩ : ∃ l, us = List.toArray l := ⟨us.toList, by simp⟩
    match us, ha with
    | u :: us, ha =>
      obtain ⟨q, hq, rfl, rfl⟩ := opt_pair (f := fun x => x) h
      obtain ⟨r, h1, h2⟩ := min_sim (P := P) (W := W) ha.1 ha.2 hq
      exact Out.op (s := Builtin.min_ ts ty (u :: us).toArray) ⟨r, W, ρ, h1, h2, Step.refl hR⟩
  · cases h
end
end Go.Am
