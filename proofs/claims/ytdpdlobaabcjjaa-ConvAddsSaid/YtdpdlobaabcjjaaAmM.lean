/-
  The abstract machine, part M: every operation in one law. No statement of the seat stands here.
-/
import Derived.Test.YtdpdlobaabcjjaaAmL
namespace Go.Am
open Go

section
variable {P : Program} {b0 : Nat} {ρ : Ren} {H : Hp} {W : World} {T : Fr} {a : Act}

theorem cells_all {v : V} {r : V} {H' : Hp} (h : newRowV v.cells H = some (r, H')) : ∀ vs, v ≠ .tup vs := by
  rintro vs rfl
  unfold newRowV at h
  simp [V.cells, V.isCell] at h

theorem base_sim : ∀ {vs : List V} {us : List Value}, VL (VR ρ) vs us → vs.all V.isBase = true → VL (VB ρ) vs us
  | [], [], _, _ => trivial
  | v :: vs, u :: us, h, hb => by
    simp only [List.all_cons, Bool.and_eq_true] at hb
    refine ⟨?_, base_sim h.2 hb.2⟩
    have := h.1
    cases v <;> simp [V.isBase] at hb <;> exact this
  | [], _ :: _, h, _ => h.elim
  | _ :: _, [], h, _ => h.elim

theorem op_sim (hR : Rel P b0 ρ H W) (hT : FrR ρ T a.tmps) {o : Oper} {v : V} {H' : Hp} (h : opV P o.op T H = some (v, H')) : OpOut P b0 ρ H W ((execOp a.eval o).run P W) v H' := by
  obtain ⟨dst, op, type, pos, after, guard⟩ := o
  simp only at h
  unfold opV at h
  unfold execOp
  split at h
  · rename_i x
    injection h with h; injection h with h1 h2; subst h1 h2
    exact ⟨_, _, W, ρ, rfl, .inl rfl, ev_sim hT x, Step.refl hR⟩
  · rename_i x
    injection h with h; injection h with h1 h2; subst h1 h2
    exact ⟨_, _, W, ρ, rfl, .inl rfl, ev_sim hT x, Step.refl hR⟩
  · rename_i c x y
    have hc := ev_sim hT c
    split at h
    · rename_i e
      rw [e] at hc
      have hc' : a.eval c = .bool true := hc
      injection h with h; injection h with h1 h2; subst h1 h2
      exact ⟨_, a.eval x, W, ρ, by simp [hc', asBool], .inl rfl, ev_sim hT x, Step.refl hR⟩
    · rename_i e
      rw [e] at hc
      have hc' : a.eval c = .bool false := hc
      injection h with h; injection h with h1 h2; subst h1 h2
      exact ⟨_, a.eval y, W, ρ, by simp [hc', asBool], .inl rfl, ev_sim hT y, Step.refl hR⟩
    · cases h
  · rename_i e
    cases hz : zeroV P e with
    | none => rw [hz] at h; cases h
    | some z =>
      rw [hz] at h
      exact (alloc_sim hR hz h).op
  · rename_i e x
    exact (box_sim hR (ev_sim hT x) h).op
  · rename_i t parts
    obtain ⟨q, hq, rfl, rfl⟩ := opt_pair (f := fun x => x) h
    exact (build_sim hR (parts_sim hT parts) hq).op
  · rename_i t len parts
    exact (buildSlice_sim hR (parts_sim hT parts) h).op
  · rename_i t x
    obtain ⟨q, hq, rfl, rfl⟩ := opt_pair (f := fun x => x) h
    exact (load_sim hR (ev_sim hT x) hq).op
  · rename_i t p x
    obtain ⟨q, hq, e⟩ := Option.map_eq_some_iff.1 h
    injection e with e1 e2; subst e1 e2
    exact (store_sim hR (ev_sim hT p) (ev_sim hT x) hq).op
  · rename_i x
    have hx := ev_sim hT x
    split at h
    · rename_i e
      rw [e] at hx
      injection h with h; injection h with h1 h2; subst h1 h2
      obtain ⟨l, hl, hv⟩ := hx
      exact ⟨_, a.eval x, W, ρ, by simp [hv], .inl rfl, ⟨l, hl, hv⟩, Step.refl hR⟩
    · rename_i e
      rw [e] at hx
      injection h with h; injection h with h1 h2; subst h1 h2
      obtain ⟨l, m, hv, hr⟩ := hx
      exact ⟨_, a.eval x, W, ρ, by simp [hv], .inl rfl, ⟨l, m, hv, hr⟩, Step.refl hR⟩
    · cases h
  · rename_i o t x y _
    obtain ⟨q, hq, rfl, rfl⟩ := opt_pair (f := fun x => x) h
    exact (bin_sim hR x y (ev_sim hT x) (ev_sim hT y) hq).op
  · rename_i o _ x
    obtain ⟨q, hq, rfl, rfl⟩ := opt_pair (f := fun x => x) h
    exact (un_sim hR (ev_sim hT x) hq).op
  · rename_i s d x
    exact (conv_sim hR (ev_sim hT x) h).op
  · rename_i f first caps
    simp only at h
    split at h
    · rename_i hb
      injection h with h; injection h with h1 h2; subst h1 h2
      refine ⟨_, .func (.func f) (first.map a.eval) (caps.map a.eval), W, ρ, ?_, .inl rfl, ⟨_, _, rfl, ?_, ?_⟩, Step.refl hR⟩
      · simp [Instr.makeFunc]
      · rw [Array.toList_map]; exact base_sim (evs_sim hT _) hb.1
      · rw [Array.toList_map]; exact base_sim (evs_sim hT _) hb.2
    · cases h
  · rename_i t
    split at h
    · rename_i kt et hu
      injection h with h; injection h with h1 h2; subst h1 h2
      exact (makeMap_sim hR hu).op
    · cases h
  · rename_i t l c
    exact (makeSlice_sim hR (ev_sim hT l) (ev_sim hT c) h).op
  · rename_i t x lo hi
    obtain ⟨q, hq, rfl, rfl⟩ := opt_pair (f := fun x => x) h
    exact (slice_sim hR (ev_sim hT x) (ro_sim hT lo) (ro_sim hT hi) hq).op
  · rename_i s x i
    obtain ⟨q, hq, rfl, rfl⟩ := opt_pair (f := fun x => x) h
    exact (fieldAddr_sim hR (ev_sim hT x) hq).op
  · rename_i s x i
    obtain ⟨q, hq, rfl, rfl⟩ := opt_pair (f := fun x => x) h
    exact (field_sim hR (ev_sim hT x) hq).op
  · rename_i t x i
    obtain ⟨q, hq, rfl, rfl⟩ := opt_pair (f := fun x => x) h
    exact (indexAddr_sim hR (ev_sim hT x) (ev_sim hT i) hq).op
  · rename_i t x i
    obtain ⟨q, hq, rfl, rfl⟩ := opt_pair (f := fun x => x) h
    exact (index_sim hR (ev_sim hT x) (ev_sim hT i) hq).op
  · rename_i t x i ok
    obtain ⟨q, hq, rfl, rfl⟩ := opt_pair (f := fun x => x) h
    exact (lookup_sim hR (ev_sim hT x) (ev_sim hT i) hq).op
  · rename_i t m k x
    obtain ⟨q, hq, e⟩ := Option.map_eq_some_iff.1 h
    injection e with e1 e2; subst e1 e2
    exact (update_sim hR (ev_sim hT m) (ev_sim hT k) (ev_sim hT x) hq).op
  · rename_i t m k x
    obtain ⟨q, hq, e⟩ := Option.map_eq_some_iff.1 h
    injection e with e1 e2; subst e1 e2
    exact (update_sim hR (ev_sim hT m) (ev_sim hT k) (ev_sim hT x) hq).op
  · rename_i x i
    have hx := ev_sim hT x
    split at h
    · rename_i vs e
      rw [e] at hx
      obtain ⟨us, hv, hl⟩ := hx
      obtain ⟨q, hq, rfl, rfl⟩ := opt_pair (f := fun x => x) h
      obtain ⟨u, hu, hr⟩ := hl.get i hq
      rw [Array.getElem?_toList] at hu
      exact ⟨_, u, W, ρ, by simp [hv, Instr.extract, hu], .inl rfl, hr.toVR, Step.refl hR⟩
    · cases h
  · rename_i c
    split at h
    · rename_i b hb
      have hargs : VL (VR ρ) (c.args.toList.map (ev T)) (c.args.map a.eval).toList := by
        rw [Array.toList_map]; exact evs_sim hT _
      simp only [resolve, hb, Sem.run_bind, Sem.run_pure, Result.andThen_ok, invoke]
      exact builtin_sim hR hargs h
    · cases h
  · cases h
end
end Go.Am
