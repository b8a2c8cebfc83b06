/-
  The abstract machine, part D: more operations, held against the model. No statement of the seat stands here.
-/
import Derived.Test.YtdpdlobaabcjjaaAmC
namespace Go.Am
open Go

section
variable {P : Program} {b0 : Nat} {ρ : Ren} {H : Hp} {W : World}

theorem add_lit (b o n : Nat) : (⟨b, o, none⟩ : Addr).add n = ⟨b, o + n, none⟩ := by unfold Addr.add; split <;> simp_all

theorem fieldAddr_sim (hR : Rel P b0 ρ H W) {s : TypeId} {p v : V} {u : Value} {i : Nat} (hp : VR ρ p u) (h : fieldAddrV P s p i = some v) : Out P b0 ρ H W ((Instr.fieldAt s u i).run P W) v H := by
  unfold fieldAddrV at h
  split at h
  · rename_i fields id g off hu
    cases hf : fields[i]? with
    | none => rw [hf] at h; cases h
    | some f =>
      rw [hf] at h
      simp only [Option.bind_some] at h
      cases hn : szOf P f.type with
      | none => rw [hn] at h; cases h
      | some n =>
        rw [hn] at h
        simp only [Option.bind_some] at h
        split at h
        · cases h
        · rename_i h0
          injection h with h
          subst h
          obtain ⟨l, hl, rfl⟩ := hp
          refine ⟨.pointer (some ⟨l.blk, l.base + (off + f.offset), none⟩), W, ρ, ?_, ⟨l, hl, rfl⟩, Step.refl hR⟩
          simp [Instr.fieldAt, run_underlying hu, hf, Instr.sureAddr, fieldPlace, run_szOf hn, h0, add_lit, Nat.add_assoc]
  · cases h

theorem field_sim (hR : Rel P b0 ρ H W) {s : TypeId} {x v : V} {u : Value} {i : Nat} (hp : VR ρ x u) (h : fieldV P s x i = some v) : Out P b0 ρ H W ((Instr.field s u i).run P W) v H := by
  unfold fieldV at h
  split at h
  · rename_i fields cs hu
    cases hf : fields[i]? with
    | none => rw [hf] at h; cases h
    | some f =>
      rw [hf] at h
      simp only [Option.bind_some] at h
      obtain ⟨cs', rfl, hl⟩ := hp
      obtain ⟨w, hw, r⟩ := part_sim (P := P) (W := W) hl h
      refine ⟨w, W, ρ, ?_, r.toVR, Step.refl hR⟩
      simp [Instr.field, run_underlying hu, hf, asAgg, hw]
  · cases h

theorem indexAddr_sim (hR : Rel P b0 ρ H W) {t : TypeId} {x i v : V} {u j : Value} (hp : VR ρ x u) (hi : VR ρ i j) (h : indexAddrV P t x i = some v) : Out P b0 ρ H W ((Instr.indexAt t u j).run P W) v H := by
  unfold indexAddrV at h
  split at h
  · rename_i len e id g off k n hu
    cases hn : szOf P e with
    | none => rw [hn] at h; cases h
    | some sz =>
      rw [hn] at h
      simp only [Option.bind_some] at h
      split at h
      · rename_i hc
        injection h with h
        subst h
        obtain ⟨l, hl, rfl⟩ := hp
        subst hi
        refine ⟨.pointer (some ⟨l.blk, l.base + (off + n.toNat * sz), none⟩), W, ρ, ?_, ⟨l, hl, rfl⟩, Step.refl hR⟩
        simp [Instr.indexAt, asIntOf, run_underlying hu, Instr.sureAddr, hc.1, hc.2, run_szOf hn, add_lit, Nat.add_assoc]
      · cases h
  · rename_i e id g off len sz cp k n hu
    split at h
    · rename_i hc
      injection h with h
      subst h
      obtain ⟨l, a, c, hl, rfl, hnc, ha, _⟩ := hp
      subst hi
      have : c ≠ 0 := by omega
      have ha := ha.resolve_right this
      subst ha
      refine ⟨.pointer (some ⟨l.blk, l.base + (off + n.toNat * sz), none⟩), W, ρ, ?_, ⟨l, hl, rfl⟩, Step.refl hR⟩
      simp [Instr.indexAt, asIntOf, run_underlying hu, hc.2.1, hc.2.2, run_szOf hc.1, add_lit, Nat.add_assoc]
    · cases h
  · cases h

theorem index_sim (hR : Rel P b0 ρ H W) {t : TypeId} {x i v : V} {u j : Value} (hp : VR ρ x u) (hi : VR ρ i j) (h : indexV P t x i = some v) : Out P b0 ρ H W ((Instr.index t u j).run P W) v H := by
  unfold indexV at h
  split at h
  · rename_i len e cs k n hu
    split at h
    · rename_i hc
      cases hn : szOf P e with
      | none => rw [hn] at h; cases h
      | some sz =>
        rw [hn] at h
        simp only [Option.bind_some] at h
        obtain ⟨cs', rfl, hl⟩ := hp
        subst hi
        obtain ⟨w, hw, r⟩ := part_sim (P := P) (W := W) hl h
        refine ⟨w, W, ρ, ?_, r.toVR, Step.refl hR⟩
        simp [Instr.index, asIntOf, run_underlying hu, hc.1, hc.2, run_szOf hn, hw]
    · cases h
  · rename_i s k n hu
    split at h
    · rename_i hc
      obtain ⟨b, hb, rfl⟩ := Option.map_eq_some_iff.1 h
      have hp' : u = .string ⟨s.toArray⟩ := hp
      subst hp'
      subst hi
      refine ⟨.int .u8 b.toNat, W, ρ, ?_, rfl, Step.refl hR⟩
      have hb' : (⟨s.toArray⟩ : ByteArray)[n.toNat]? = some b := by
        obtain ⟨hlt, he⟩ := List.getElem?_eq_some_iff.1 hb
        have h1 : n.toNat < (⟨s.toArray⟩ : ByteArray).size := by show n.toNat < s.toArray.size; simpa using hlt
        exact (getElem?_pos (⟨s.toArray⟩ : ByteArray) n.toNat h1).trans (congrArg some he)
      simp [Instr.index, asIntOf, run_underlying hu, hc, hb']
    · cases h
  · cases h

theorem VL.setAt {cs vs : List V} {C us : List Value} {off : Nat} (hc : VL (VC ρ) cs C) (hv : VL (VC ρ) vs us) :
    VL (VC ρ) (setAt cs off vs) (C.take off ++ us ++ C.drop (off + us.length)) := by
  have e1 := hc.length
  have e2 := hv.length
  rw [Am.setAt, e2]
  exact ((hc.take off).append hv).append (hc.drop _)
theorem fold_set : ∀ (us : List Value) (k off : Nat) (C : Array Value), off + k + us.length ≤ C.size →
    ((us.zipIdx k).foldl (fun (cs : Array Value) (p : Value × Nat) => cs.setIfInBounds (off + p.2) p.1) C).toList = C.toList.take (off + k) ++ us ++ C.toList.drop (off + k + us.length)
  | [], k, off, C, _ => by simp
  | u :: us, k, off, C, h => by
    simp only [List.length_cons] at h
    simp only [List.zipIdx_cons, List.foldl_cons]
    rw [fold_set us (k + 1) off _ (by simp; omega)]
    have e := list_seg_step C.toList (off + k) u us (by simp; omega)
    simpa [Array.toList_setIfInBounds, Nat.add_assoc] using e
theorem fill_sim {place : Nat → Option (Nat × Nat)} : ∀ {parts : List (Nat × V)} {parts' : List (Nat × Value)} {cs : List V} {C : Array Value} {cs' : List V},
    VL (VC ρ) cs C.toList → parts.length = parts'.length → (∀ (j : Nat) (p : Nat × V), parts[j]? = some p → ∃ p' : Nat × Value, parts'[j]? = some p' ∧ p'.1 = p.1 ∧ VR ρ p.2 p'.2) →
    fillV place cs parts = some cs' → ∃ C', Instr.fill place C parts' = some C' ∧ VL (VC ρ) cs' C'.toList
  | [], parts', cs, C, cs', hc, hlen, _, h => by
    have : parts' = [] := List.eq_nil_of_length_eq_zero (by simpa using hlen.symm)
    subst this
    simp only [fillV, Option.some.injEq] at h
    subst h
    exact ⟨C, rfl, hc⟩
  | (i, v) :: rest, [], _, _, _, _, hlen, _, _ => by simp at hlen
  | (i, v) :: rest, (i', u) :: rest', cs, C, cs', hc, hlen, hat, h => by
    obtain ⟨p', hp', e1, r⟩ := hat 0 (i, v) rfl
    simp at hp'
    subst hp'
    simp only at e1 r
    subst e1
    simp only [fillV] at h
    cases hpl : place i' with
    | none => rw [hpl] at h; cases h
    | some q =>
      rw [hpl] at h
      simp only [Option.bind_some] at h
      split at h
      · rename_i hcond
        have hva : VA ρ v u := r.va (fun vs e => by subst e; simp [V.cells, V.isCell] at hcond)
        obtain ⟨hcells, _⟩ := hva.cells hcond.1
        have e2 := hcells.length
        have e3 := hc.length
        have hlen2 : u.cells.size = v.cells.length := by simpa using e2.symm
        have hCs : C.size = cs.length := by simpa using e3.symm
        have hfold := fold_set u.cells.toList 0 q.1 C (by simp; omega)
        simp only [Nat.add_zero] at hfold
        have hcl := hc.setAt hcells (off := q.1)
        rw [← hfold] at hcl
        obtain ⟨C', h1, h2⟩ := fill_sim (parts' := rest') hcl (by simpa using hlen) (fun j p hj => by simpa using hat (j + 1) p (by simpa using hj)) h
        refine ⟨C', ?_, h2⟩
        rw [Instr.fill, hpl]
        simp only
        rw [if_neg (by simp; omega)]
        rw [← h1]
        congr 1
        have : u.cells.zipIdx.toList = u.cells.toList.zipIdx := by simp
        rw [← Array.foldl_toList, this]
      · cases h

/-- Parts of a literal. -/
def PartsRel (ρ : Ren) (ps : List (Nat × V)) (qs : List (Nat × Value)) : Prop :=
  ps.length = qs.length ∧ ∀ (j : Nat) (p : Nat × V), ps[j]? = some p → ∃ p' : Nat × Value, qs[j]? = some p' ∧ p'.1 = p.1 ∧ VR ρ p.2 p'.2

theorem zero_cells {t : TypeId} {z : V} (h : zeroV P t = some z) (W : World) : ∃ u : Value, (zeroValue t).run P W = .ok u W ∧ VL (VC ρ) z.cells u.cells.toList := by
  obtain ⟨u, hu, rfl⟩ := run_zeroV h W
  refine ⟨u, hu, ?_⟩
  unfold ofVal
  split
  · rename_i cs
    have := VL.map (R := VC ρ) ofCell id (VC_ofCell ρ) cs.toList
    simpa [V.cells, Value.cells] using this
  · rename_i hn
    have e : u.cells = #[u] := by unfold Value.cells; split <;> first | rfl | exact absurd rfl (hn _)
    have e2 : (ofCell u).cells = [ofCell u] := by unfold V.cells; split <;> first | rfl | exact absurd ‹_› ((ofCell_not u).1 _)
    rw [e, e2]
    exact ⟨VC_ofCell ρ u, trivial⟩

theorem build_sim (hR : Rel P b0 ρ H W) {t : TypeId} {ps : List (Nat × V)} {qs : Array (Nat × Value)} {v : V} (hp : PartsRel ρ ps qs.toList) (h : buildV P t ps = some v) : Out P b0 ρ H W ((Instr.build t qs).run P W) v H := by
  unfold buildV at h
  cases hz : zeroV P t with
  | none => rw [hz] at h; cases h
  | some z =>
    rw [hz] at h
    simp only [Option.bind_some] at h
    obtain ⟨u, hu, hzc⟩ := zero_cells (ρ := ρ) hz W
    split at h
    · rename_i fields hun
      cases hpl : (fields.toList.mapM fun f => (P.info? f.type).map fun i => (f.offset, i.size)) with
      | none => rw [hpl] at h; cases h
      | some places =>
        rw [hpl] at h
        simp only [Option.bind_some] at h
        obtain ⟨cs, hcs, rfl⟩ := Option.map_eq_some_iff.1 h
        obtain ⟨C', h1, h2⟩ := fill_sim hzc hp.1 hp.2 hcs
        refine ⟨.agg C', W, ρ, ?_, ⟨_, rfl, h2⟩, Step.refl hR⟩
        simp [Instr.build, hu, run_underlying hun, Array.mapM_eq_mapM_toList, run_places W _ _ hpl, h1]
    · rename_i n e hun
      cases hn : szOf P e with
      | none => rw [hn] at h; cases h
      | some sz =>
        rw [hn] at h
        simp only [Option.bind_some] at h
        obtain ⟨cs, hcs, rfl⟩ := Option.map_eq_some_iff.1 h
        obtain ⟨C', h1, h2⟩ := fill_sim hzc hp.1 hp.2 hcs
        refine ⟨.agg C', W, ρ, ?_, ⟨_, rfl, h2⟩, Step.refl hR⟩
        simp [Instr.build, hu, run_underlying hun, run_szOf hn, h1]
    · cases h
end
end Go.Am
