/-
  The abstract machine, part P: memory seen in part, and laid together again. No statement of the seat stands here.
-/
import Derived.Test.YtdpdlobaabcjjaaAmO
namespace Go.Am
open Go

def Ren.cut (ρ : Ren) (n : Nat) : Ren := fun id g => if id < n then ρ id g else none
def Ren.Bd (ρ : Ren) (n : Nat) : Prop := ∀ id g, n ≤ id → ρ id g = none
theorem Ren.cut_le (ρ : Ren) (n : Nat) : (ρ.cut n).Le ρ := fun id g l h => by
  unfold Ren.cut at h
  split at h
  · exact h
  · cases h
theorem Ren.cut_some {ρ : Ren} {n id g : Nat} {l : Loc} (h : ρ.cut n id g = some l) : id < n ∧ ρ id g = some l := by
  unfold Ren.cut at h
  split at h
  · exact ⟨by assumption, h⟩
  · cases h
theorem Ren.cut_of {ρ ρ' : Ren} {n id g : Nat} {l l' : Loc} (h : ρ id g = some l) (h' : ρ' id g = some l') (hb : ρ'.Bd n) : ρ.cut n id g = some l := by
  unfold Ren.cut
  rw [if_pos]
  · exact h
  · rcases Nat.lt_or_ge id n with hlt | hge
    · exact hlt
    · rw [hb id g hge] at h'; cases h'

section
variable {ρ ρ' : Ren} {n : Nat}
theorem VB.cut (hb : ρ'.Bd n) : ∀ {v : V} {u u' : Value}, VB ρ v u → VB ρ' v u' → VB (ρ.cut n) v u := by
  intro v u u' h h'
  cases v <;> simp only [VB] at h h' ⊢ <;> first | exact h | exact trivial | skip
  · obtain ⟨l, a, b⟩ := h
    obtain ⟨l', a', _⟩ := h'
    exact ⟨l, Ren.cut_of a a' hb, b⟩
  · obtain ⟨l, a, c, e, r⟩ := h
    obtain ⟨l', _, _, e', _⟩ := h'
    exact ⟨l, a, c, Ren.cut_of e e' hb, r⟩
  · obtain ⟨l, a, b⟩ := h
    obtain ⟨l', a', _⟩ := h'
    exact ⟨l, Ren.cut_of a a' hb, b⟩
theorem VL.both {R R' R2 : V → Value → Prop} (hh : ∀ a u u', R a u → R' a u' → R2 a u) : ∀ {l : List V} {k k' : List Value}, VL R l k → VL R' l k' → VL R2 l k
  | [], [], [], _, _ => trivial
  | _ :: _, _ :: _, _ :: _, h, h' => ⟨hh _ _ _ h.1 h'.1, VL.both hh h.2 h'.2⟩
  | [], _ :: _, _, h, _ => h.elim
  | [], [], _ :: _, _, h => h.elim
  | _ :: _, [], _, h, _ => h.elim
  | _ :: _, _ :: _, [], _, h => h.elim
theorem VC.cut (hb : ρ'.Bd n) {v : V} {u u' : Value} (h : VC ρ v u) (h' : VC ρ' v u') : VC (ρ.cut n) v u := by
  cases v <;> simp only [VC] at h h' ⊢ <;> first | exact VB.cut hb h h' | skip
  obtain ⟨a, b, e, r, s⟩ := h
  obtain ⟨a', b', e', r', s'⟩ := h'
  exact ⟨a, b, e, VL.both (R := VB ρ) (R' := VB ρ') (fun _ _ _ => VB.cut hb) r r', VL.both (R := VB ρ) (R' := VB ρ') (fun _ _ _ => VB.cut hb) s s'⟩
theorem VA.cut (hb : ρ'.Bd n) {v : V} {u u' : Value} (h : VA ρ v u) (h' : VA ρ' v u') : VA (ρ.cut n) v u := by
  cases v <;> simp only [VA] at h h' ⊢ <;> first | exact VC.cut hb h h' | skip
  obtain ⟨a, e, r⟩ := h
  obtain ⟨a', e', r'⟩ := h'
  exact ⟨a, e, VL.both (R := VC ρ) (R' := VC ρ') (fun _ _ _ => VC.cut hb) r r'⟩
theorem VR.cut (hb : ρ'.Bd n) {v : V} {u u' : Value} (h : VR ρ v u) (h' : VR ρ' v u') : VR (ρ.cut n) v u := by
  cases v <;> simp only [VR] at h h' ⊢ <;> first | exact VA.cut hb h h' | skip
  obtain ⟨a, e, r⟩ := h
  obtain ⟨a', e', r'⟩ := h'
  exact ⟨a, e, VL.both (R := VA ρ) (R' := VA ρ') (fun _ _ _ => VA.cut hb) r r'⟩
theorem DfR.cut (hb : ρ'.Bd n) : ∀ {D : List (Nat × List V)} {ds ds' : List Deferred}, DfR ρ D ds → DfR ρ' D ds' → DfR (ρ.cut n) D ds
  | [], [], [], _, _ => trivial
  | _ :: _, _ :: _, _ :: _, h, h' => by
    refine ⟨?_, DfR.cut hb h.2 h'.2⟩
    obtain ⟨c, a, r⟩ := h.1
    obtain ⟨c', a', r'⟩ := h'.1
    exact ⟨c, a, VL.both (R := VR ρ) (R' := VR ρ') (fun _ _ _ => VR.cut hb) r r'⟩
  | [], _ :: _, _, h, _ => h.elim
  | [], [], _ :: _, _, h => h.elim
  | _ :: _, [], _, h, _ => h.elim
  | _ :: _, _ :: _, [], _, h => h.elim

variable {P : Program} {b0 : Nat}
theorem BlkOk.cut (hb : ρ'.Bd n) {W W' : World} {l l' : Loc} {b : AB} (h : BlkOk P b0 ρ W l b) (h' : BlkOk P b0 ρ' W' l' b) : BlkOk P b0 (ρ.cut n) W l b := by
  cases b with
  | row g cs own =>
    obtain ⟨h1, C, t, fr, h2, h3, h4⟩ := h
    obtain ⟨_, C', _, _, _, h3', _⟩ := h'
    refine ⟨h1, C, t, fr, h2, fun j v hv => ?_, h4⟩
    obtain ⟨u, a, r, c⟩ := h3 j v hv
    obtain ⟨u', _, r', _⟩ := h3' j v hv
    exact ⟨u, a, r.cut hb r', c⟩
  | map kt es =>
    obtain ⟨h1, h2, ents, clk, h3, h4⟩ := h
    obtain ⟨_, _, ents', clk', _, h4'⟩ := h'
    refine ⟨h1, h2, ents, clk, h3, ⟨h4.size, fun i e he => ?_, h4.born⟩⟩
    obtain ⟨m, a, r, c, d⟩ := h4.at_ i e he
    obtain ⟨m', _, r', c', _⟩ := h4'.at_ i e he
    exact ⟨m, a, r.cut hb r', c.cut hb c', d⟩
  | hole => exact h.elim

/-- A block that leads to none but blocks of so many. -/
def BdB (P : Program) (b0 n : Nat) (b : AB) : Prop := ∃ ρ' W' l', BlkOk P b0 ρ' W' l' b ∧ ρ'.Bd n

/-- Memory up to a place. -/
def viewH (n : Nat) (H : Hp) : Hp := H.take n ++ List.replicate (n - H.length) .hole
theorem viewH_length (n : Nat) (H : Hp) : (viewH n H).length = n := by simp [viewH]; omega
theorem viewH_get (n : Nat) (H : Hp) (i : Nat) : (viewH n H)[i]? = if i < n then (match H[i]? with | some b => some b | none => some .hole) else none := by
  unfold viewH
  rw [List.getElem?_append]
  simp only [List.length_take, List.getElem?_take, List.getElem?_replicate]
  by_cases h1 : i < n
  · by_cases h2 : i < H.length
    · rw [if_pos (by omega), if_pos h1, if_pos h1]
      rw [List.getElem?_eq_getElem h2]
    · rw [if_neg (by omega), if_pos h1, if_pos (by omega), List.getElem?_eq_none (by omega)]
  · rw [if_neg h1]
    split
    · omega
    · rw [if_neg (by omega)]
theorem viewH_in {n : Nat} {H : Hp} {i : Nat} {b : AB} (h : (viewH n H)[i]? = some b) (hb : b ≠ .hole) : i < n ∧ H[i]? = some b := by
  rw [viewH_get] at h
  split at h
  · refine ⟨by assumption, ?_⟩
    split at h
    · rename_i e; rw [e]; exact h
    · injection h with h; exact absurd h.symm hb
  · cases h

variable {H : Hp} {W : World}
theorem Rel.view (hR : Rel P b0 ρ H W) (hc : ∀ id b, id < n → H[id]? = some b → b ≠ .hole → BdB P b0 n b) : Rel P b0 (ρ.cut n) (viewH n H) W := by
  refine ⟨fun id b hb hne => ?_, fun id g hb => ?_, fun i j bi bj li lj hij hi hj hli hlj => ?_, fun id g hid => ?_, fun id b g hb hg => ?_, hR.size⟩
  · obtain ⟨hlt, hb'⟩ := viewH_in hb hne
    obtain ⟨l, hl, hk⟩ := hR.blk id b hb' hne
    obtain ⟨ρ', W', l', hk', hbd⟩ := hc id b hlt hb' hne
    refine ⟨l, ?_, hk.cut hbd hk'⟩
    unfold Ren.cut
    rw [if_pos hlt, hl]
  · unfold Ren.cut
    split
    · rw [viewH_get] at hb
      rename_i hlt
      rw [if_pos hlt] at hb
      cases he : H[id]? with
      | none => exact hR.fresh id g (by simpa using he)
      | some b => rw [he] at hb; injection hb with hb; subst hb; exact hR.hole id g he
    · rfl
  · obtain ⟨h1, hli⟩ := Ren.cut_some hli
    obtain ⟨h2, hlj⟩ := Ren.cut_some hlj
    have key : ∀ {i b l}, (viewH n H)[i]? = some b → ρ i b.gen = some l → H[i]? = some b := by
      intro i b l hb hl
      rw [viewH_get] at hb
      split at hb
      · cases he : H[i]? with
        | none => rw [hR.fresh i _ (by simpa using he)] at hl; cases hl
        | some b' => rw [he] at hb; exact hb
      · cases hb
    exact hR.inj i j bi bj li lj hij (key hi hli) (key hj hlj) hli hlj
  · rw [viewH_length] at hid
    exact if_neg (by omega)
  · unfold Ren.cut
    split
    · rename_i hlt
      rw [viewH_get, if_pos hlt] at hb
      cases he : H[id]? with
      | none => exact hR.fresh id g (by simpa using he)
      | some b' => rw [he] at hb; injection hb with hb; subst hb; exact hR.gen id b' g he hg
    · rfl

/-- What lies behind is laid behind again. -/
def joinH (H' H : Hp) : Hp := H' ++ H.drop H'.length
theorem joinH_get (H' H : Hp) (i : Nat) : (joinH H' H)[i]? = if i < H'.length then H'[i]? else H[i]? := by
  unfold joinH
  rw [List.getElem?_append]
  split
  · rfl
  · rw [List.getElem?_drop]; congr 1; omega
theorem joinH_length (H' H : Hp) : H'.length ≤ (joinH H' H).length ∧ H.length ≤ (joinH H' H).length := by
  unfold joinH
  simp only [List.length_append, List.length_drop]
  omega
def joinR (ρ' ρ : Ren) (m : Nat) : Ren := fun id g => if id < m then ρ' id g else ρ id g
theorem join_le {H' : Hp} {W' : World} (hR : Rel P b0 ρ' H' W') : ρ'.Le (joinR ρ' ρ H'.length) := fun id g l h => by
  unfold joinR
  split
  · exact h
  · rw [hR.fresh id g (by omega)] at h; cases h

theorem Step.merge {H' : Hp} {W' : World} (hR : Rel P b0 ρ H W) (hV : Rel P b0 (ρ.cut n) (viewH n H) W) (hst : Step P b0 (ρ.cut n) ρ' (viewH n H) H' W W')
    (hgap : ∀ id b, n ≤ id → id < H'.length → H[id]? = some b → b = .hole) : Step P b0 ρ (joinR ρ' ρ H'.length) H (joinH H' H) W W' := by
  have hn : n ≤ H'.length := by have := hst.len; rwa [viewH_length] at this
  have hgap' : ∀ id g, n ≤ id → id < H'.length → ρ id g = none := by
    intro id g h1 h2
    cases he : H[id]? with
    | none => exact hR.fresh id g (by simpa using he)
    | some b =>
      obtain rfl := hgap id b h1 h2 he
      exact hR.hole id g he
  have hle : ρ.Le (joinR ρ' ρ H'.length) := by
    intro id g l h
    unfold joinR
    split
    · rename_i h2
      rcases Nat.lt_or_ge id n with h1 | h1
      · refine hst.le id g l ?_
        unfold Ren.cut
        rw [if_pos h1, h]
      · rw [hgap' id g h1 h2] at h; cases h
    · exact h
  have hown : ∀ k, Owned (ρ.cut n) (viewH n H) k → ∃ i b l, i < n ∧ H[i]? = some b ∧ ρ i b.gen = some l ∧ l.own = true ∧ l.blk = k := by
    rintro k ⟨i, b, l, hb, hl, ho, hk⟩
    have hne := hV.ne hb hl
    obtain ⟨h1, h2⟩ := viewH_in hb hne
    exact ⟨i, b, l, h1, h2, (Ren.cut_some hl).2, ho, hk⟩
  have hfar : ∀ id b l, H'.length ≤ id → H[id]? = some b → ρ id b.gen = some l → BlkOk P b0 ρ W l b ∧ ¬ Owned (ρ.cut n) (viewH n H) l.blk := by
    intro id b l hid hb hl
    have hk := hR.at_ hb hl
    refine ⟨hk, fun ho => ?_⟩
    obtain ⟨i, bi, li, h1, h2, h3, h4, h5⟩ := hown _ ho
    cases hlo : l.own with
    | true => exact hR.inj i id bi b li l (by omega) h2 hb h3 hl h4 hlo h5
    | false =>
      have e1 := hk.own_eq.2 hlo
      have e2 := (hR.at_ h2 h3).own_eq.1 h4
      omega
  have hlen := joinH_length H' H
  have hlo : ∀ {id g}, id < H'.length → joinR ρ' ρ H'.length id g = ρ' id g := fun h => if_pos h
  have hhi : ∀ {id g}, ¬ id < H'.length → joinR ρ' ρ H'.length id g = ρ id g := fun h => if_neg h
  refine ⟨⟨fun id b hb hne => ?_, fun id g hb => ?_, fun i j bi bj li lj hij hi hj hli hlj ho1 ho2 => ?_, fun id g hid => ?_, fun id b g hb hg => ?_, Nat.le_trans hR.size hst.size⟩, hle, fun k hk ho => ?_, fun k ho => ?_, hst.size, hlen.2, hst.os, hst.tape, hst.output⟩
  · rw [joinH_get] at hb
    split at hb
    · rename_i h1
      obtain ⟨l, hl, hk⟩ := hst.rel.blk id b hb hne
      exact ⟨l, (hlo h1).trans hl, hk.mono (join_le hst.rel)⟩
    · rename_i h1
      obtain ⟨l, hl, hk⟩ := hR.blk id b hb hne
      have hf := hfar id b l (by omega) hb hl
      exact ⟨l, (hhi h1).trans hl, (hk.world (hst.frame _ hk.lt hf.2)).mono hle⟩
  · rw [joinH_get] at hb
    split at hb
    · rename_i h1; rw [hlo h1]; exact hst.rel.hole id g hb
    · rename_i h1; rw [hhi h1]; exact hR.hole id g hb
  · rw [joinH_get] at hi hj
    have cross : ∀ {i j bi bj li lj}, i < H'.length → ¬ j < H'.length → H'[i]? = some bi → H[j]? = some bj → ρ' i bi.gen = some li → ρ j bj.gen = some lj → li.own = true → lj.own = true → li.blk ≠ lj.blk := by
      intro i j bi bj li lj h1 h2 hi hj hli hlj ho1 ho2 e
      have hf := hfar j bj lj (by omega) hj hlj
      rcases hst.new li.blk ⟨i, bi, li, hi, hli, ho1, rfl⟩ with hn | hn
      · exact hf.2 (e ▸ hn)
      · have := hf.1.lt
        omega
    by_cases h1 : i < H'.length <;> by_cases h2 : j < H'.length
    · rw [if_pos h1] at hi; rw [if_pos h2] at hj; rw [hlo h1] at hli; rw [hlo h2] at hlj
      exact hst.rel.inj i j bi bj li lj hij hi hj hli hlj ho1 ho2
    · rw [if_pos h1] at hi; rw [if_neg h2] at hj; rw [hlo h1] at hli; rw [hhi h2] at hlj
      exact cross h1 h2 hi hj hli hlj ho1 ho2
    · rw [if_neg h1] at hi; rw [if_pos h2] at hj; rw [hhi h1] at hli; rw [hlo h2] at hlj
      exact fun e => cross h2 h1 hj hi hlj hli ho2 ho1 e.symm
    · rw [if_neg h1] at hi; rw [if_neg h2] at hj; rw [hhi h1] at hli; rw [hhi h2] at hlj
      exact hR.inj i j bi bj li lj hij hi hj hli hlj ho1 ho2
  · rw [hhi (by omega)]
    exact hR.fresh id g (by omega)
  · rw [joinH_get] at hb
    split at hb
    · rename_i h1; rw [hlo h1]; exact hst.rel.gen id b g hb hg
    · rename_i h1; rw [hhi h1]; exact hR.gen id b g hb hg
  · refine hst.frame k hk fun h => ho ?_
    obtain ⟨i, b, l, _, h2, h3, h4, h5⟩ := hown k h
    exact ⟨i, b, l, h2, h3, h4, h5⟩
  · obtain ⟨i, b, l, hb, hl, hlo', hk⟩ := ho
    rw [joinH_get] at hb
    split at hb
    · rename_i h1
      rw [hlo h1] at hl
      rcases hst.new k ⟨i, b, l, hb, hl, hlo', hk⟩ with h | h
      · obtain ⟨i, b, l, _, h2, h3, h4, h5⟩ := hown k h
        exact .inl ⟨i, b, l, h2, h3, h4, h5⟩
      · exact .inr h
    · rename_i h1
      rw [hhi h1] at hl
      exact .inl ⟨i, b, l, hb, hl, hlo', hk⟩

/-- Holes at the end are nothing. -/
theorem Step.trim {H1 H' : Hp} {W' : World} (hst : Step P b0 ρ ρ' H H1 W W') (hlen : H.length ≤ H'.length) (h1 : ∀ id, id < H'.length → H1[id]? = H'[id]?) (h2 : ∀ id b, H'.length ≤ id → H1[id]? = some b → b = .hole) : Step P b0 ρ ρ' H H' W W' := by
  have hin : ∀ {id b}, H'[id]? = some b → H1[id]? = some b := fun {id b} hb => by
    rw [h1 id (List.getElem?_eq_some_iff.1 hb).1]; exact hb
  refine ⟨⟨fun id b hb hne => hst.rel.blk id b (hin hb) hne, fun id g hb => hst.rel.hole id g (hin hb), fun i j bi bj li lj hij hi hj => hst.rel.inj i j bi bj li lj hij (hin hi) (hin hj), fun id g hid => ?_, fun id b g hb => hst.rel.gen id b g (hin hb), hst.rel.size⟩,
    hst.le, hst.frame, fun k ho => ?_, hst.size, hlen, hst.os, hst.tape, hst.output⟩
  · cases he : H1[id]? with
    | none => exact hst.rel.fresh id g (by simpa using he)
    | some b =>
      obtain rfl := h2 id b hid he
      exact hst.rel.hole id g he
  · obtain ⟨i, b, l, hb, r⟩ := ho
    exact hst.new k ⟨i, b, l, hin hb, r⟩
end
end Go.Am
