/-
  The abstract machine, part B: what an abstract state says of memory. No statement of the seat stands here.
-/
import Derived.Test.YtdpdlobaabcjjaaAmA
namespace Go.Am
open Go

structure Loc where
  blk : Nat
  base : Nat
  tot : Nat
  own : Bool
abbrev Ren := Nat → Nat → Option Loc

def capOk (l : Loc) (off sz c : Nat) : Cap → Prop
  | .full => l.own = true ∧ l.base + off + c * sz = l.tot
  | .unk => True
  | .ex k => c = k

/-- A plain value of one cell. -/
def VB (ρ : Ren) : V → Value → Prop
  | .undef, _ => True
  | .int k n, v => v = .int k n
  | .bool b, v => v = .bool b
  | .str s, v => v = .string ⟨s.toArray⟩
  | .nilptr, v => v = .pointer none
  | .ptr id g off, v => ∃ l, ρ id g = some l ∧ v = .pointer (some ⟨l.blk, l.base + off, none⟩)
  | .nilslice, v => v = .slice none 0 0
  | .slice id g off n sz cp, v => ∃ l a c, ρ id g = some l ∧ v = .slice (some a) n c ∧ n ≤ c ∧ (a = ⟨l.blk, l.base + off, none⟩ ∨ c = 0) ∧ (l.own = true → l.base + off + c * sz ≤ l.tot) ∧ capOk l off sz c cp
  | .nilmap, v => v = .map none
  | .map id, v => ∃ l, ρ id 0 = some l ∧ v = .map (some l.blk)
  | .nilfn, v => v = .nilFunc
  | .nilif, v => v = .nilIface
  | _, _ => False

/-- Element by element. -/
def VL (R : V → Value → Prop) : List V → List Value → Prop
  | [], [] => True
  | a :: l, b :: l' => R a b ∧ VL R l l'
  | _, _ => False

/-- What one cell holds. -/
def VC (ρ : Ren) : V → Value → Prop
  | .fn f a b, v => ∃ a' b', v = .func (.func f) a' b' ∧ VL (VB ρ) a a'.toList ∧ VL (VB ρ) b b'.toList
  | x, v => VB ρ x v
/-- A value: a cell's, or an aggregate. -/
def VA (ρ : Ren) : V → Value → Prop
  | .agg cs, v => ∃ cs', v = .agg cs' ∧ VL (VC ρ) cs cs'.toList
  | x, v => VC ρ x v
/-- A value, or several results. -/
def VR (ρ : Ren) : V → Value → Prop
  | .tup vs, v => ∃ vs', v = .tuple vs' ∧ VL (VA ρ) vs vs'.toList
  | x, v => VA ρ x v

def Ren.Le (ρ ρ' : Ren) : Prop := ∀ id g l, ρ id g = some l → ρ' id g = some l
theorem Ren.Le.refl (ρ : Ren) : ρ.Le ρ := fun _ _ _ h => h
theorem Ren.Le.trans {a b c : Ren} (h : a.Le b) (k : b.Le c) : a.Le c := fun _ _ _ x => k _ _ _ (h _ _ _ x)

theorem VB.mono {ρ ρ' : Ren} (h : ρ.Le ρ') : ∀ {x : V} {v : Value}, VB ρ x v → VB ρ' x v := by
  intro x v hx
  cases x <;> simp only [VB] at hx ⊢ <;> first | exact hx | exact trivial | skip
  · obtain ⟨l, a, b⟩ := hx; exact ⟨l, h _ _ _ a, b⟩
  · obtain ⟨l, a, c, e, r⟩ := hx; exact ⟨l, a, c, h _ _ _ e, r⟩
  · obtain ⟨l, a, b⟩ := hx; exact ⟨l, h _ _ _ a, b⟩
theorem VL.imp {R R' : V → Value → Prop} (h : ∀ a b, R a b → R' a b) : ∀ {l : List V} {l' : List Value}, VL R l l' → VL R' l l'
  | [], [], _ => trivial
  | _ :: _, _ :: _, hl => ⟨h _ _ hl.1, hl.2.imp h⟩
  | [], _ :: _, hl => hl.elim
  | _ :: _, [], hl => hl.elim
theorem VC.mono {ρ ρ' : Ren} (h : ρ.Le ρ') : ∀ {x : V} {v : Value}, VC ρ x v → VC ρ' x v := by
  intro x v hx
  cases x <;> simp only [VC] at hx ⊢ <;> first | exact VB.mono h hx | skip
  obtain ⟨a, b, e, r, s⟩ := hx
  exact ⟨a, b, e, r.imp fun _ _ => VB.mono h, s.imp fun _ _ => VB.mono h⟩
theorem VA.mono {ρ ρ' : Ren} (h : ρ.Le ρ') : ∀ {x : V} {v : Value}, VA ρ x v → VA ρ' x v := by
  intro x v hx
  cases x <;> simp only [VA] at hx ⊢ <;> first | exact VC.mono h hx | skip
  obtain ⟨a, e, r⟩ := hx
  exact ⟨a, e, r.imp fun _ _ => VC.mono h⟩
theorem VR.mono {ρ ρ' : Ren} (h : ρ.Le ρ') : ∀ {x : V} {v : Value}, VR ρ x v → VR ρ' x v := by
  intro x v hx
  cases x <;> simp only [VR] at hx ⊢ <;> first | exact VA.mono h hx | skip
  obtain ⟨a, e, r⟩ := hx
  exact ⟨a, e, r.imp fun _ _ => VA.mono h⟩

theorem VL.length {R : V → Value → Prop} : ∀ {l : List V} {l' : List Value}, VL R l l' → l.length = l'.length
  | [], [], _ => rfl
  | _ :: _, _ :: _, h => by simp [h.2.length]
  | [], _ :: _, h => h.elim
  | _ :: _, [], h => h.elim
theorem VL.get {R : V → Value → Prop} : ∀ {l : List V} {l' : List Value}, VL R l l' → ∀ (i : Nat) {a : V}, l[i]? = some a → ∃ b, l'[i]? = some b ∧ R a b
  | [], _, _, i, _, h => by simp at h
  | _ :: _, b :: _, hl, 0, _, h => ⟨b, rfl, by simp at h; exact h ▸ hl.1⟩
  | _ :: l, _ :: l', hl, i + 1, _, h => by
    simp only [List.getElem?_cons_succ] at h ⊢
    exact hl.2.get i h
  | _ :: _, [], hl, _, _, _ => hl.elim
theorem VL.mk {R : V → Value → Prop} : ∀ {l : List V} {l' : List Value}, l.length = l'.length → (∀ (i : Nat) (a : V), l[i]? = some a → ∃ b, l'[i]? = some b ∧ R a b) → VL R l l'
  | [], [], _, _ => trivial
  | a :: l, b :: l', hl, h => by
    refine ⟨?_, VL.mk (by simpa using hl) fun i x hx => by simpa using h (i + 1) x (by simpa using hx)⟩
    obtain ⟨c, hc, r⟩ := h 0 a rfl
    simp at hc
    exact hc ▸ r
  | [], _ :: _, h, _ => by simp at h
  | _ :: _, [], h, _ => by simp at h
theorem VL.append {R : V → Value → Prop} : ∀ {l k : List V} {l' k' : List Value}, VL R l l' → VL R k k' → VL R (l ++ k) (l' ++ k')
  | [], _, [], _, _, h => h
  | _ :: _, _, _ :: _, _, hl, h => ⟨hl.1, hl.2.append h⟩
  | [], _, _ :: _, _, hl, _ => hl.elim
  | _ :: _, _, [], _, hl, _ => hl.elim
theorem VL.drop {R : V → Value → Prop} : ∀ {l : List V} {l' : List Value} (n : Nat), VL R l l' → VL R (l.drop n) (l'.drop n)
  | l, l', 0, h => by simpa using h
  | [], [], _ + 1, _ => trivial
  | _ :: _, _ :: _, n + 1, h => h.2.drop n
  | [], _ :: _, _ + 1, h => h.elim
  | _ :: _, [], _ + 1, h => h.elim
theorem VL.take {R : V → Value → Prop} : ∀ {l : List V} {l' : List Value} (n : Nat), VL R l l' → VL R (l.take n) (l'.take n)
  | l, l', 0, _ => by simp [VL]
  | [], [], _ + 1, _ => trivial
  | _ :: _, _ :: _, n + 1, h => ⟨h.1, h.2.take n⟩
  | [], _ :: _, _ + 1, h => h.elim
  | _ :: _, [], _ + 1, h => h.elim
theorem VL.map {R : V → Value → Prop} {α : Type} (f : α → V) (f' : α → Value) (h : ∀ x, R (f x) (f' x)) : ∀ l : List α, VL R (l.map f) (l.map f')
  | [] => trivial
  | x :: l => ⟨h x, VL.map f f' h l⟩
theorem VL.repl {R : V → Value → Prop} {l : List V} {l' : List Value} (h : VL R l l') : ∀ n, VL R (repeatV l n) ((List.replicate n l').flatten)
  | 0 => trivial
  | n + 1 => by
    simp only [repeatV, List.replicate_succ, List.flatten_cons]
    exact h.append (h.repl n)

/-- Cells are base values or functions: what is a cell stands alike under 'VC' and 'VA'. -/
theorem VA.cell {ρ : Ren} {x : V} {v : Value} (h : VA ρ x v) (hc : x.isCell = true) : VC ρ x v ∧ v.oneCell' = true := by
  cases x <;> simp [V.isCell] at hc <;> simp only [VA, VC, VB] at h ⊢
  all_goals first
    | (subst h; exact ⟨rfl, rfl⟩)
    | (refine ⟨h, ?_⟩; obtain ⟨_, _, rfl⟩ := h; rfl)
    | (refine ⟨h, ?_⟩; obtain ⟨_, _, _, _, rfl, _⟩ := h; rfl)
    | (refine ⟨h, ?_⟩; obtain ⟨_, _, rfl, _⟩ := h; rfl)
theorem VC.va {ρ : Ren} {x : V} {v : Value} (h : VC ρ x v) (hc : x.isCell = true) : VA ρ x v := by
  cases x <;> simp [V.isCell] at hc <;> exact h
theorem VA.vr {ρ : Ren} {x : V} {v : Value} (h : VA ρ x v) (hc : ∀ vs, x ≠ .tup vs) : VR ρ x v := by
  cases x <;> first | exact h | exact absurd rfl (hc _)
theorem VR.va {ρ : Ren} {x : V} {v : Value} (h : VR ρ x v) (hc : ∀ vs, x ≠ .tup vs) : VA ρ x v := by
  cases x <;> first | exact h | exact absurd rfl (hc _)

theorem VC_ofCell (ρ : Ren) (v : Value) : VC ρ (ofCell v) v := by
  unfold ofCell
  split
  case h_9 f a b =>
    by_cases h : a.size = 0 ∧ b.size = 0
    · rw [if_pos h]
      refine ⟨_, _, rfl, ?_, ?_⟩
      · rw [Array.eq_empty_of_size_eq_zero h.1]; trivial
      · rw [Array.eq_empty_of_size_eq_zero h.2]; trivial
    · rw [if_neg h]; trivial
  all_goals simp only [VC, VB]
theorem ofCell_not (v : Value) : (∀ c, ofCell v ≠ .agg c) ∧ (∀ c, ofCell v ≠ .tup c) := by
  unfold ofCell
  split <;> (try split) <;> simp
theorem VR_ofVal (ρ : Ren) (v : Value) : VR ρ (ofVal v) v := by
  unfold ofVal
  split
  · exact ⟨_, rfl, by
      rename_i cs
      have := VL.map (R := VC ρ) ofCell id (VC_ofCell ρ) cs.toList
      simpa using this⟩
  · have h := VC_ofCell ρ v
    have hn := ofCell_not v
    generalize ofCell v = x at h hn
    cases x <;> first | exact h | exact absurd rfl (hn.1 _) | exact absurd rfl (hn.2 _)

/-! Memory. -/
def AB.gen : AB → Nat
  | .row g _ _ => g
  | .map _ _ => 0
  | .hole => 0
def frOk (fr : Nat × Nat) (n : Nat) : Prop := fr.1 = fr.2 ∨ n ≤ fr.1
theorem frOk.at {fr : Nat × Nat} {n : Nat} (h : frOk fr n) (j : Nat) (hj : j < n) : ¬ (fr.1 ≤ j ∧ j < fr.2) := by
  rcases h with h | h <;> omega
def CellsRel (ρ : Ren) (cs : List V) (C : Array Value) (base : Nat) : Prop := ∀ j v, cs[j]? = some v → ∃ u, C[base + j]? = some u ∧ VC ρ v u ∧ u.oneCell' = true
structure EntsRel (P : Program) (ρ : Ren) (kt : TypeId) (es : List (V × V)) (ents : Array MapEntry) (clk : Nat) : Prop where
  size : es.length = ents.size
  at_ : ∀ (i : Nat) (e : V × V), es[i]? = some e → ∃ m : MapEntry, ents[i]? = some m ∧ VA ρ e.1 m.key ∧ VA ρ e.2 m.val ∧ keyOk P kt e.1 = true ∧ elemOk e.2 = true ∧ m.born < clk
  born : ∀ (i j : Nat) (mi mj : MapEntry), i < j → ents[i]? = some mi → ents[j]? = some mj → mi.born < mj.born
def BlkOk (P : Program) (b0 : Nat) (ρ : Ren) (W : World) (l : Loc) : AB → Prop
  | .row _ cs own => l.own = own ∧ ∃ C t fr, W.heap[l.blk]? = some (.cells C t fr) ∧ CellsRel ρ cs C l.base ∧
      (own = true → b0 ≤ l.blk ∧ frOk fr C.size ∧ C.size = l.tot ∧ l.base + cs.length ≤ l.tot) ∧ (own = false → l.blk < b0)
  | .map kt es => l.own = true ∧ b0 ≤ l.blk ∧ ∃ ents clk, W.heap[l.blk]? = some (.map ents clk) ∧ EntsRel P ρ kt es ents clk
  | .hole => False

structure Rel (P : Program) (b0 : Nat) (ρ : Ren) (H : Hp) (W : World) : Prop where
  blk : ∀ id b, H[id]? = some b → b ≠ .hole → ∃ l, ρ id b.gen = some l ∧ BlkOk P b0 ρ W l b
  hole : ∀ id g, H[id]? = some .hole → ρ id g = none
  inj : ∀ i j bi bj li lj, i ≠ j → H[i]? = some bi → H[j]? = some bj → ρ i bi.gen = some li → ρ j bj.gen = some lj → li.own = true → lj.own = true → li.blk ≠ lj.blk
  fresh : ∀ id g, H.length ≤ id → ρ id g = none
  gen : ∀ id b g, H[id]? = some b → b.gen < g → ρ id g = none
  size : b0 ≤ W.heap.size

/-- The blocks that the state owns. -/
def Owned (ρ : Ren) (H : Hp) (k : Nat) : Prop := ∃ i b l, H[i]? = some b ∧ ρ i b.gen = some l ∧ l.own = true ∧ l.blk = k

structure Step (P : Program) (b0 : Nat) (ρ ρ' : Ren) (H H' : Hp) (W W' : World) : Prop where
  rel : Rel P b0 ρ' H' W'
  le : ρ.Le ρ'
  frame : ∀ k, k < W.heap.size → ¬ Owned ρ H k → W'.heap[k]? = W.heap[k]?
  new : ∀ k, Owned ρ' H' k → Owned ρ H k ∨ W.heap.size ≤ k
  size : W.heap.size ≤ W'.heap.size
  len : H.length ≤ H'.length
  os : W'.os = W.os
  tape : W'.tape = W.tape
  output : W'.output = W.output

theorem Step.refl {P : Program} {b0 : Nat} {ρ : Ren} {H : Hp} {W : World} (h : Rel P b0 ρ H W) : Step P b0 ρ ρ H H W W :=
  ⟨h, Ren.Le.refl _, fun _ _ _ => rfl, fun _ h => .inl h, Nat.le_refl _, Nat.le_refl _, rfl, rfl, rfl⟩
theorem Step.trans {P : Program} {b0 : Nat} {ρ ρ1 ρ2 : Ren} {H H1 H2 : Hp} {W W1 W2 : World} (h : Step P b0 ρ ρ1 H H1 W W1) (k : Step P b0 ρ1 ρ2 H1 H2 W1 W2) : Step P b0 ρ ρ2 H H2 W W2 := by
  refine ⟨k.rel, h.le.trans k.le, fun i hi ho => ?_, fun i hi => ?_, Nat.le_trans h.size k.size, Nat.le_trans h.len k.len, k.os.trans h.os, k.tape.trans h.tape, k.output.trans h.output⟩
  · rw [k.frame i (Nat.lt_of_lt_of_le hi h.size) fun hc => ?_]
    · exact h.frame i hi ho
    · rcases h.new i hc with hc | hc
      · exact ho hc
      · omega
  · rcases k.new i hi with hi | hi
    · exact h.new i hi
    · exact .inr (Nat.le_trans h.size hi)
/-- A draw turns nothing. -/
theorem BlkOk.world {P : Program} {b0 : Nat} {ρ : Ren} {W W' : World} {l : Loc} {b : AB} (h : BlkOk P b0 ρ W l b) (hw : W'.heap[l.blk]? = W.heap[l.blk]?) : BlkOk P b0 ρ W' l b := by
  cases b with
  | row g cs own =>
    obtain ⟨h1, C, t, fr, h2, h3⟩ := h
    exact ⟨h1, C, t, fr, hw.trans h2, h3⟩
  | map kt es =>
    obtain ⟨h1, h2, ents, clk, h3, h4⟩ := h
    exact ⟨h1, h2, ents, clk, hw.trans h3, h4⟩
  | hole => exact h.elim
theorem CellsRel.mono {ρ ρ' : Ren} (h : ρ.Le ρ') {cs : List V} {C : Array Value} {base : Nat} (hc : CellsRel ρ cs C base) : CellsRel ρ' cs C base :=
  fun j v hv => let ⟨u, a, b, c⟩ := hc j v hv; ⟨u, a, b.mono h, c⟩
theorem BlkOk.mono {P : Program} {b0 : Nat} {ρ ρ' : Ren} (h : ρ.Le ρ') {W : World} {l : Loc} {b : AB} (hb : BlkOk P b0 ρ W l b) : BlkOk P b0 ρ' W l b := by
  cases b with
  | row g cs own =>
    obtain ⟨h1, C, t, fr, h2, h3, h4⟩ := hb
    exact ⟨h1, C, t, fr, h2, h3.mono h, h4⟩
  | map kt es =>
    obtain ⟨h1, h2, ents, clk, h3, h4⟩ := hb
    refine ⟨h1, h2, ents, clk, h3, ⟨h4.size, fun i e he => ?_, h4.born⟩⟩
    obtain ⟨m, a, b, c, r⟩ := h4.at_ i e he
    exact ⟨m, a, b.mono h, c.mono h, r⟩
  | hole => exact hb.elim
theorem BlkOk.own_eq {P : Program} {b0 : Nat} {ρ : Ren} {W : World} {l : Loc} {b : AB} (h : BlkOk P b0 ρ W l b) : (l.own = true → b0 ≤ l.blk) ∧ (l.own = false → l.blk < b0) := by
  cases b with
  | row g cs own =>
    obtain ⟨rfl, C, t, fr, h2, h3, h4, h5⟩ := h
    exact ⟨fun e => (h4 e).1, h5⟩
  | map kt es =>
    obtain ⟨h1, h2, _⟩ := h
    exact ⟨fun _ => h2, fun e => by rw [h1] at e; cases e⟩
  | hole => exact h.elim
theorem BlkOk.lt {P : Program} {b0 : Nat} {ρ : Ren} {W : World} {l : Loc} {b : AB} (h : BlkOk P b0 ρ W l b) : l.blk < W.heap.size := by
  cases b with
  | row g cs own =>
    obtain ⟨_, C, t, fr, h2, _⟩ := h
    exact (Array.getElem?_eq_some_iff.1 h2).1
  | map kt es =>
    obtain ⟨_, _, _, _, h2, _⟩ := h
    exact (Array.getElem?_eq_some_iff.1 h2).1
  | hole => exact h.elim
theorem BlkOk.ne {P : Program} {b0 : Nat} {ρ : Ren} {W : World} {l : Loc} {b : AB} (h : BlkOk P b0 ρ W l b) : b ≠ .hole := by
  rintro rfl
  exact h
theorem Rel.ne {P : Program} {b0 : Nat} {ρ : Ren} {H : Hp} {W : World} (h : Rel P b0 ρ H W) {id g : Nat} {b : AB} {l : Loc} (hb : H[id]? = some b) (hl : ρ id g = some l) : b ≠ .hole := by
  rintro rfl
  rw [h.hole id g hb] at hl
  cases hl
theorem Rel.at_ {P : Program} {b0 : Nat} {ρ : Ren} {H : Hp} {W : World} (h : Rel P b0 ρ H W) {id : Nat} {b : AB} {l : Loc} (hb : H[id]? = some b) (hl : ρ id b.gen = some l) : BlkOk P b0 ρ W l b := by
  obtain ⟨l', hl', hk⟩ := h.blk id b hb (h.ne hb hl)
  rw [hl] at hl'
  injection hl' with e
  exact e ▸ hk

/-- A block that is laid over another one, or behind all. -/
def updH (H : Hp) (id : Nat) (b : AB) : Hp := if id < H.length then H.set id b else H ++ [b]
theorem updH_set {H : Hp} {id : Nat} {b : AB} (h : id < H.length) : updH H id b = H.set id b := if_pos h
theorem updH_push (H : Hp) (b : AB) : updH H H.length b = H ++ [b] := if_neg (Nat.lt_irrefl _)
theorem updH_get {H : Hp} {id : Nat} {b : AB} (hid : id ≤ H.length) (i : Nat) : (updH H id b)[i]? = if i = id then some b else H[i]? := by
  unfold updH
  split
  · rename_i h
    rw [List.getElem?_set]
    by_cases e : id = i
    · subst e; simp [h]
    · rw [if_neg e, if_neg (fun x => e x.symm)]
  · have : id = H.length := by omega
    subst this
    rw [List.getElem?_append]
    by_cases h1 : i < H.length
    · rw [if_pos h1, if_neg (by omega)]
    · by_cases h2 : i = H.length
      · subst h2; simp
      · rw [if_neg h1, if_neg h2, List.getElem?_eq_none (by simp; omega), List.getElem?_eq_none (by omega)]
theorem updH_length {H : Hp} {id : Nat} {b : AB} (hid : id ≤ H.length) : H.length ≤ (updH H id b).length ∧ id < (updH H id b).length ∧ ∀ i, i < (updH H id b).length → i < H.length ∨ i = id := by
  unfold updH
  split
  · rename_i h
    simp only [List.length_set]
    exact ⟨Nat.le_refl _, h, fun i hi => .inl hi⟩
  · rename_i h
    simp only [List.length_append, List.length_singleton]
    exact ⟨by omega, by omega, fun i hi => by omega⟩

def renAdd (ρ : Ren) (id g : Nat) (l : Loc) : Ren := fun i k => if i = id ∧ k = g then some l else ρ i k
theorem renAdd_same (ρ : Ren) (id g : Nat) (l : Loc) : renAdd ρ id g l id g = some l := if_pos ⟨rfl, rfl⟩
theorem renAdd_le {ρ : Ren} {id g : Nat} {l : Loc} (h : ρ id g = none ∨ ρ id g = some l) : ρ.Le (renAdd ρ id g l) := by
  intro i k x hx
  unfold renAdd
  split
  · rename_i e
    obtain ⟨rfl, rfl⟩ := e
    rcases h with h | h
    · rw [h] at hx; cases hx
    · rw [h] at hx; exact hx
  · exact hx

/-- The one law of change. -/
theorem Rel.upd {P : Program} {b0 : Nat} {ρ : Ren} {H : Hp} {W W' : World} (h : Rel P b0 ρ H W) (id : Nat) (b : AB) (l : Loc)
    (hid : id ≤ H.length) (hgen : ∀ b', H[id]? = some b' → b'.gen ≤ b.gen) (hρ : ρ id b.gen = none ∨ ρ id b.gen = some l)
    (hblk : (∃ b' l', H[id]? = some b' ∧ ρ id b'.gen = some l' ∧ l'.own = true ∧ l'.blk = l.blk) ∨ W.heap.size ≤ l.blk)
    (_hown : l.own = true)
    (hW : ∀ k, k < W.heap.size → k ≠ l.blk → W'.heap[k]? = W.heap[k]?) (hsize : W.heap.size ≤ W'.heap.size) (hos : W'.os = W.os) (htape : W'.tape = W.tape) (hout : W'.output = W.output)
    (hnew : BlkOk P b0 (renAdd ρ id b.gen l) W' l b) : Step P b0 ρ (renAdd ρ id b.gen l) H (updH H id b) W W' := by
  have hle := renAdd_le hρ
  have hne : ∀ i bi li, i ≠ id → H[i]? = some bi → ρ i bi.gen = some li → li.blk ≠ l.blk := by
    intro i bi li hi hb hl he
    rcases hblk with ⟨b', l', h1, h2, h3, h4⟩ | hlt
    · by_cases ho : li.own = true
      · exact h.inj i id bi b' li l' hi hb h1 hl h2 ho h3 (he.trans h4.symm)
      · have hk := h.at_ hb hl
        have hk3 := h.at_ h1 h2
        have := hk.own_eq.2 (by simpa using ho)
        have := hk3.own_eq.1 h3
        omega
    · have hk := h.at_ hb hl
      have := hk.lt
      omega
  have hget := updH_get (b := b) hid
  have hlen := updH_length (b := b) hid
  have hold : ∀ i bi, i ≠ id → H[i]? = some bi → ∀ g, renAdd ρ id b.gen l i g = ρ i g := fun i _ hi _ g => if_neg fun e => hi e.1
  have hcur : ∀ i bi li, i ≠ id → (updH H id b)[i]? = some bi → renAdd ρ id b.gen l i bi.gen = some li → H[i]? = some bi ∧ ρ i bi.gen = some li := by
    intro i bi li hi hb hl
    rw [hget i, if_neg hi] at hb
    rw [hold i bi hi hb] at hl
    exact ⟨hb, hl⟩
  refine ⟨⟨?_, ?_, ?_, ?_, ?_, Nat.le_trans h.size hsize⟩, hle, ?_, ?_, hsize, hlen.1, hos, htape, hout⟩
  · intro i bi hb hne'
    by_cases hi : i = id
    · subst hi
      rw [hget i, if_pos rfl] at hb
      injection hb with hb
      subst hb
      exact ⟨l, renAdd_same _ _ _ _, hnew⟩
    · rw [hget i, if_neg hi] at hb
      obtain ⟨li, hl, hk⟩ := h.blk i bi hb hne'
      exact ⟨li, (hold i bi hi hb _).trans hl, (hk.world (hW _ hk.lt (hne i bi li hi hb hl))).mono hle⟩
  · intro i g hb
    by_cases hi : i = id
    · subst hi
      rw [hget i, if_pos rfl] at hb
      injection hb with hb
      exact absurd hb hnew.ne
    · rw [hget i, if_neg hi] at hb
      rw [renAdd, if_neg fun e => hi e.1]
      exact h.hole i g hb
  · intro i j bi bj li lj hij hbi hbj hli hlj ho1 ho2
    by_cases hi : i = id
    · subst hi
      rw [hget i, if_pos rfl] at hbi
      injection hbi with hbi
      subst hbi
      rw [renAdd_same] at hli
      injection hli with hli
      subst hli
      obtain ⟨hbj, hlj⟩ := hcur j bj lj (fun e => hij e.symm) hbj hlj
      exact fun e => hne j bj lj (fun e => hij e.symm) hbj hlj e.symm
    · by_cases hj : j = id
      · subst hj
        rw [hget j, if_pos rfl] at hbj
        injection hbj with hbj
        subst hbj
        rw [renAdd_same] at hlj
        injection hlj with hlj
        subst hlj
        obtain ⟨hbi, hli⟩ := hcur i bi li hi hbi hli
        exact hne i bi li hi hbi hli
      · obtain ⟨hbi, hli⟩ := hcur i bi li hi hbi hli
        obtain ⟨hbj, hlj⟩ := hcur j bj lj hj hbj hlj
        exact h.inj i j bi bj li lj hij hbi hbj hli hlj ho1 ho2
  · intro i g hi
    have : i ≠ id := fun e => by subst e; omega
    rw [renAdd, if_neg fun e => this e.1]
    exact h.fresh i g (by omega)
  · intro i bi g hb hg
    by_cases hi : i = id
    · subst hi
      rw [hget i, if_pos rfl] at hb
      injection hb with hb
      subst hb
      rw [renAdd, if_neg fun e => by omega]
      cases hq : H[i]? with
      | none => exact h.fresh i g (by simpa using hq)
      | some b' => exact h.gen i b' g hq (by have := hgen b' hq; omega)
    · rw [hget i, if_neg hi] at hb
      rw [hold i bi hi hb]
      exact h.gen i bi g hb hg
  · intro k hk ho
    refine hW k hk fun e => ho ?_
    rcases hblk with ⟨b', l', h1, h2, h3, h4⟩ | hlt
    · exact ⟨id, b', l', h1, h2, h3, h4.trans e.symm⟩
    · omega
  · rintro k ⟨i, bi, li, hb, hl, ho, rfl⟩
    by_cases hi : i = id
    · subst hi
      rw [hget i, if_pos rfl] at hb
      injection hb with hb
      subst hb
      rw [renAdd_same] at hl
      injection hl with hl
      subst hl
      rcases hblk with ⟨b', l', h1, h2, h3, h4⟩ | hlt
      · exact .inl ⟨i, b', l', h1, h2, h3, h4⟩
      · exact .inr hlt
    · obtain ⟨hb, hl⟩ := hcur i bi li hi hb hl
      exact .inl ⟨i, bi, li, hb, hl, ho, rfl⟩
end Go.Am
