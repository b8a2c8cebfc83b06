/-
  The abstract machine, part Gc: what is kept of the blocks that a call has made. No statement of the seat stands here.
-/
import Derived.Test.YtdpdlobaabcjjaaAmW
namespace Go.Am
open Go

/-- The references of a cell; whether it is one whose references can be turned. -/
def refB : V → List (Nat × Nat)
  | .ptr id g _ => [(id, g)]
  | .slice id g _ _ _ _ => [(id, g)]
  | .map id => [(id, 0)]
  | _ => []
def fineB : V → Bool
  | .fn _ a b => a.isEmpty && b.isEmpty
  | .agg _ | .tup _ | .undef => false
  | _ => true
def refA : V → List (Nat × Nat)
  | .agg cs => cs.flatMap refB
  | v => refB v
def fineA : V → Bool
  | .agg cs => cs.all fineB
  | v => fineB v
def refR : V → List (Nat × Nat)
  | .tup vs => vs.flatMap refA
  | v => refA v
def fineR : V → Bool
  | .tup vs => vs.all fineA
  | v => fineA v
def renB (f : Nat → Nat → Nat × Nat) : V → V
  | .ptr id g o => .ptr (f id g).1 (f id g).2 o
  | .slice id g o n sz cp => .slice (f id g).1 (f id g).2 o n sz cp
  | .map id => .map (f id 0).1
  | v => v
def renA (f : Nat → Nat → Nat × Nat) : V → V
  | .agg cs => .agg (cs.map (renB f))
  | v => renB f v
def renR (f : Nat → Nat → Nat × Nat) : V → V
  | .tup vs => .tup (vs.map (renA f))
  | v => renA f v
/-- A reference is met again. -/
def Moved (ρ ρ2 : Ren) (f : Nat → Nat → Nat × Nat) (p : Nat × Nat) : Prop := ∀ l, ρ p.1 p.2 = some l → ρ2 (f p.1 p.2).1 (f p.1 p.2).2 = some l

section
variable {ρ ρ2 : Ren} {f : Nat → Nat → Nat × Nat}
theorem ren_VC {v : V} {u : Value} (hm : ∀ p ∈ refB v, Moved ρ ρ2 f p) (h0 : ∀ id, v = .map id → (f id 0).2 = 0) (hf : fineB v = true) (h : VC ρ v u) : VC ρ2 (renB f v) u := by
  cases v <;> simp only [fineB, Bool.false_eq_true, Bool.and_eq_true, List.isEmpty_iff] at hf <;> simp only [VC, VB, renB] at h ⊢ <;> first | exact h | skip
  · obtain ⟨l, hl, e⟩ := h
    exact ⟨l, hm (_, _) (by simp only [refB, List.mem_singleton]) l hl, e⟩
  · obtain ⟨l, a, c, hl, e⟩ := h
    exact ⟨l, a, c, hm (_, _) (by simp only [refB, List.mem_singleton]) l hl, e⟩
  · rename_i id
    obtain ⟨l, hl, e⟩ := h
    have := hm (_, _) (by simp only [refB, List.mem_singleton]) l hl
    simp only at this
    rw [h0 id rfl] at this
    exact ⟨l, this, e⟩
  · obtain ⟨a, b, e, r, s⟩ := h
    obtain ⟨rfl, rfl⟩ := hf
    refine ⟨a, b, e, ?_, ?_⟩
    · cases ha : a.toList with
      | nil => trivial
      | cons x l => rw [ha] at r; exact r.elim
    · cases hb : b.toList with
      | nil => trivial
      | cons x l => rw [hb] at s; exact s.elim
theorem VL.ren {R R' : V → Value → Prop} {g : V → V} : ∀ {vs : List V} {us : List Value}, (∀ v ∈ vs, ∀ u, R v u → R' (g v) u) → VL R vs us → VL R' (vs.map g) us
  | [], [], _, _ => trivial
  | v :: vs, u :: us, h, r => ⟨h v (by simp) u r.1, VL.ren (fun x hx => h x (by simp [hx])) r.2⟩
  | [], _ :: _, _, r => r.elim
  | _ :: _, [], _, r => r.elim
theorem VA_of {v : V} (h : ∀ cs, v ≠ .agg cs) : refA v = refB v ∧ fineA v = fineB v ∧ renA f v = renB f v ∧ (∀ ρ u, VA ρ v u = VC ρ v u) ∧ ∀ ρ u, VC ρ (renB f v) u → VA ρ (renB f v) u := by
  cases v <;> first | exact absurd rfl (h _) | exact ⟨rfl, rfl, rfl, fun _ _ => rfl, fun _ _ h => h⟩
theorem VR_of {v : V} (h : ∀ cs, v ≠ .tup cs) : refR v = refA v ∧ fineR v = fineA v ∧ renR f v = renA f v ∧ (∀ ρ u, VR ρ v u = VA ρ v u) ∧ ∀ ρ u, VA ρ (renA f v) u → VR ρ (renA f v) u := by
  cases v <;> first | exact absurd rfl (h _) | exact ⟨rfl, rfl, rfl, fun _ _ => rfl, fun _ _ h => h⟩
theorem ren_VA {v : V} {u : Value} (hm : ∀ p ∈ refA v, Moved ρ ρ2 f p) (h0 : ∀ p ∈ refA v, p.2 = 0 → (f p.1 p.2).2 = 0) (hf : fineA v = true) (h : VA ρ v u) : VA ρ2 (renA f v) u := by
  have one : ∀ {v : V} {u : Value}, (∀ p ∈ refB v, Moved ρ ρ2 f p) → (∀ p ∈ refB v, p.2 = 0 → (f p.1 p.2).2 = 0) → fineB v = true → VC ρ v u → VC ρ2 (renB f v) u := fun a b c d =>
    ren_VC a (fun id e => by subst e; exact b (id, 0) (by simp [refB]) rfl) c d
  by_cases hv : ∃ cs, v = .agg cs
  · obtain ⟨cs, rfl⟩ := hv
    obtain ⟨us, rfl, h⟩ := h
    refine ⟨us, rfl, VL.ren (fun x hx u hu => one (fun p hp => hm p ?_) (fun p hp => h0 p ?_) ?_ hu) h⟩
    · simp only [refA, List.mem_flatMap]; exact ⟨x, hx, hp⟩
    · simp only [refA, List.mem_flatMap]; exact ⟨x, hx, hp⟩
    · simp only [fineA, List.all_eq_true] at hf; exact hf x hx
  · obtain ⟨e1, e2, e3, e4, e5⟩ := VA_of (f := f) (v := v) fun cs e => hv ⟨cs, e⟩
    rw [e1] at hm h0
    rw [e2] at hf
    rw [e4] at h
    rw [e3]
    exact e5 _ _ (one hm h0 hf h)
theorem ren_VR {v : V} {u : Value} (hm : ∀ p ∈ refR v, Moved ρ ρ2 f p) (h0 : ∀ p ∈ refR v, p.2 = 0 → (f p.1 p.2).2 = 0) (hf : fineR v = true) (h : VR ρ v u) : VR ρ2 (renR f v) u := by
  by_cases hv : ∃ cs, v = .tup cs
  · obtain ⟨vs, rfl⟩ := hv
    obtain ⟨us, rfl, h⟩ := h
    refine ⟨us, rfl, VL.ren (fun x hx u hu => ren_VA (fun p hp => hm p ?_) (fun p hp => h0 p ?_) ?_ hu) h⟩
    · simp only [refR, List.mem_flatMap]; exact ⟨x, hx, hp⟩
    · simp only [refR, List.mem_flatMap]; exact ⟨x, hx, hp⟩
    · simp only [fineR, List.all_eq_true] at hf; exact hf x hx
  · obtain ⟨e1, e2, e3, e4, e5⟩ := VR_of (f := f) (v := v) fun cs e => hv ⟨cs, e⟩
    rw [e1] at hm h0
    rw [e2] at hf
    rw [e4] at h
    rw [e3]
    exact e5 _ _ (ren_VA hm h0 hf h)
end

def V.leaf : V → Bool
  | .int .. | .bool _ | .str _ | .nilptr | .nilslice | .nilmap | .nilfn | .nilif => true
  | _ => false
/-- The rows that are kept: new ones, of plain cells. -/
def keepRow (H H' : Hp) (p : Nat × Nat) : Option (List V) :=
  if H.length ≤ p.1 then
    match H'[p.1]? with
    | some (.row g cs true) => if g = p.2 ∧ cs.all V.leaf = true then some cs else none
    | _ => none
  else none
/-- Its place among those kept. -/
def fresh (n : Nat) (ps : List (Nat × Nat)) : List (Nat × Nat) := (ps.filter fun p => n ≤ p.1).eraseDups
def moveTo (n : Nat) (L : List (Nat × Nat)) (id g : Nat) : Nat × Nat := if id < n then (id, g) else (n + L.idxOf (id, g), 0)
open Classical in
noncomputable def gcC (H : Hp) (r : V × Hp) : V × Hp :=
  if r.2.take H.length = H ∧ fineR r.1 = true then
    let L := fresh H.length (refR r.1)
    match mapO (keepRow H r.2) L with
    | some rows => if (L.map (·.1)).Nodup then (renR (moveTo H.length L) r.1, H ++ rows.map fun cs => .row 0 cs true) else r
    | none => r
  else r

def GcOk (P : Program) (gc : Hp → V × Hp → V × Hp) : Prop := ∀ b0 ρ ρ' H H' W W' v u, Rel P b0 ρ H W → VR ρ' v u → Step P b0 ρ ρ' H H' W W' → ∃ ρ2, VR ρ2 (gc H (v, H')).1 u ∧ Step P b0 ρ ρ2 H (gc H (v, H')).2 W W'
theorem gcId_ok {P : Program} : GcOk P (fun _ r => r) := fun _ _ ρ' _ _ _ _ _ _ _ h1 h2 => ⟨ρ', h1, h2⟩

theorem leaf_VC {ρ ρ2 : Ren} {v : V} {u : Value} (h : VC ρ v u) (hf : v.leaf = true) : VC ρ2 v u := by
  cases v <;> simp [V.leaf] at hf <;> exact h
theorem keepRow_some {H H' : Hp} {p : Nat × Nat} {cs : List V} (h : keepRow H H' p = some cs) : H.length ≤ p.1 ∧ H'[p.1]? = some (.row p.2 cs true) ∧ cs.all V.leaf = true := by
  unfold keepRow at h
  split at h
  · rename_i h1
    split at h
    · rename_i g cs' h2
      split at h
      · rename_i h3
        injection h with h
        subst h
        obtain ⟨rfl, h3⟩ := h3
        exact ⟨h1, h2, h3⟩
      · cases h
    · cases h
  · cases h
theorem mapO_get {α β : Type} {f : α → Option β} : ∀ {l : List α} {r : List β}, mapO f l = some r → r.length = l.length ∧ ∀ (i : Nat) (y : β), r[i]? = some y → ∃ x, l[i]? = some x ∧ f x = some y
  | [], r, h => by
    simp only [mapO, Option.some.injEq] at h
    subst h
    exact ⟨rfl, fun i y h => by simp at h⟩
  | x :: l, r, h => by
    simp only [mapO] at h
    cases h1 : f x with
    | none => rw [h1] at h; cases h
    | some y =>
      rw [h1] at h
      obtain ⟨r', h2, rfl⟩ := Option.map_eq_some_iff.1 h
      obtain ⟨h3, h4⟩ := mapO_get h2
      refine ⟨by simp [h3], fun i z hz => ?_⟩
      cases i with
      | zero =>
        simp only [List.getElem?_cons_zero, Option.some.injEq] at hz
        subst hz
        exact ⟨x, rfl, h1⟩
      | succ i =>
        simp only [List.getElem?_cons_succ] at hz ⊢
        exact h4 i z hz

def renGc (ρ' : Ren) (n : Nat) (L : List (Nat × Nat)) : Ren := fun id g =>
  if id < n then ρ' id g else
  match L[id - n]? with
  | some p => if g = 0 then ρ' p.1 p.2 else none
  | none => none
theorem gc_step {P : Program} {b0 : Nat} {ρ ρ' : Ren} {H H' : Hp} {W W' : World} (hR : Rel P b0 ρ H W) (hst : Step P b0 ρ ρ' H H' W W') (hpre : H'.take H.length = H) {L : List (Nat × Nat)} {rows : List (List V)} (hrows : mapO (keepRow H H') L = some rows) (hnd : (L.map (·.1)).Nodup) :
    Step P b0 ρ (renGc ρ' H.length L) H (H ++ rows.map fun cs => .row 0 cs true) W W' ∧ ∀ p : Nat × Nat, (p.1 < H.length ∨ p ∈ L) → Moved ρ' (renGc ρ' H.length L) (moveTo H.length L) p := by
  obtain ⟨hlen, hget⟩ := mapO_get hrows
  have hold : ∀ {id : Nat}, id < H.length → H'[id]? = H[id]? := by
    intro id hid
    have : (H'.take H.length)[id]? = H[id]? := by rw [hpre]
    rw [← this, List.getElem?_take, if_pos hid]
  have hlo : ∀ {id g}, id < H.length → renGc ρ' H.length L id g = ρ' id g := fun h => if_pos h
  have hhi : ∀ {id g}, ¬ id < H.length → renGc ρ' H.length L id g = match L[id - H.length]? with | some p => if g = 0 then ρ' p.1 p.2 else none | none => none := fun h => if_neg h
  have hcut : (ρ'.cut H.length).Le (renGc ρ' H.length L) := by
    intro id g l h
    obtain ⟨h1, h2⟩ := Ren.cut_some h
    rw [hlo h1]; exact h2
  have hH2 : ∀ {id b}, (H ++ rows.map fun cs => AB.row 0 cs true)[id]? = some b → (id < H.length ∧ H[id]? = some b) ∨ (¬ id < H.length ∧ ∃ p cs, L[id - H.length]? = some p ∧ H.length ≤ p.1 ∧ H'[p.1]? = some (.row p.2 cs true) ∧ cs.all V.leaf = true ∧ b = .row 0 cs true) := by
    intro id b h
    rw [List.getElem?_append] at h
    split at h
    · exact .inl ⟨by assumption, h⟩
    · rename_i hn
      rw [List.getElem?_map] at h
      obtain ⟨cs, hcs, rfl⟩ := Option.map_eq_some_iff.1 h
      obtain ⟨p, hp, hk⟩ := hget _ _ hcs
      obtain ⟨h1, h2, h3⟩ := keepRow_some hk
      exact .inr ⟨hn, p, cs, hp, h1, h2, h3, rfl⟩
  have look : ∀ {id b l}, (H ++ rows.map fun cs => AB.row 0 cs true)[id]? = some b → renGc ρ' H.length L id b.gen = some l → ∃ k b', H'[k]? = some b' ∧ ρ' k b'.gen = some l ∧ ((id < H.length ∧ k = id) ∨ (¬ id < H.length ∧ H.length ≤ k ∧ (L.map (·.1))[id - H.length]? = some k)) := by
    intro id b l hb hl
    rcases hH2 hb with ⟨h1, h2⟩ | ⟨h1, p, cs, h2, h3, h4, h5, rfl⟩
    · rw [hlo h1] at hl
      exact ⟨id, b, by rw [hold h1]; exact h2, hl, .inl ⟨h1, rfl⟩⟩
    · rw [hhi h1, h2] at hl
      exact ⟨p.1, _, h4, hl, .inr ⟨h1, h3, by rw [List.getElem?_map, h2]; rfl⟩⟩
  refine ⟨⟨⟨fun id b hb hne => ?_, fun id g hb => ?_, fun i j bi bj li lj hij hi hj hli hlj ho1 ho2 => ?_, fun id g hid => ?_, fun id b g hb hg => ?_, hst.rel.size⟩, fun id g l hl => ?_, hst.frame, fun k ho => ?_, hst.size, by simp, hst.os, hst.tape, hst.output⟩, fun p hp l hl => ?_⟩
  · rcases hH2 hb with ⟨h1, h2⟩ | ⟨h1, p, cs, h2, h3, h4, h5, rfl⟩
    · obtain ⟨l, hl, hk⟩ := hst.rel.blk id b (by rw [hold h1]; exact h2) hne
      obtain ⟨l0, hl0, hk0⟩ := hR.blk id b h2 hne
      refine ⟨l, (hlo h1).trans hl, BlkOk.mono hcut (hk.cut (ρ' := ρ) (fun id g h => hR.fresh id g h) hk0)⟩
    · obtain ⟨l, hl, hk⟩ := hst.rel.blk p.1 _ h4 (by nofun)
      refine ⟨l, by rw [hhi h1, h2]; exact hl, ?_⟩
      obtain ⟨ho, C, t, fr, hC, hc, hr⟩ := hk
      refine ⟨ho, C, t, fr, hC, fun j v hv => ?_, hr⟩
      obtain ⟨u, a, r, c⟩ := hc j v hv
      exact ⟨u, a, leaf_VC r (List.all_eq_true.1 h5 v (List.mem_of_getElem? hv)), c⟩
  · rcases hH2 hb with ⟨h1, h2⟩ | ⟨_, _, _, _, _, _, _, h⟩
    · rw [hlo h1]
      exact hst.rel.hole id g (by rw [hold h1]; exact h2)
    · cases h
  · obtain ⟨k1, b1, h1, h2, h3⟩ := look hi hli
    obtain ⟨k2, b2, h4, h5, h6⟩ := look hj hlj
    refine hst.rel.inj k1 k2 b1 b2 li lj ?_ h1 h4 h2 h5 ho1 ho2
    rintro rfl
    rcases h3 with ⟨h3, rfl⟩ | ⟨h3, h3', h3''⟩ <;> rcases h6 with ⟨h6, e⟩ | ⟨h6, h6', h6''⟩
    · exact hij e
    · omega
    · omega
    · obtain ⟨hx1, hx2⟩ := List.getElem?_eq_some_iff.1 h3''
      obtain ⟨hy1, hy2⟩ := List.getElem?_eq_some_iff.1 h6''
      have hpw := List.pairwise_iff_getElem.1 hnd
      rcases Nat.lt_trichotomy (i - H.length) (j - H.length) with hlt | heq | hlt
      · exact hpw _ _ hx1 hy1 hlt (hx2.trans hy2.symm)
      · omega
      · exact hpw _ _ hy1 hx1 hlt (hy2.trans hx2.symm)
  · have hid' : H.length + L.length ≤ id := by simpa [hlen] using hid
    rw [hhi (by omega), List.getElem?_eq_none (by omega)]
  · rcases hH2 hb with ⟨h1, h2⟩ | ⟨h1, p, cs, h2, h3, h4, h5, rfl⟩
    · rw [hlo h1]
      exact hst.rel.gen id b g (by rw [hold h1]; exact h2) hg
    · rw [hhi h1, h2]
      simp only [AB.gen] at hg
      exact if_neg (by omega)
  · have : id < H.length := by
      rcases Nat.lt_or_ge id H.length with h | h
      · exact h
      · rw [hR.fresh id g h] at hl; cases hl
    rw [hlo this]
    exact hst.le id g l hl
  · obtain ⟨i, b, l, hb, hl, hlo', hk⟩ := ho
    obtain ⟨k1, b1, h1, h2, _⟩ := look hb hl
    exact hst.new k ⟨k1, b1, l, h1, h2, hlo', hk⟩
  · unfold moveTo
    split
    · rename_i h1; rw [hlo h1]; exact hl
    · rename_i h1
      rcases hp with hp | hp
      · exact absurd hp h1
      · have hlt := List.idxOf_lt_length_of_mem hp
        rw [hhi (by simp), Nat.add_sub_cancel_left, List.getElem?_eq_getElem hlt, List.getElem_idxOf hlt]
        simpa using hl
theorem mem_fresh {n : Nat} {ps : List (Nat × Nat)} {p : Nat × Nat} (hp : p ∈ ps) (h : ¬ p.1 < n) : p ∈ fresh n ps := by
  unfold fresh
  rw [List.mem_eraseDups, List.mem_filter]
  exact ⟨hp, by simp; omega⟩
open Classical in
theorem gcC_ok {P : Program} : GcOk P gcC := by
  intro b0 ρ ρ' H H' W W' v u hR hv hst
  unfold gcC
  split
  · rename_i hc
    obtain ⟨hpre, hf⟩ := hc
    simp only
    split
    · rename_i rows hrows
      split
      · rename_i hnd
        obtain ⟨h1, h2⟩ := gc_step hR hst hpre hrows hnd
        refine ⟨_, ren_VR (fun p hp => h2 p ?_) (fun p hp e => ?_) hf hv, h1⟩
        · by_cases h : p.1 < H.length
          · exact .inl h
          · exact .inr (mem_fresh hp h)
        · unfold moveTo; split <;> simp [e]
      · exact ⟨ρ', hv, hst⟩
    · exact ⟨ρ', hv, hst⟩
  · exact ⟨ρ', hv, hst⟩

/-! How it is used. -/
theorem renB_id {n : Nat} {L : List (Nat × Nat)} {v : V} (h : ∀ p ∈ refB v, p.1 < n) : renB (moveTo n L) v = v := by
  cases v <;> simp only [renB] <;> simp only [refB, List.mem_singleton, forall_eq] at h <;> simp only [moveTo, if_pos h]
theorem map_id_of {g : V → V} : ∀ {l : List V}, (∀ x ∈ l, g x = x) → l.map g = l
  | [], _ => rfl
  | x :: l, h => by rw [List.map_cons, h x (by simp), map_id_of fun y hy => h y (by simp [hy])]
theorem renA_id {n : Nat} {L : List (Nat × Nat)} {v : V} (h : ∀ p ∈ refA v, p.1 < n) : renA (moveTo n L) v = v := by
  by_cases hv : ∃ cs, v = .agg cs
  · obtain ⟨cs, rfl⟩ := hv
    simp only [renA]
    rw [map_id_of fun x hx => renB_id fun p hp => h p (by simp only [refA, List.mem_flatMap]; exact ⟨x, hx, hp⟩)]
  · obtain ⟨e1, _, e3, _⟩ := VA_of (f := moveTo n L) (v := v) fun cs e => hv ⟨cs, e⟩
    rw [e3]
    exact renB_id (e1 ▸ h)
theorem renR_id {n : Nat} {L : List (Nat × Nat)} {v : V} (h : ∀ p ∈ refR v, p.1 < n) : renR (moveTo n L) v = v := by
  by_cases hv : ∃ cs, v = .tup cs
  · obtain ⟨vs, rfl⟩ := hv
    simp only [renR]
    rw [map_id_of fun x hx => renA_id fun p hp => h p (by simp only [refR, List.mem_flatMap]; exact ⟨x, hx, hp⟩)]
  · obtain ⟨e1, _, e3, _⟩ := VR_of (f := moveTo n L) (v := v) fun cs e => hv ⟨cs, e⟩
    rw [e3]
    exact renA_id (e1 ▸ h)
/-- What leads to nothing new leaves nothing new. -/
theorem gc_old {H H' : Hp} {v : V} (hpre : H'.take H.length = H) (hf : fineR v = true) (h : ∀ p ∈ refR v, p.1 < H.length) : gcC H (v, H') = (v, H) := by
  have e : fresh H.length (refR v) = [] := by
    unfold fresh
    rw [List.filter_eq_nil_iff.2 fun p hp => by have := h p hp; simp; omega]
    rfl
  unfold gcC
  rw [if_pos ⟨hpre, hf⟩]
  simp only [e, mapO, List.map_nil, List.nodup_nil, if_true, List.append_nil]
  rw [renR_id h]
/-- One new row. -/
theorem gc_one {H H' : Hp} {v : V} {id g : Nat} {cs : List V} (hpre : H'.take H.length = H) (hf : fineR v = true) (hid : H.length ≤ id) (hr : H'[id]? = some (.row g cs true)) (hcs : cs.all V.leaf = true) (hL : fresh H.length (refR v) = [(id, g)]) : gcC H (v, H') = (renR (moveTo H.length [(id, g)]) v, H ++ [.row 0 cs true]) := by
  unfold gcC
  rw [if_pos ⟨hpre, hf⟩]
  have : keepRow H H' (id, g) = some cs := by
    unfold keepRow
    rw [if_pos hid]
    simp only [hr]
    simp only [hcs, and_self, if_true]
  simp [hL, mapO, this]
end Go.Am
