/-
  The abstract machine, part C: the operations, held against the model. No statement of the seat stands here.
-/
import Derived.Test.YtdpdlobaabcjjaaAmB
namespace Go.Am
open Go

theorem VC.toVA {ρ : Ren} {x : V} {v : Value} (h : VC ρ x v) : VA ρ x v := by
  cases x <;> first | exact h | exact absurd h id
theorem VA.toVR {ρ : Ren} {x : V} {v : Value} (h : VA ρ x v) : VR ρ x v := by
  cases x <;> first | exact h | exact absurd h id
theorem VC.toVR {ρ : Ren} {x : V} {v : Value} (h : VC ρ x v) : VR ρ x v := h.toVA.toVR

section
variable {P : Program} {b0 : Nat} {ρ : Ren} {H : Hp} {W : World}

theorem run_szOf {t : TypeId} {n : Nat} (h : szOf P t = some n) (W : World) : (sizeOf t).run P W = .ok n W := by
  unfold szOf at h
  cases hi : P.info? t with
  | none => rw [hi] at h; cases h
  | some i => rw [hi] at h; simp at h; simp [sizeOf, typeInfo, hi, h]
theorem run_aggT {t : TypeId} {b : Bool} (h : aggT P t = some b) (W : World) : (isAgg t).run P W = .ok b W := by
  unfold aggT at h
  cases hu : P.underlying t with
  | none => rw [hu] at h; cases h
  | some d =>
    rw [hu] at h
    cases d <;> simp at h <;> subst h <;> simp [isAgg, run_underlying hu]
theorem run_zeroV {t : TypeId} {z : V} (h : zeroV P t = some z) (W : World) : ∃ u, (zeroValue t).run P W = .ok u W ∧ z = ofVal u := by
  unfold zeroV at h
  cases hi : P.info? t with
  | none => rw [hi] at h; cases h
  | some i =>
    rw [hi] at h
    simp at h
    obtain ⟨u, hu, rfl⟩ := h
    exact ⟨u, by simp [zeroValue, typeInfo, hi, hu], rfl⟩
theorem run_v {s : Sem Value} {W W' : World} {u : Value} (h : s.run P W = .ok u W') : (do pure (Next.value (← s)) : Sem Next).run P W = .ok (.value u) W' := by simp [h]
theorem run_u {s : Sem Unit} {W W' : World} (h : s.run P W = .ok () W') : (do s; pure Next.skip : Sem Next).run P W = .ok .skip W' := by simp [h]

/-! Lists. -/
theorem get_set3 {α : Type} (l vs : List α) (o j : Nat) (h : o ≤ l.length) :
    (l.take o ++ vs ++ l.drop (o + vs.length))[j]? = if j < o then l[j]? else if j < o + vs.length then vs[j - o]? else l[j]? := by
  have h1 : (l.take o).length = o := by simp; omega
  rw [List.append_assoc, List.getElem?_append, h1]
  by_cases a : j < o
  · rw [if_pos a, if_pos a, List.getElem?_take, if_pos a]
  · rw [if_neg a, if_neg a, List.getElem?_append]
    by_cases b : j < o + vs.length
    · rw [if_pos (by omega), if_pos b]
    · rw [if_neg (by omega), if_neg b, List.getElem?_drop]
      congr 1
      omega
theorem setAt_get (l vs : List V) (o j : Nat) (h : o ≤ l.length) :
    (setAt l o vs)[j]? = if j < o then l[j]? else if j < o + vs.length then vs[j - o]? else l[j]? := get_set3 l vs o j h
theorem setAt_length (l vs : List V) (o : Nat) (h : o + vs.length ≤ l.length) : (setAt l o vs).length = l.length := by
  simp [setAt]; omega

theorem CellsRel.seg {cs : List V} {C : Array Value} {base off n : Nat} (h : CellsRel ρ cs C base) (hl : off + n ≤ cs.length) :
    VL (VC ρ) ((cs.drop off).take n) ((C.toList.drop (base + off)).take n) ∧ (n = 0 ∨ base + off + n ≤ C.size) ∧ ∀ u ∈ (C.toList.drop (base + off)).take n, u.oneCell' = true := by
  have hat : ∀ j, j < n → ∃ v u, cs[off + j]? = some v ∧ C[base + off + j]? = some u ∧ VC ρ v u ∧ u.oneCell' = true := by
    intro j hj
    have hv : cs[off + j]? = some cs[off + j] := List.getElem?_eq_getElem (by omega)
    obtain ⟨u, hu, r⟩ := h _ _ hv
    exact ⟨_, u, hv, by rw [Nat.add_assoc]; exact hu, r⟩
  have hsz : n = 0 ∨ base + off + n ≤ C.size := by
    cases n with
    | zero => exact .inl rfl
    | succ n =>
      obtain ⟨_, u, _, hu, _⟩ := hat n (by omega)
      have := (Array.getElem?_eq_some_iff.1 hu).1
      exact .inr (by omega)
  have hlen : ((C.toList.drop (base + off)).take n).length = n := by
    rcases hsz with rfl | hsz
    · simp
    · simp; omega
  refine ⟨VL.mk (by rw [hlen]; simp; omega) fun i a ha => ?_, hsz, fun u hu => ?_⟩
  · rw [List.getElem?_take] at ha ⊢
    split at ha
    · rename_i hi
      obtain ⟨v, u, h1, h2, h3, h4⟩ := hat i hi
      rw [List.getElem?_drop] at ha
      rw [if_pos hi, List.getElem?_drop]
      rw [h1] at ha
      injection ha with ha
      subst ha
      exact ⟨u, by simpa using h2, h3⟩
    · cases ha
  · obtain ⟨i, hi, rfl⟩ := List.getElem_of_mem hu
    simp at hi
    obtain ⟨v, u, h1, h2, h3, h4⟩ := hat i (by omega)
    simp at h2 ⊢
    rw [Array.getElem?_eq_some_iff] at h2
    obtain ⟨hh, h2⟩ := h2
    rw [h2]
    exact h4

theorem CellsRel.set {cs vs : List V} {us : List Value} {C : Array Value} {base off : Nat} (h : CellsRel ρ cs C base) (hv : VL (VC ρ) vs us) (h1 : ∀ u ∈ us, u.oneCell' = true) (hl : off + vs.length ≤ cs.length) (hb : base + cs.length ≤ C.size) :
    CellsRel ρ (setAt cs off vs) (C.toList.take (base + off) ++ us ++ C.toList.drop (base + off + us.length)).toArray base := by
  intro j v hj
  have e := hv.length
  rw [setAt_get _ _ _ _ (by omega)] at hj
  simp only [List.getElem?_toArray]
  rw [get_set3 _ _ _ _ (by simp; omega)]
  by_cases a : j < off
  · rw [if_pos a] at hj
    rw [if_pos (by omega)]
    obtain ⟨u, hu, r⟩ := h j v hj
    exact ⟨u, by simpa using hu, r⟩
  · rw [if_neg a] at hj
    rw [if_neg (by omega)]
    by_cases b : j < off + vs.length
    · rw [if_pos b] at hj
      rw [if_pos (by omega)]
      obtain ⟨u, hu, r⟩ := hv.get _ hj
      have e2 : base + j - (base + off) = j - off := by omega
      rw [e2]
      exact ⟨u, hu, r, h1 u (List.mem_of_getElem? hu)⟩
    · rw [if_neg b] at hj
      rw [if_neg (by omega)]
      obtain ⟨u, hu, r⟩ := h j v hj
      exact ⟨u, by simpa using hu, r⟩

theorem CellsRel.of {cs : List V} {us spare : List Value} (h : VL (VC ρ) cs us) (h1 : ∀ u ∈ us, u.oneCell' = true) (pre : List Value) : CellsRel ρ cs (pre ++ us ++ spare).toArray pre.length := by
  intro j v hj
  obtain ⟨u, hu, r⟩ := h.get j hj
  have hlt : j < us.length := (List.getElem?_eq_some_iff.1 hu).1
  refine ⟨u, ?_, r, h1 u (List.mem_of_getElem? hu)⟩
  simp only [List.getElem?_toArray]
  rw [List.append_assoc, List.getElem?_append_right (by omega), List.getElem?_append_left (by omega)]
  rw [show pre.length + j - pre.length = j from by omega]
  exact hu

/-- Cells that are known stand for cells. -/
theorem VL.cells {R : List V} {us : List Value} (h : VL (VA ρ) R us) (hc : R.all V.isCell = true) : VL (VC ρ) R us ∧ ∀ u ∈ us, u.oneCell' = true := by
  induction R generalizing us with
  | nil => cases us with
    | nil => exact ⟨trivial, by simp⟩
    | cons => exact h.elim
  | cons a R ih => cases us with
    | nil => exact h.elim
    | cons u us =>
      simp only [List.all_cons, Bool.and_eq_true] at hc
      obtain ⟨h1, h2⟩ := ih h.2 hc.2
      obtain ⟨h3, h4⟩ := VA.cell h.1 hc.1
      exact ⟨⟨h3, h1⟩, by simp; exact ⟨h4, h2⟩⟩
theorem VL.cells' {R : List V} {us : List Value} (h : VL (VC ρ) R us) (hc : R.all V.isCell = true) : ∀ u ∈ us, u.oneCell' = true :=
  (VL.cells (h.imp fun _ _ => VC.toVA) hc).2
/-- The cells of a value. -/
theorem VA.cells {v : V} {u : Value} (h : VA ρ v u) (hc : v.cells.all V.isCell = true) : VL (VC ρ) v.cells u.cells.toList ∧ ∀ x ∈ u.cells.toList, x.oneCell' = true := by
  cases v
  case agg cs =>
    obtain ⟨cs', rfl, hl⟩ := h
    exact ⟨hl, VL.cells' hl hc⟩
  all_goals
    simp only [V.cells, List.all_cons, List.all_nil, Bool.and_true] at hc
    obtain ⟨h3, h4⟩ := VA.cell h hc
    have e : u.cells = #[u] := by cases u <;> simp_all [Value.cells, Value.oneCell']
    rw [e]
    exact ⟨⟨h3, trivial⟩, by simpa using h4⟩

/-! A new block. -/
theorem Rel.push (h : Rel P b0 ρ H W) {cs : List V} {C : Array Value} {t : TypeId} {fr : Nat × Nat} {W' : World}
    (hc : CellsRel ρ cs C 0) (hfr : frOk fr C.size) (hl : cs.length ≤ C.size)
    (hW : W'.heap = W.heap.push (.cells C t fr)) (hos : W'.os = W.os) (htape : W'.tape = W.tape) (hout : W'.output = W.output) :
    Step P b0 ρ (renAdd ρ H.length 0 ⟨W.heap.size, 0, C.size, true⟩) H (H ++ [.row 0 cs true]) W W' := by
  have hk : ∀ k, k < W.heap.size → W'.heap[k]? = W.heap[k]? := fun k hk => by rw [hW, Array.getElem?_push, if_neg (by omega)]
  have := h.upd H.length (.row 0 cs true) ⟨W.heap.size, 0, C.size, true⟩ (Nat.le_refl _) (by simp) (.inl (h.fresh _ _ (Nat.le_refl _))) (.inr (Nat.le_refl _)) rfl
    (fun k hk' _ => hk k hk') (by rw [hW]; simp) hos htape hout ?_
  · rwa [updH_push] at this
  · refine ⟨rfl, C, t, fr, by rw [hW]; simp, hc.mono (renAdd_le (.inl (h.fresh _ _ (Nat.le_refl _)))), fun _ => ⟨h.size, hfr, rfl, by simpa using hl⟩, fun e => by cases e⟩
theorem frOk_none (n : Nat) : frOk (0, 0) n := .inl rfl

/-- A row that is the state's own is written in place. -/
theorem Rel.put (h : Rel P b0 ρ H W) {id g : Nat} {cs cs' : List V} {own : Bool} (hid : H[id]? = some (.row g cs own)) (hown : own = true) {l : Loc} (hl : ρ id g = some l) {C' : Array Value}
    (hc : CellsRel ρ cs' C' l.base) (hsz : C'.size = l.tot) (hlen : l.base + cs'.length ≤ l.tot) :
    Step P b0 ρ ρ H (H.set id (.row g cs' true)) W (W.setRow l.blk C') := by
  subst hown
  obtain ⟨l', hl', hk⟩ := h.blk id _ hid nofun
  simp only [AB.gen] at hl'
  rw [hl] at hl'
  injection hl' with hl'
  subst hl'
  obtain ⟨ho, C, t, fr, hC, hcr, hcap, _⟩ := hk
  obtain ⟨c1, c2, c3, c4⟩ := hcap rfl
  have hlt : id < H.length := (List.getElem?_eq_some_iff.1 hid).1
  have hadd : renAdd ρ id (AB.gen (.row g cs' true)) l = ρ := by
    funext i k
    unfold renAdd
    split
    · rename_i e
      obtain ⟨rfl, rfl⟩ := e
      exact hl.symm
    · rfl
  have := h.upd (W' := W.setRow l.blk C') id (.row g cs' true) l (by omega) (fun b' hb' => by rw [hid] at hb'; injection hb' with hb'; subst hb'; exact Nat.le_refl _) (.inr hl)
    (.inl ⟨_, l, hid, hl, ho, rfl⟩) ho (fun k _ hk => setRow_other W l.blk k C' hk) (by simp) rfl rfl rfl ?_
  · rw [hadd, updH_set hlt] at this
    exact this
  · rw [hadd]
    exact ⟨ho, C', t, fr, setRow_heap W _ _ _ _ _ hC, hc, fun _ => ⟨c1, by rw [hsz, ← c3]; exact c2, hsz, hlen⟩, fun e => by cases e⟩

/-- Storing cells. -/
theorem run_storeF {g o : Nat} {t : TypeId} {fr : Nat × Nat} : ∀ (vs : List Value) (i : Nat) (cur : Array Value) (w : World), w.heap[g]? = some (.cells cur t fr) → frOk fr cur.size → o + i + vs.length ≤ cur.size → (∀ v ∈ vs, v.oneCell' = true) →
    (storeCells ⟨g, o, none⟩ vs i).run P w = .ok () (w.setRow g (cur.toList.take (o + i) ++ vs ++ cur.toList.drop (o + i + vs.length)).toArray)
  | [], i, cur, w, hg, _, _, _ => by
    simp only [storeCells, List.append_nil, List.length_nil, Nat.add_zero, List.take_append_drop, Array.toArray_toList]
    rw [setRow_self w g cur t fr hg]
    rfl
  | v :: rest, i, cur, w, hg, hfz, hl, h1 => by
    have hi : o + i < cur.size := by simp at hl; omega
    have hadd : (⟨g, o, none⟩ : Addr).add i = ⟨g, o + i, none⟩ := by unfold Addr.add; split <;> simp_all
    have hcell : w.cell? ⟨g, o + i, none⟩ = some cur[o + i] := by simp [World.cell?, hg, hi]
    have hfro : w.frozen? ⟨g, o + i, none⟩ = false := by
      have := hfz.at (o + i) hi
      simp only [World.frozen?, hg]
      simpa using this
    have hst : (store ((⟨g, o, none⟩ : Addr).add i) v).run P w = .ok () (w.setRow g (cur.setIfInBounds (o + i) v)) := by
      rw [hadd, run_store P w _ v _ (h1 v (by simp)), hcell]
      simp [hfro, setCell_eq_setRow w g (o + i) cur t fr v hg]
    have ih := run_storeF (g := g) (o := o) (t := t) (fr := fr) rest (i + 1) (cur.setIfInBounds (o + i) v) (w.setRow g (cur.setIfInBounds (o + i) v)) (setRow_heap w g cur _ t _ hg) (by simpa using hfz) (by simp at hl ⊢; omega) (fun x hx => h1 x (by simp [hx]))
    simp only [storeCells, Sem.run_bind, hst, Result.andThen_ok, ih, setRow_setRow]
    congr 3
    have e := list_seg_step cur.toList (o + i) v rest (by simp at hl ⊢; omega)
    simpa [Array.toList_setIfInBounds, Nat.add_assoc] using e

/-! What an operation comes to. -/
def Out (P : Program) (b0 : Nat) (ρ : Ren) (H : Hp) (W : World) (r : Result Value) (v : V) (H' : Hp) : Prop := ∃ u W' ρ', r = .ok u W' ∧ VR ρ' v u ∧ Step P b0 ρ ρ' H H' W W'
def OutU (P : Program) (b0 : Nat) (ρ : Ren) (H : Hp) (W : World) (r : Result Unit) (H' : Hp) : Prop := ∃ W' ρ', r = .ok () W' ∧ Step P b0 ρ ρ' H H' W W'

theorem part_sim {t : TypeId} {cs : List V} {C : Array Value} {off : Nat} {v : V} (hc : VL (VC ρ) cs C.toList) (h : partV P t cs off = some v) : ∃ u, (part t C off).run P W = .ok u W ∧ VA ρ v u := by
  unfold partV at h
  cases ha : aggT P t with
  | none => rw [ha] at h; cases h
  | some b =>
    rw [ha] at h
    cases b with
    | true =>
      simp only [Option.bind_some, if_true] at h
      cases hn : szOf P t with
      | none => rw [hn] at h; cases h
      | some n =>
        rw [hn] at h
        simp only [Option.bind_some] at h
        split at h
        · injection h with h
          subst h
          refine ⟨.agg (C.extract off (off + n)), ?_, _, rfl, ?_⟩
          · simp [part, run_aggT ha, run_szOf hn]
          · have := (hc.drop off).take n
            simpa [Array.toList_extract, List.extract_eq_take_drop] using this
        · cases h
    | false =>
      simp only [Option.bind_some, Bool.false_eq_true, if_false] at h
      obtain ⟨u, hu, r⟩ := hc.get off h
      refine ⟨u, ?_, r.toVA⟩
      have : C[off]? = some u := by simpa using hu
      simp [part, run_aggT ha, this]

theorem load_same (hR : Rel P b0 ρ H W) {t : TypeId} {p v : V} {u : Value} (hp : VR ρ p u) (h : loadV P t H p = some v) : ∃ a x, u = .pointer (some a) ∧ (loadVar t a).run P W = .ok x W ∧ VR ρ v x := by
  cases p <;> simp only [loadV] at h <;> try cases h
  rename_i id g off
  obtain ⟨l, hl, rfl⟩ := hp
  unfold getRow at h
  split at h
  · rename_i g' cs own hid
    split at h
    · rename_i hg
      subst hg
      simp only [Option.bind_some] at h
      obtain ⟨l', hl', hk⟩ := hR.blk id _ hid nofun
      simp only [AB.gen] at hl'
      rw [hl] at hl'
      injection hl' with hl'
      subst hl'
      obtain ⟨ho, C, te, fr, hC, hcr, _⟩ := hk
      unfold partV at h
      cases ha : aggT P t with
      | none => rw [ha] at h; cases h
      | some b =>
        rw [ha] at h
        cases b with
        | true =>
          simp only [Option.bind_some, if_true] at h
          cases hn : szOf P t with
          | none => rw [hn] at h; cases h
          | some n =>
            rw [hn] at h
            simp only [Option.bind_some] at h
            split at h
            · rename_i hle
              injection h with h
              subst h
              obtain ⟨s1, s2, _⟩ := hcr.seg hle
              have hcells := run_loadCells_list (P := P) W ⟨l.blk, l.base + off, none⟩ ((C.toList.drop (l.base + off)).take n) (fun j u hu => by
                rw [List.getElem?_take] at hu
                split at hu
                · rw [List.getElem?_drop] at hu
                  have hadd : (⟨l.blk, l.base + off, none⟩ : Addr).add j = ⟨l.blk, l.base + off + j, none⟩ := by unfold Addr.add; split <;> simp_all
                  rw [hadd]
                  simpa [World.cell?, hC] using hu
                · cases hu)
              have hlen : ((C.toList.drop (l.base + off)).take n).length = n := by
                rw [← s1.length]; simp; omega
              rw [hlen] at hcells
              refine ⟨_, .agg ((C.toList.drop (l.base + off)).take n).toArray, rfl, ?_, ⟨_, rfl, by simpa using s1⟩⟩
              simp [loadVar, run_aggT ha, run_szOf hn, hcells]
            · cases h
        | false =>
          simp only [Option.bind_some, Bool.false_eq_true, if_false] at h
          obtain ⟨u, hu, r, _⟩ := hcr _ _ h
          refine ⟨_, u, rfl, ?_, r.toVR⟩
          have : W.cell? ⟨l.blk, l.base + off, none⟩ = some u := by simpa [World.cell?, hC] using hu
          simp [loadVar, run_aggT ha, this]
    · cases h
  · cases h
theorem load_sim (hR : Rel P b0 ρ H W) {t : TypeId} {p v : V} {u : Value} (hp : VR ρ p u) (h : loadV P t H p = some v) : Out P b0 ρ H W ((Instr.loadAt t u).run P W) v H := by
  obtain ⟨a, x, rfl, h1, h2⟩ := load_same hR hp h
  refine ⟨x, W, ρ, ?_, h2, Step.refl hR⟩
  simp [Instr.loadAt, Instr.sureAddr, h1]

theorem store_sim (hR : Rel P b0 ρ H W) {t : TypeId} {p v : V} {u x : Value} {H' : Hp} (hp : VR ρ p u) (hv : VR ρ v x) (h : storeV P t H p v = some H') : OutU P b0 ρ H W ((Instr.storeAt t u x).run P W) H' := by
  cases p <;> simp only [storeV] at h <;> try cases h
  rename_i id g off
  obtain ⟨l, hl, rfl⟩ := hp
  unfold getRow at h
  split at h
  · rename_i g' cs own hid
    split at h
    · rename_i hg
      subst hg
      simp only [Option.bind_some] at h
      split at h
      · rename_i hcond
        obtain ⟨ho, hsz, hle, hall⟩ := hcond
        injection h with h
        subst h
        have hva : VA ρ v x := hv.va (fun vs e => by subst e; simp [V.cells, V.isCell] at hall)
        obtain ⟨hc1, hc2⟩ := hva.cells hall
        obtain ⟨l', hl', hk⟩ := hR.blk id _ hid nofun
        simp only [AB.gen] at hl'
        rw [hl] at hl'
        injection hl' with hl'
        subst hl'
        obtain ⟨hown, C, te, fr, hC, hcr, hcap, _⟩ := hk
        obtain ⟨c1, c2, c3, c4⟩ := hcap ho
        have e := hc1.length
        have hst := run_storeF (P := P) (g := l.blk) (o := l.base + off) (t := te) (fr := fr) x.cells.toList 0 C W hC c2 (by simp at e ⊢; omega) hc2
        refine ⟨_, ρ, ?_, hR.put hid ho hl (hcr.set hc1 hc2 hle (by omega)) (by simp; simp at e; omega) (by rw [setAt_length _ _ _ hle]; omega)⟩
        have hs : x.cells.size = v.cells.length := by simp at e; omega
        simp only [Nat.add_zero] at hst
        simp [Instr.storeAt, Instr.sureAddr, storeVar, run_szOf hsz, hs, hst]
      · cases h
    · cases h
  · cases h
end
end Go.Am
