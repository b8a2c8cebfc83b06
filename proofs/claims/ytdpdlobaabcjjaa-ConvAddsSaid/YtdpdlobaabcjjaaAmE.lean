/-
  The abstract machine, part E: slices, held against the model. No statement of the seat stands here.
-/
import Derived.Test.YtdpdlobaabcjjaaAmD
namespace Go.Am
open Go

section
variable {P : Program} {b0 : Nat} {ρ : Ren} {H : Hp} {W : World}

theorem repeatV_length (z : List V) : ∀ n, (repeatV z n).length = n * z.length
  | 0 => by simp [repeatV]
  | n + 1 => by simp only [repeatV, List.length_append, repeatV_length z n, Nat.succ_mul]; omega
theorem repeatV_get (z : List V) : ∀ (n i : Nat), i < n * z.length → (repeatV z n)[i]? = z[i % z.length]?
  | 0, i, h => by simp at h
  | n + 1, i, h => by
    simp only [repeatV]
    rw [List.getElem?_append]
    by_cases hi : i < z.length
    · rw [if_pos hi, Nat.mod_eq_of_lt hi]
    · rw [if_neg hi, repeatV_get z n (i - z.length) (by rw [Nat.succ_mul] at h; omega)]
      rw [Nat.mod_eq_sub_mod (by omega : i ≥ z.length)]
theorem zeros_rel {z : List V} {u : Array Value} (h : VL (VC ρ) z u.toList) (hz : z.all V.isCell = true) (h0 : 0 < z.length) (n m : Nat) (hm : n * z.length ≤ m) :
    CellsRel ρ (repeatV z n) ((Array.range m).map fun i => u[i % u.size]!) 0 := by
  intro j v hj
  have e : z.length = u.size := by simpa using h.length
  have hlt := (List.getElem?_eq_some_iff.1 hj).1
  rw [repeatV_length] at hlt
  rw [repeatV_get _ _ _ hlt] at hj
  obtain ⟨w, hw, r⟩ := h.get _ hj
  have hmod : j % z.length < z.length := Nat.mod_lt _ h0
  refine ⟨w, ?_, r, VL.cells' h hz w (List.mem_of_getElem? hw)⟩
  rw [Nat.zero_add, Array.getElem?_map]
  have : (Array.range m)[j]? = some j := by rw [Array.getElem?_eq_some_iff]; exact ⟨by simp; omega, by simp⟩
  rw [this]
  simp only [Option.map_some, Option.some.injEq]
  rw [← e]
  have h2 : u[j % z.length]? = some w := by simpa using hw
  rw [getElem!_def, h2]

theorem fillV_length (place : Nat → Option (Nat × Nat)) : ∀ (ps : List (Nat × V)) (cs cs' : List V), fillV place cs ps = some cs' → cs'.length = cs.length
  | [], cs, cs', h => by simp only [fillV, Option.some.injEq] at h; rw [h]
  | (i, v) :: rest, cs, cs', h => by
    simp only [fillV] at h
    cases hpl : place i with
    | none => rw [hpl] at h; cases h
    | some q =>
      rw [hpl] at h
      simp only [Option.bind_some] at h
      split at h
      · rename_i hc
        rw [fillV_length place rest _ _ h, setAt_length _ _ _ hc.2.2]
      · cases h
theorem frOk0 (n : Nat) : frOk (0, 0) n := frOk_none n

theorem buildSlice_sim (hR : Rel P b0 ρ H W) {t : TypeId} {len : Nat} {ps : List (Nat × V)} {qs : Array (Nat × Value)} {v : V} {H' : Hp} (hp : PartsRel ρ ps qs.toList) (h : buildSliceV P t len ps H = some (v, H')) :
    Out P b0 ρ H W ((Instr.buildSlice t len qs).run P W) v H' := by
  unfold buildSliceV at h
  split at h
  · rename_i e hun
    cases hn : szOf P e with
    | none => rw [hn] at h; cases h
    | some sz =>
      rw [hn] at h
      simp only [Option.bind_some] at h
      cases hz : zeroV P e with
      | none => rw [hz] at h; cases h
      | some z =>
        rw [hz] at h
        simp only [Option.bind_some] at h
        split at h
        · rename_i hc
          obtain ⟨hzl, h0, h24⟩ := hc
          cases hf : fillV (fun i => some (i * sz, sz)) (repeatV z.cells len) ps with
          | none => rw [hf] at h; cases h
          | some cs =>
            rw [hf] at h
            simp only [Option.bind_some] at h
            split at h
            · rename_i hall
              injection h with h
              injection h with h1 h2
              subst h1 h2
              obtain ⟨u, hu, hzc⟩ := zero_cells (ρ := ρ) hz W
              have hus : u.cells.size = sz := by rw [← hzl]; simpa using hzc.length.symm
              have hzero : VL (VC ρ) (repeatV z.cells len) (((Array.range (len * sz)).map fun i => u.cells[i % u.cells.size]!)).toList := by
                refine VL.mk (by rw [repeatV_length, hzl]; simp) fun i a ha => ?_
                have hlt := (List.getElem?_eq_some_iff.1 ha).1
                rw [repeatV_length] at hlt
                rw [repeatV_get _ _ _ hlt] at ha
                obtain ⟨w, hw, r⟩ := hzc.get _ ha
                refine ⟨w, ?_, r⟩
                have h2 : u.cells[i % u.cells.size]? = some w := by rw [hus, ← hzl]; simpa using hw
                have h3 : (Array.range (len * sz))[i]? = some i := by rw [Array.getElem?_eq_some_iff]; exact ⟨by simp; rw [← hzl]; exact hlt, by simp⟩
                rw [Array.getElem?_toList, Array.getElem?_map, h3]
                simp only [Option.map_some, Option.some.injEq]
                rw [getElem!_def, h2]
              obtain ⟨C', f1, f2⟩ := fill_sim hzero hp.1 hp.2 hf
              have hone := VL.cells' f2 hall
              have hcl : CellsRel ρ cs C' 0 := by
                have := CellsRel.of (spare := []) f2 hone []
                simpa using this
              have hCs : C'.size = cs.length := by simpa using f2.length.symm
              have hcsl : cs.length = len * sz := by
                have := fillV_length _ _ _ _ hf
                rw [this, repeatV_length, hzl]
              have hst := hR.push (W' := W.alloc (.cells C' e)) hcl (frOk0 _) (by omega) (t := e) (fr := (0, 0)) rfl rfl rfl rfl
              refine ⟨.slice (some ⟨W.heap.size, 0, none⟩) len len, _, _, ?_, ?_, hst⟩
              · have hne : ¬ (len * sz > 2 ^ 24) := by omega
                have hne0 : ¬ (len * sz = 0 ∧ False) := by simp
                by_cases hl0 : len * sz = 0
                · have hl : len = 0 := by
                    rcases Nat.mul_eq_zero.1 hl0 with h | h
                    · exact h
                    · omega
                  subst hl
                  have e0 : ∀ f : Nat → Value, (Array.range 0).map f = #[] := fun f => by simp [Array.range]
                  simp only [Nat.zero_mul, e0] at f1
                  simp [Instr.buildSlice, run_underlying hun, run_szOf hn, e0, f1, newRow]
                · simp [Instr.buildSlice, run_underlying hun, run_szOf hn, hne, hl0, hu, f1, newRow]
              · refine ⟨_, ⟨W.heap.size, 0, none⟩, len, renAdd_same _ _ _ _, rfl, Nat.le_refl _, .inl rfl, fun _ => ?_, ⟨rfl, ?_⟩⟩
                · show 0 + 0 + len * sz ≤ C'.size; omega
                · show 0 + 0 + len * sz = C'.size; omega
            · cases h
        · cases h
  · cases h

/-- A row at its place. -/
theorem row_at (hR : Rel P b0 ρ H W) {id g : Nat} {r : List V × Bool} (h : getRow H id g = some r) {l : Loc} (hl : ρ id g = some l) :
    ∃ C t fr, W.heap[l.blk]? = some (.cells C t fr) ∧ CellsRel ρ r.1 C l.base ∧ (l.own = true → C.size = l.tot ∧ l.base + r.1.length ≤ l.tot) := by
  unfold getRow at h
  split at h
  · rename_i g' cs own hid
    split at h
    · rename_i hg
      subst hg
      injection h with h
      subst h
      obtain ⟨l', hl', hk⟩ := hR.blk id _ hid nofun
      simp only [AB.gen] at hl'
      rw [hl] at hl'
      injection hl' with hl'
      subst hl'
      obtain ⟨ho, C, te, fr, hC, hcr, hcap, _⟩ := hk
      exact ⟨C, te, fr, hC, hcr, fun e => ⟨(hcap (ho ▸ e)).2.2.1, (hcap (ho ▸ e)).2.2.2⟩⟩
    · cases h
  · cases h
theorem row_own (hR : Rel P b0 ρ H W) {id g : Nat} {r : List V × Bool} (h : getRow H id g = some r) (ho : r.2 = true) {l : Loc} (hl : ρ id g = some l) :
    H[id]? = some (.row g r.1 true) ∧ l.own = true ∧ b0 ≤ l.blk ∧ ∃ C t fr, W.heap[l.blk]? = some (.cells C t fr) ∧ CellsRel ρ r.1 C l.base ∧ frOk fr C.size ∧ C.size = l.tot ∧ l.base + r.1.length ≤ l.tot := by
  unfold getRow at h
  split at h
  · rename_i g' cs own hid
    split at h
    · rename_i hg
      subst hg
      injection h with h
      subst h
      simp only at ho
      subst ho
      obtain ⟨l', hl', hk⟩ := hR.blk id _ hid nofun
      simp only [AB.gen] at hl'
      rw [hl] at hl'
      injection hl' with hl'
      subst hl'
      obtain ⟨ho, C, te, fr, hC, hcr, hcap, _⟩ := hk
      obtain ⟨c1, c2, c3, c4⟩ := hcap rfl
      exact ⟨hid, ho, c1, C, te, fr, hC, hcr, c2, c3, c4⟩
    · cases h
  · cases h

/-! Slice expressions. -/
def RO (ρ : Ren) : Option V → Option Value → Prop
  | none, none => True
  | some a, some b => VR ρ a b
  | _, _ => False

theorem bound_run {lo : Option V} {lo' : Option Value} (h : RO ρ lo lo') {d : Nat} {l : Int} (hb : boundV lo d = some l) : (lo' = none ∧ l = d) ∨ ∃ k, lo' = some (.int k l) := by
  cases lo with
  | none => cases lo' with
    | none => simp [boundV] at hb; exact .inl ⟨rfl, by omega⟩
    | some => exact h.elim
  | some a => cases lo' with
    | none => exact h.elim
    | some b =>
      cases a <;> simp only [boundV] at hb <;> try cases hb
      rename_i k
      have h' : b = .int k l := h
      subst h'
      exact .inr ⟨k, rfl⟩

theorem bounds_run {lo hi : Option V} {lo' hi' : Option Value} (h1 : RO ρ lo lo') (h2 : RO ρ hi hi') {n cap : Nat} {l h : Int} (hl : boundV lo 0 = some l) (hh : boundV hi n = some h)
    (h0 : 0 ≤ l) (hlh : l ≤ h) (hn : h ≤ n) (hcap : n ≤ cap) (isS : Bool) (W : World) : (Instr.sliceBounds isS n cap lo' hi' none).run P W = .ok (l.toNat, h.toNat, cap) W := by
  rcases bound_run h2 hh with ⟨rfl, rfl⟩ | ⟨k, rfl⟩
  · rcases bound_run h1 hl with ⟨rfl, rfl⟩ | ⟨k', rfl⟩
    · simp [Instr.sliceBounds]
    · simp [Instr.sliceBounds, Instr.sliceBound, asIntOf, h0, show l ≤ (n : Int) from by omega]
  · have e1 : (0 : Int) ≤ h := by omega
    have e2 : h ≤ (cap : Int) := by omega
    rcases bound_run h1 hl with ⟨rfl, rfl⟩ | ⟨k', rfl⟩
    · simp [Instr.sliceBounds, Instr.sliceBound, asIntOf, e1, e2]
    · have e3 : l ≤ (h.toNat : Int) := by omega
      simp only [Instr.sliceBounds, Instr.sliceBound, asIntOf, Sem.run_bind, Sem.run_pure, Result.andThen_ok, Sem.run_ite, e1, e2, h0, and_self, if_true]
      rw [if_pos ⟨trivial, e3⟩]
      rfl

theorem slice_sim (hR : Rel P b0 ρ H W) {t : TypeId} {x v : V} {u : Value} {lo hi : Option V} {lo' hi' : Option Value} (hp : VR ρ x u) (h1 : RO ρ lo lo') (h2 : RO ρ hi hi') (h : sliceV P t H x lo hi = some v) :
    Out P b0 ρ H W ((Instr.sliceAt t u lo' hi' none).run P W) v H := by
  unfold sliceV at h
  split at h
  · rename_i s hun
    cases hl : boundV lo 0 with
    | none => rw [hl] at h; cases h
    | some l =>
      rw [hl] at h
      simp only [Option.bind_some] at h
      cases hh : boundV hi s.length with
      | none => rw [hh] at h; cases h
      | some hh' =>
        rw [hh] at h
        simp only [Option.bind_some] at h
        split at h
        · rename_i hc
          injection h with h
          subst h
          have hp' : u = .string ⟨s.toArray⟩ := hp
          subst hp'
          have hb := bounds_run (P := P) h1 h2 hl hh hc.1 hc.2.1 hc.2.2 (Nat.le_refl _) false W
          have hsz : (⟨s.toArray⟩ : ByteArray).size = s.length := by show s.toArray.size = _; simp
          refine ⟨.string ((⟨s.toArray⟩ : ByteArray).extract l.toNat hh'.toNat), W, ρ, ?_, ?_, Step.refl hR⟩
          · simp only [Instr.sliceAt, Instr.slice, run_underlying hun, Sem.run_bind, Result.andThen_ok, hsz, Option.isSome_none]
            simp [hb]
          · show Value.string _ = Value.string _
            congr 1
            apply ByteArray.ext
            rw [ByteArray.data_extract]
            apply Array.ext'
            simp [List.extract_eq_take_drop]
        · cases h
  · rename_i e hun
    cases hsz : szOf P e with
    | none => rw [hsz] at h; cases h
    | some sz =>
      rw [hsz] at h
      simp only [Option.bind_some] at h
      cases hl : boundV lo 0 with
      | none => rw [hl] at h; cases h
      | some l =>
        rw [hl] at h
        simp only [Option.bind_some] at h
        cases hh : boundV hi 0 with
        | none => rw [hh] at h; cases h
        | some hh' =>
          rw [hh] at h
          simp only [Option.bind_some] at h
          split at h
          · rename_i hc
            injection h with h
            subst h
            obtain ⟨rfl, rfl⟩ := hc
            have hp' : u = .slice none 0 0 := hp
            subst hp'
            have hb := bounds_run (P := P) h1 h2 hl hh (Int.le_refl _) (Int.le_refl _) (Int.le_refl _) (Nat.le_refl _) true W
            refine ⟨.slice none 0 0, W, ρ, ?_, rfl, Step.refl hR⟩
            simp only [Instr.sliceAt, Instr.slice, run_underlying hun, Sem.run_bind, Result.andThen_ok]
            simp [hb, run_szOf hsz]
          · cases h
  · rename_i e id g off n sz cp hun
    cases hl : boundV lo 0 with
    | none => rw [hl] at h; cases h
    | some l =>
      rw [hl] at h
      simp only [Option.bind_some] at h
      cases hh : boundV hi n with
      | none => rw [hh] at h; cases h
      | some hh' =>
        rw [hh] at h
        simp only [Option.bind_some] at h
        split at h
        · rename_i hc
          injection h with h
          subst h
          obtain ⟨hsz, h0, hlh, hhn⟩ := hc
          obtain ⟨l', a, c, hloc, rfl, hnc, ha, hcap, hcp⟩ := hp
          have hb := bounds_run (P := P) h1 h2 hl hh h0 hlh hhn hnc true W
          refine ⟨.slice (if c = l.toNat then some a else some (a.add (l.toNat * sz))) (hh'.toNat - l.toNat) (c - l.toNat), W, ρ, ?_, ?_, Step.refl hR⟩
          · simp only [Instr.sliceAt, Instr.slice, run_underlying hun, Sem.run_bind, Result.andThen_ok, hb, run_szOf hsz]
            simp
          · have hmul : (c - l.toNat) * sz + l.toNat * sz = c * sz := by rw [← Nat.add_mul]; congr 1; omega
            by_cases hcl : c = l.toNat
            · rw [if_pos hcl]
              refine ⟨l', a, _, hloc, rfl, by omega, .inr (by omega), fun ho => ?_, ?_⟩
              · have := hcap ho; omega
              · cases cp with
                | full => obtain ⟨c1, c2⟩ := hcp; exact ⟨c1, by omega⟩
                | unk => trivial
                | ex k => have : c = k := hcp; show c - l.toNat = k - l.toNat; omega
            · rw [if_neg hcl]
              refine ⟨l', _, _, hloc, rfl, by omega, ?_, fun ho => ?_, ?_⟩
              · rcases ha with rfl | h0
                · exact .inl (by rw [add_lit, Nat.add_assoc])
                · exact .inr (by omega)
              · have := hcap ho; omega
              · cases cp with
                | full => obtain ⟨c1, c2⟩ := hcp; exact ⟨c1, by omega⟩
                | unk => trivial
                | ex k => have : c = k := hcp; show c - l.toNat = k - l.toNat; omega
        · cases h
  · rename_i n e id g off hun
    cases hsz : szOf P e with
    | none => rw [hsz] at h; cases h
    | some sz =>
      rw [hsz] at h
      simp only [Option.bind_some] at h
      cases hr : getRow H id g with
      | none => rw [hr] at h; cases h
      | some r =>
        rw [hr] at h
        simp only [Option.bind_some] at h
        cases hl : boundV lo 0 with
        | none => rw [hl] at h; cases h
        | some l =>
          rw [hl] at h
          simp only [Option.bind_some] at h
          cases hh : boundV hi n with
          | none => rw [hh] at h; cases h
          | some hh' =>
            rw [hh] at h
            simp only [Option.bind_some] at h
            split at h
            · rename_i hc
              injection h with h
              subst h
              obtain ⟨h0, hlh, hhn, hfit⟩ := hc
              obtain ⟨l', hloc, rfl⟩ := hp
              obtain ⟨C, t', fr, hC, hcr, hcap⟩ := row_at hR hr hloc
              have hb := bounds_run (P := P) h1 h2 hl hh h0 hlh hhn (Nat.le_refl _) false W
              have hmul : (n - l.toNat) * sz + l.toNat * sz = n * sz := by rw [← Nat.add_mul]; congr 1; omega
              refine ⟨.slice (some (if n = l.toNat then ⟨l'.blk, l'.base + off, none⟩ else (⟨l'.blk, l'.base + off, none⟩ : Addr).add (l.toNat * sz))) (hh'.toNat - l.toNat) (n - l.toNat), W, ρ, ?_, ?_, Step.refl hR⟩
              · simp only [Instr.sliceAt, Instr.sureAddr, run_underlying hun, Sem.run_bind, Sem.run_pure, Result.andThen_ok, hb, run_szOf hsz]
              · refine ⟨l', _, _, hloc, rfl, by omega, ?_, fun ho => ?_, rfl⟩
                · by_cases hcl : n = l.toNat
                  · exact .inr (by omega)
                  · rw [if_neg hcl, add_lit, Nat.add_assoc]
                    exact .inl rfl
                · obtain ⟨c1, c2⟩ := hcap ho
                  omega
            · cases h
  · cases h

/-! What is appended. -/
theorem src_sim (hR : Rel P b0 ρ H W) {x : V} {u : Value} {ys : List V} {m sz : Nat} (hx : VR ρ x u) (h : srcCells H x = some (ys, m)) (hl : ys.length = m * sz) :
    ∃ us, VL (VC ρ) ys us ∧ (Builtin.lenOf u = pure m) ∧ ∀ W1 : World, W1.heap = W.heap → (Builtin.firstCells sz m u).run P W1 = .ok us.toArray W1 := by
  unfold srcCells at h
  split at h
  · simp only [Option.some.injEq, Prod.mk.injEq] at h
    obtain ⟨rfl, rfl⟩ := h
    have hx' : u = .slice none 0 0 := hx
    subst hx'
    exact ⟨[], trivial, rfl, fun W1 _ => by simp [Builtin.firstCells]⟩
  · rename_i id g off n sz' cp
    cases hr : getRow H id g with
    | none => rw [hr] at h; cases h
    | some r =>
      rw [hr] at h
      simp only [Option.bind_some] at h
      split at h
      · rename_i hfit
        simp only [Option.some.injEq, Prod.mk.injEq] at h
        obtain ⟨rfl, rfl⟩ := h
        obtain ⟨l, a, c, hloc, rfl, hnc, ha, _, _⟩ := hx
        obtain ⟨C, t, fr, hC, hcr, _⟩ := row_at hR hr hloc
        obtain ⟨s1, s2, s3⟩ := hcr.seg hfit
        refine ⟨_, s1, rfl, fun W1 hW1 => ?_⟩
        have hlen : ((C.toList.drop (l.base + off)).take (n * sz')).length = n * sz := by rw [← s1.length, hl]
        have := run_firstCells_some (P := P) W1 sz n a n c _ hlen (fun j v hj => by
          have hlt := (List.getElem?_eq_some_iff.1 hj).1
          rw [hlen] at hlt
          have hn : n ≠ 0 := fun e => by subst e; simp at hlt
          rcases ha with rfl | h0
          · rw [add_lit]
            rw [List.getElem?_take] at hj
            split at hj
            · rw [List.getElem?_drop] at hj
              have hC1 : W1.heap[l.blk]? = some (.cells C t fr) := by rw [hW1]; exact hC
              simpa [World.cell?, hC1] using hj
            · cases hj
          · omega)
        exact this
      · cases h
  · rename_i s
    simp only [Option.some.injEq, Prod.mk.injEq] at h
    obtain ⟨rfl, rfl⟩ := h
    have hx' : u = .string ⟨s.toArray⟩ := hx
    subst hx'
    refine ⟨s.map fun b => .int .u8 b.toNat, VL.map _ _ (fun b => rfl) s, ?_, fun W1 _ => ?_⟩
    · show (pure (⟨s.toArray⟩ : ByteArray).size : Sem Nat) = _
      congr 1
    · simp only [Builtin.firstCells, Sem.run_pure]
      congr 1
      rw [ByteArray.data_extract]
      apply Array.ext'
      simp [List.extract_eq_take_drop]
  · cases h

theorem elem_facts {e : TypeId} {sz by_ : Nat} {z : V} (h1 : szOf P e = some sz) (h2 : bytesOf' P e = some by_) (h3 : zeroV P e = some z) : ∃ i u, P.info? e = some i ∧ i.size = sz ∧ i.bytes = by_ ∧ i.zero = some u ∧ z = ofVal u := by
  unfold szOf at h1
  unfold bytesOf' at h2
  unfold zeroV at h3
  cases hi : P.info? e with
  | none => rw [hi] at h1; cases h1
  | some i =>
    rw [hi] at h1 h2 h3
    simp at h1 h2 h3
    obtain ⟨u, hu, rfl⟩ := h3
    exact ⟨i, u, rfl, h1, h2, hu, rfl⟩
theorem ofVal_cells_length (u : Value) : (ofVal u).cells.length = u.cells.size := by
  unfold ofVal
  split
  · simp [V.cells, Value.cells]
  · rename_i hn
    have e : u.cells = #[u] := by unfold Value.cells; split <;> first | rfl | exact absurd rfl (hn _)
    have e2 : (ofCell u).cells = [ofCell u] := by unfold V.cells; split <;> first | rfl | exact absurd ‹_› ((ofCell_not u).1 _)
    rw [e, e2]
    rfl

/-- append where it grows: what it comes to. -/
theorem run_grow {t t1 ty e : TypeId} {d1 : TypeDesc} {sz by_ : Nat} {z : V} (ht : P.underlying t = some (.slice e)) (ht1 : P.underlying t1 = some d1) (hd1 : ∀ k, d1 ≠ .int k)
    (h1 : szOf P e = some sz) (h2 : bytesOf' P e = some by_) (h3 : zeroV P e = some z) (hzs : z.cells.length = sz)
    (base : Option Addr) (n cap m : Nat) (ux : Value) (olds news : List Value) (hlo : olds.length = n * sz) (hln : news.length = m * sz)
    (hlen : Builtin.lenOf ux = pure m) (hnews : (Builtin.firstCells sz m ux).run P W.drew = .ok news.toArray W.drew) (holds : (Builtin.firstCells sz n (.slice base n cap)).run P W.drew = .ok olds.toArray W.drew)
    (hg : cap < n + m) (hb : (n + m) * by_ ≤ 2 ^ 40) (hb2 : n + m ≤ 2 ^ 40) :
    ∃ c, n + m ≤ c ∧ ∃ C : Array Value, C.size = c * sz ∧ C.toList.take ((n + m) * sz) = olds ++ news ∧
      (Builtin.append_ #[t, t1] ty #[.slice base n cap, ux]).run P W = .ok (.slice (some ⟨W.heap.size, 0, none⟩) (n + m) c) (W.drew.alloc (.cells C e)) := by
  obtain ⟨i, u, hi, rfl, rfl, hz, rfl⟩ := elem_facts h1 h2 h3
  have hn : ¬ (n + m ≤ cap) := by omega
  have h63 : ¬ ((9223372036854775807 : Int) < ((n : Int) + (m : Int))) := by omega
  have h48 : ¬ (281474976710656 < Builtin.nextslicecap (n + m) cap * i.bytes) := by
    have := growslice_fits (need := n + m) (old := cap) (bytes := i.bytes) (by omega) (by omega)
    omega
  have hge := grownCap_ge W (n + m) cap e
  rw [ofVal_cells_length] at hzs
  have hzsz : (Builtin.zeroCells u.cells (grownCap W (n + m) cap e - (n + m))).size = (grownCap W (n + m) cap e - (n + m)) * i.size := by rw [size_zeroCells, hzs]
  refine ⟨grownCap W (n + m) cap e, hge, olds.toArray ++ news.toArray ++ Builtin.zeroCells u.cells (grownCap W (n + m) cap e - (n + m)), ?_, ?_, ?_⟩
  · rw [Array.size_append, Array.size_append, hzsz, List.size_toArray, List.size_toArray, hlo, hln, ← Nat.add_mul, ← Nat.add_mul]
    congr 1
    omega
  · have : (olds ++ news).length = (n + m) * i.size := by rw [List.length_append, hlo, hln, ← Nat.add_mul]
    rw [Array.toList_append, Array.toList_append]
    rw [← this]
    exact List.take_left
  · have hlen2 : ∀ w : World, (Builtin.lenOf ux).run P w = .ok m w := fun w => by rw [hlen]; rfl
    have hc : (Question.appendCap (n + m) cap e).cut (W.tape W.drawn (.appendCap (n + m) cap e)) = grownCap W (n + m) cap e := rfl
    have hd : ({ W with drawn := W.drawn + 1 } : World) = W.drew := rfl
    simp [Builtin.append_, run_underlying ht, run_underlying ht1, sizeOf, typeInfo, zeroValue, hi, hz, hlen2, hn, h63, h48, Question.forced, hc, hnews, holds, newRow]
    congr 2
    apply Array.ext'
    simp

/-- append within the capacity. -/
theorem run_room {t t1 ty e : TypeId} {d1 : TypeDesc} {sz : Nat} (ht : P.underlying t = some (.slice e)) (ht1 : P.underlying t1 = some d1) (hd1 : ∀ k, d1 ≠ .int k)
    (h1 : szOf P e = some sz) (a : Addr) (n cap m : Nat) (ux : Value) (news : List Value) (hlen : Builtin.lenOf ux = pure m) (hnews : (Builtin.firstCells sz m ux).run P W = .ok news.toArray W)
    (hg : n + m ≤ cap) {W' : World} (hst : (storeCells (a.add (n * sz)) news).run P W = .ok () W') :
    (Builtin.append_ #[t, t1] ty #[.slice (some a) n cap, ux]).run P W = .ok (.slice (some a) (n + m) cap) W' := by
  have hlen2 : ∀ w : World, (Builtin.lenOf ux).run P w = .ok m w := fun w => by rw [hlen]; rfl
  simp [Builtin.append_, run_underlying ht, run_underlying ht1, run_szOf h1, hlen2, hg, hnews, hst]
theorem run_room_none {t t1 ty e : TypeId} {d1 : TypeDesc} {sz : Nat} (ht : P.underlying t = some (.slice e)) (ht1 : P.underlying t1 = some d1) (hd1 : ∀ k, d1 ≠ .int k)
    (h1 : szOf P e = some sz) (ux : Value) (news : List Value) (hlen : Builtin.lenOf ux = pure 0) (hnews : (Builtin.firstCells sz 0 ux).run P W = .ok news.toArray W) :
    (Builtin.append_ #[t, t1] ty #[.slice none 0 0, ux]).run P W = .ok (.slice none 0 0) W := by
  have hlen2 : ∀ w : World, (Builtin.lenOf ux).run P w = .ok 0 w := fun w => by rw [hlen]; rfl
  simp [Builtin.append_, run_underlying ht, run_underlying ht1, run_szOf h1, hlen2, hnews]
end
end Go.Am
