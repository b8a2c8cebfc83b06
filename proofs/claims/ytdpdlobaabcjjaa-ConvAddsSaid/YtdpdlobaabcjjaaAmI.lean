/-
  The abstract machine, part I: conversions, new blocks, copy, make, len, held against the model. No statement of the seat stands here.
-/
import Derived.Test.YtdpdlobaabcjjaaAmH
namespace Go.Am
open Go

section
variable {P : Program} {b0 : Nat} {ρ : Ren} {H : Hp} {W : World}

theorem newRow_sim (hR : Rel P b0 ρ H W) {e : TypeId} {v r : V} {u : Value} {H' : Hp} (hv : VA ρ v u) (h : newRowV v.cells H = some (r, H')) :
    Out P b0 ρ H W ((do pure (.pointer (some (← newVar e u))) : Sem Value).run P W) r H' := by
  unfold newRowV at h
  split at h
  · rename_i hall
    injection h with h
    injection h with h1 h2
    subst h1 h2
    obtain ⟨hc, hone⟩ := hv.cells hall
    have hcr : CellsRel ρ v.cells u.cells 0 := by
      have := CellsRel.of (spare := []) hc hone []
      simpa using this
    have hl := hc.length
    have hst := hR.push (W' := W.alloc (.cells u.cells e)) hcr (frOk0 _) (by simp at hl; omega) (t := e) (fr := (0, 0)) rfl rfl rfl rfl
    refine ⟨.pointer (some ⟨W.heap.size, 0, none⟩), _, _, ?_, ⟨_, renAdd_same _ _ _ _, rfl⟩, hst⟩
    simp [newVar, newRow]
  · cases h

theorem alloc_sim (hR : Rel P b0 ρ H W) {e : TypeId} {z r : V} {H' : Hp} (hz : zeroV P e = some z) (h : newRowV z.cells H = some (r, H')) : Out P b0 ρ H W ((Instr.alloc e true (.tuple #[])).run P W) r H' := by
  obtain ⟨u, hu, rfl⟩ := run_zeroV hz W
  have hv : VA ρ (ofVal u) u := by
    have := VR_ofVal ρ u
    exact this.va (fun vs e => by
      unfold ofVal at e
      split at e
      · cases e
      · exact (ofCell_not _).2 _ e)
  obtain ⟨x, W', ρ', h1, h2, h3⟩ := newRow_sim (e := e) hR hv h
  refine ⟨x, W', ρ', ?_, h2, h3⟩
  rw [← h1]
  simp [Instr.alloc, hu]

theorem box_sim (hR : Rel P b0 ρ H W) {e : TypeId} {v r : V} {u : Value} {H' : Hp} (hv : VR ρ v u) (h : newRowV v.cells H = some (r, H')) : Out P b0 ρ H W ((Instr.box e u).run P W) r H' := by
  have hva : VA ρ v u := hv.va (fun vs e => by subst e; simp [newRowV, V.cells, V.isCell] at h)
  exact newRow_sim (e := e) hR hva h

theorem wrap_small {n : Int} (h0 : 0 ≤ n) (h1 : n ≤ 2 ^ 40) : IntKind.i64.wrap n = n := by
  exact Go.IntWalk.i64_in n (by omega)

theorem makeSlice_sim (hR : Rel P b0 ρ H W) {t : TypeId} {n c v : V} {n' c' : Value} {H' : Hp} (hn : VR ρ n n') (hc : VR ρ c c') (h : makeSliceV P t H n c = some (v, H')) : Out P b0 ρ H W ((Instr.makeSlice t n' c').run P W) v H' := by
  unfold makeSliceV at h
  split at h
  · rename_i e n c hun
    obtain rfl : n' = .int .i64 n := hn
    obtain rfl : c' = .int .i64 c := hc
    cases hsz : szOf P e with
    | none => rw [hsz] at h; cases h
    | some sz =>
    cases hby : bytesOf' P e with
    | none => rw [hsz, hby] at h; cases h
    | some by_ =>
    cases hz : zeroV P e with
    | none => rw [hsz, hby, hz] at h; cases h
    | some z =>
    rw [hsz, hby, hz] at h
    simp only [Option.bind_some] at h
    split at h
    · rename_i hc
      obtain ⟨s0, zl, zc, n0, nc, b40, c40⟩ := hc
      injection h with h
      injection h with h1 h2
      subst h1 h2
      obtain ⟨i, u, hi, rfl, rfl, hzu, rfl⟩ := elem_facts hsz hby hz
      have hzc : VL (VC ρ) (ofVal u).cells u.cells.toList := by
        obtain ⟨u', hu', h2⟩ := zero_cells (ρ := ρ) hz W
        have : u' = u := by
          have : (zeroValue e).run P W = .ok u W := by simp [zeroValue, typeInfo, hi, hzu]
          rw [this] at hu'
          injection hu' with h _
          exact h.symm
        exact this ▸ h2
      have hus : u.cells.size = i.size := by rw [← zl, ofVal_cells_length]
      have hw1 := wrap_small n0 (by omega)
      have hw2 := wrap_small (n := c) (by omega) c40
      have hcr := zeros_rel hzc zc (by omega) n.toNat (c.toNat * i.size) (by rw [zl]; exact Nat.mul_le_mul_right _ (by omega))
      have hst := hR.push (W' := W.alloc (.cells ((Array.range (c.toNat * i.size)).map fun j => u.cells[j % u.cells.size]!) e)) hcr (frOk0 _) (by rw [repeatV_length, zl]; simp; exact Nat.mul_le_mul_right _ (by omega)) (t := e) (fr := (0, 0)) rfl rfl rfl rfl
      refine ⟨.slice (some ⟨W.heap.size, 0, none⟩) n.toNat c.toNat, _, _, ?_, ?_, hst⟩
      · have t1 : ¬ (c < 0) := by omega
        have t2 : ¬ ((281474976710656 : Int) < (i.bytes : Int) * c) := by rw [Int.mul_comm]; omega
        have t3 : ¬ (n < 0) := by omega
        have t4 : ¬ (n > c) := by omega
        by_cases hc0 : c.toNat * i.size = 0
        · have e0 : ∀ f : Nat → Value, (Array.range 0).map f = #[] := fun f => by simp [Array.range]
          simp only [Instr.makeSlice, run_underlying hun, Sem.run_bind, Result.andThen_ok, asInt, asIntOf, Sem.run_pure, typeInfo, run_program, hi, hw1, hw2]
          simp [t1, t2, t3, t4, hc0, sizeOf, typeInfo, hi, newRow, e0]
        · simp only [Instr.makeSlice, run_underlying hun, Sem.run_bind, Result.andThen_ok, asInt, asIntOf, Sem.run_pure, typeInfo, run_program, hi, hw1, hw2]
          simp [t1, t2, t3, t4, hc0, sizeOf, typeInfo, hi, newRow, zeroValue, hzu]
      · refine ⟨_, _, _, renAdd_same _ _ _ _, rfl, by omega, .inl rfl, fun _ => ?_, ⟨rfl, ?_⟩⟩
        · show 0 + 0 + c.toNat * i.size ≤ _; simp
        · show 0 + 0 + c.toNat * i.size = _; simp
    · cases h
  · cases h

theorem bytesOf_some : ∀ {vs : List V} {l : List UInt8}, bytesOf vs = some l → ∃ ns : List Int, vs = ns.map (V.int .u8) ∧ l = ns.map fun n => UInt8.ofNat n.toNat
  | [], l, h => by simp only [bytesOf, Option.some.injEq] at h; exact ⟨[], rfl, by rw [← h]; rfl⟩
  | v :: vs, l, h => by
    simp only [bytesOf] at h
    cases hb : byteOf v with
    | none => rw [hb] at h; cases h
    | some b =>
      rw [hb] at h
      simp only [Option.bind_some] at h
      obtain ⟨l', hl', rfl⟩ := Option.map_eq_some_iff.1 h
      obtain ⟨ns, rfl, rfl⟩ := bytesOf_some hl'
      unfold byteOf at hb
      split at hb
      · rename_i n
        injection hb with hb
        exact ⟨n :: ns, rfl, by rw [← hb]; rfl⟩
      · cases hb
theorem ints_of : ∀ {ns : List Int} {us : List Value}, VL (VC ρ) (ns.map (V.int .u8)) us → us = ns.map (Value.int .u8)
  | [], [], _ => rfl
  | n :: ns, u :: us, h => by
    obtain rfl : u = .int .u8 n := h.1
    rw [ints_of h.2]; rfl
  | [], _ :: _, h => h.elim
  | _ :: _, [], h => h.elim

theorem freeze_heap (W : World) (C : Array Value) (e : TypeId) (W1 : World) (hW1 : W1.heap = W.heap.push (.cells C e (0, 0))) :
    (W1.freeze ⟨W.heap.size, C.size, none⟩ 1).heap = W.heap.push (.cells C e (C.size, C.size + 1)) := by
  unfold World.freeze
  simp only [Nat.one_ne_zero, if_false, hW1]
  apply Array.ext
  · simp
  · intro i h1 h2
    rw [Array.getElem_modify]
    simp only [Array.getElem_push]
    by_cases hi : i < W.heap.size
    · simp [hi, show ¬ W.heap.size = i from by omega]
    · have : i = W.heap.size := by simp at h2; omega
      subst this
      simp

theorem freeze_old (W : World) {b : Nat} {C : Array Value} {t : TypeId} {fr : Nat × Nat} (hC : W.heap[b]? = some (.cells C t fr)) (hfr : frOk fr C.size) :
    ∃ fr', (W.freeze ⟨b, C.size, none⟩ 1).heap[b]? = some (.cells C t fr') ∧ frOk fr' C.size ∧ (∀ k, k ≠ b → (W.freeze ⟨b, C.size, none⟩ 1).heap[k]? = W.heap[k]?) ∧ (W.freeze ⟨b, C.size, none⟩ 1).heap.size = W.heap.size := by
  obtain ⟨lo, hi⟩ := fr
  refine ⟨if lo == hi then (C.size, C.size + 1) else (min lo C.size, max hi (C.size + 1)), ?_, ?_, ?_, ?_⟩
  · obtain ⟨hlt, he⟩ := Array.getElem?_eq_some_iff.1 hC
    unfold World.freeze
    simp only [Nat.one_ne_zero, if_false]
    rw [Array.getElem?_eq_getElem (by simpa using hlt), Array.getElem_modify]
    simp [he]
  · rcases hfr with h | h
    · simp only at h
      rw [if_pos (by simpa using h)]
      exact .inr (Nat.le_refl _)
    · simp only at h
      by_cases e : lo = hi
      · rw [if_pos (by simpa using e)]
        exact .inr (Nat.le_refl _)
      · rw [if_neg (by simpa using e)]
        exact .inr (by simp only; omega)
  · intro k hk
    unfold World.freeze
    simp only [Nat.one_ne_zero, if_false, Array.getElem?_modify]
    rw [if_neg (fun e => hk e.symm)]
  · unfold World.freeze
    simp

theorem conv_sim (hR : Rel P b0 ρ H W) {s d : TypeId} {x v : V} {u : Value} {H' : Hp} (hx : VR ρ x u) (h : convV P s d H x = some (v, H')) : Out P b0 ρ H W ((convert s d u).run P W) v H' := by
  unfold convV at h
  split at h
  · rename_i ds k k' n hs hd
    obtain rfl : u = .int k' n := hx
    injection h with h
    injection h with h1 h2
    subst h1 h2
    exact ⟨_, W, ρ, by simp [convert, run_underlying hs, run_underlying hd, Conv.intToInt], rfl, Step.refl hR⟩
  · rename_i ds l hs hd
    obtain rfl : u = .string ⟨l.toArray⟩ := hx
    injection h with h
    injection h with h1 h2
    subst h1 h2
    exact ⟨_, W, ρ, by simp [convert, run_underlying hs, run_underlying hd], rfl, Step.refl hR⟩
  · rename_i ds e l hs hd
    obtain rfl : u = .string ⟨l.toArray⟩ := hx
    split at h
    · rename_i he
      split at h
      · rename_i hc
        injection h with h
        injection h with h1 h2
        subst h1 h2
        have hge := grownCap_ge W l.length 0 e
        have hq : (Question.appendCap l.length 0 e).cut (W.tape W.drawn (.appendCap l.length 0 e)) = grownCap W l.length 0 e := rfl
        have hcr : CellsRel ρ (l.map fun b => V.int .u8 b.toNat) (l.toArray.map (fun b : UInt8 => Value.int .u8 b.toNat) ++ Array.replicate (grownCap W l.length 0 e - l.length) (Value.int .u8 0)) 0 := by
          have := CellsRel.of (ρ := ρ) (cs := l.map fun b => V.int .u8 b.toNat) (us := l.map fun b => Value.int .u8 b.toNat) (spare := List.replicate (grownCap W l.length 0 e - l.length) (Value.int .u8 0)) (VL.map _ _ (fun b => rfl) l) (by simp; intros; rfl) []
          intro j w hj
          obtain ⟨y, hy, r⟩ := this j w hj
          refine ⟨y, ?_, r⟩
          rw [← hy]
          congr 1
          apply Array.ext'
          simp
        have hCs : (l.toArray.map (fun b : UInt8 => Value.int .u8 b.toNat) ++ Array.replicate (grownCap W l.length 0 e - l.length) (Value.int .u8 0)).size = grownCap W l.length 0 e := by simp; omega
        have hfr := freeze_heap W.drew (l.toArray.map (fun b : UInt8 => Value.int .u8 b.toNat) ++ Array.replicate (grownCap W l.length 0 e - l.length) (Value.int .u8 0)) e (W.drew.alloc (.cells (l.toArray.map (fun b : UInt8 => Value.int .u8 b.toNat) ++ Array.replicate (grownCap W l.length 0 e - l.length) (Value.int .u8 0)) e)) rfl
        have hst := hR.push hcr (fr := (_, _ + 1)) (.inr (Nat.le_refl _)) (by rw [hCs]; simpa using hge) (t := e) hfr rfl rfl rfl
        refine ⟨.slice (some ⟨W.heap.size, 0, none⟩) l.length (grownCap W l.length 0 e), _, _, ?_, ?_, hst⟩
        · simp only [convert, run_underlying hs, run_underlying hd, run_underlying he, Sem.run_bind, Result.andThen_ok, Conv.stringToBytes, run_choose, Question.forced, bytes_size, hq, newRow, run_newObj, Sem.run_pure, markStringish, run_shape]
          simp [World.shape?]
        · refine ⟨_, _, _, renAdd_same _ _ _ _, rfl, hge, .inl rfl, fun _ => ?_, ⟨rfl, ?_⟩⟩
          · rw [hCs]; show 0 + 0 + grownCap W l.length 0 e * 1 ≤ grownCap W l.length 0 e; omega
          · rw [hCs]; show 0 + 0 + grownCap W l.length 0 e * 1 = grownCap W l.length 0 e; omega
      · cases h
    · cases h
  · rename_i ds e id g off n sz cp hs hd
    split at h
    · rename_i he
      cases hr : getRow H id g with
      | none => rw [hr] at h; cases h
      | some r =>
      rw [hr] at h
      simp only [Option.bind_some] at h
      split at h
      · rename_i hc
        obtain ⟨hr2, hsd, hn⟩ := hc
        injection h with h
        injection h with h1 h2
        subst h1 h2
        subst hsd
        obtain ⟨l, a, c, hloc, rfl, hnc, ha, hcap, hcp⟩ := hx
        have ha := ha.resolve_right (by omega)
        subst ha
        obtain ⟨hid, hlo, hlb, C, t, fr, hC, hcr, hfr, hCs, hlt⟩ := row_own hR hr hr2 hloc
        obtain ⟨fr', hf1, hf2, hf3, hf4⟩ := freeze_old W hC hfr
        have hlt2 : id < H.length := (List.getElem?_eq_some_iff.1 hid).1
        have hadd : renAdd ρ id (AB.gen (.row g r.1 true)) l = ρ := by
          funext i k
          unfold renAdd
          split
          · rename_i e
            obtain ⟨rfl, rfl⟩ := e
            exact hloc.symm
          · rfl
        have hup := hR.upd (W' := W.freeze ⟨l.blk, C.size, none⟩ 1) id (.row g r.1 true) l (by omega) (fun b' hb' => by rw [hid] at hb'; injection hb' with hb'; subst hb'; exact Nat.le_refl _) (.inr hloc)
          (.inl ⟨_, l, hid, hloc, hlo, rfl⟩) hlo (fun k _ hk => hf3 k hk) (by rw [hf4]; exact Nat.le_refl _) rfl rfl rfl
          ⟨hlo, C, t, fr', hf1, by rw [hadd]; exact hcr, fun _ => ⟨hlb, hf2, hCs, hlt⟩, fun e => by cases e⟩
        rw [hadd, updH_set hlt2] at hup
        have hself : H.set id (.row g r.1 true) = H := by
          apply List.ext_getElem?
          intro i
          rw [List.getElem?_set]
          by_cases e : id = i
          · subst e; rw [if_pos rfl, if_pos hlt2, hid]
          · rw [if_neg e]
        rw [hself] at hup
        refine ⟨_, _, ρ, ?_, ⟨l, _, c, hloc, rfl, hnc, .inl rfl, hcap, hcp⟩, hup⟩
        have hshape : W.shape? l.blk = some (t, C.size) := by simp [World.shape?, hC]
        rw [hs] at hd
        injection hd with hd
        injection hd with hd
        subst hd
        simp [convert, run_underlying hs, run_underlying he, markStringish, hshape]
      · cases h
    · cases h
  · rename_i e hs hd _
    split at h
    · rename_i he
      split at h
      · obtain rfl : u = .slice none 0 0 := hx
        injection h with h
        injection h with h1 h2
        subst h1 h2
        exact ⟨_, W, ρ, run_convert_bytes_nil W s e hs he 0 0 d hd, rfl, Step.refl hR⟩
      · rename_i id g off n sz cp _
        cases hr : getRow H id g with
        | none => rw [hr] at h; cases h
        | some r =>
        rw [hr] at h
        simp only [Option.bind_some] at h
        split at h
        · rename_i hc
          obtain ⟨rfl, hfit⟩ := hc
          obtain ⟨l', hl', h⟩ := Option.map_eq_some_iff.1 h
          injection h with h1 h2
          subst h1 h2
          obtain ⟨ns, hns, rfl⟩ := bytesOf_some hl'
          obtain ⟨l, a, c, hloc, rfl, hnc, ha, _, _⟩ := hx
          obtain ⟨C, t, fr, hC, hcr, _⟩ := row_at hR hr hloc
          obtain ⟨s1, s2, s3⟩ := hcr.seg hfit
          rw [hns] at s1
          have hus := ints_of s1
          have hlen : ns.length = n := by
            have := congrArg List.length hns
            simp at this
            omega
          have hl : (loadCells a n).run P W = .ok (ns.map (Value.int .u8)).toArray W := by
            have := run_loadCells_list (P := P) W a (ns.map (Value.int .u8)) (fun j v hj => by
              have hlt := (List.getElem?_eq_some_iff.1 hj).1
              rw [List.length_map, hlen] at hlt
              have ha := ha.resolve_right (by omega)
              subst ha
              rw [add_lit]
              rw [← hus, List.getElem?_take, if_pos hlt, List.getElem?_drop] at hj
              simpa [World.cell?, hC] using hj)
            simpa [hlen] using this
          refine ⟨_, W, ρ, ?_, rfl, Step.refl hR⟩
          rw [run_convert_bytes_string W s d e _ n c hs he hd, run_bytesToString W _ n c ns hl, foldl_push_bytes]
          simp [ByteArray.empty, ByteArray.emptyWithCapacity]
          rfl
        · cases h
      · cases h
    · cases h
  · cases h

theorem src_sim_k (hR : Rel P b0 ρ H W) {x : V} {u : Value} {ys : List V} {m sz : Nat} (hx : VR ρ x u) (h : srcCells H x = some (ys, m)) (hl : ys.length = m * sz) :
    ∃ us, VL (VC ρ) ys us ∧ (Builtin.lenOf u = pure m) ∧ ∀ k, k ≤ m → (Builtin.firstCells sz k u).run P W = .ok (us.take (k * sz)).toArray W := by
  unfold srcCells at h
  split at h
  · simp only [Option.some.injEq, Prod.mk.injEq] at h
    obtain ⟨rfl, rfl⟩ := h
    have hx' : u = .slice none 0 0 := hx
    subst hx'
    exact ⟨[], trivial, rfl, fun k _ => by simp [Builtin.firstCells]⟩
  · rename_i id g off n sz' cp
    cases hr : getRow H id g with
    | none => rw [hr] at h; cases h
    | some r =>
      rw [hr] at h
      simp only [Option.bind_some] at h
      split at h
      · rename_i hfit
        simp only [Option.some.injEq, Prod.mk.injEq] at h
        obtain ⟨rfl, rfl⟩ := h
        obtain ⟨l, a, c, hloc, rfl, hnc, ha, _, _⟩ := hx
        obtain ⟨C, t, fr, hC, hcr, _⟩ := row_at hR hr hloc
        obtain ⟨s1, s2, s3⟩ := hcr.seg hfit
        refine ⟨_, s1, rfl, fun k hk => ?_⟩
        have hlen : ((C.toList.drop (l.base + off)).take (n * sz')).length = n * sz := by rw [← s1.length, hl]
        have hkn : k * sz ≤ n * sz := Nat.mul_le_mul_right _ hk
        exact run_firstCells_some (P := P) W sz k a n c _ (by rw [List.length_take, hlen]; omega) (fun j v hj => by
          have hlt := (List.getElem?_eq_some_iff.1 hj).1
          rw [List.length_take, hlen] at hlt
          have hn : n ≠ 0 := fun e => by subst e; simp at hlt
          have ha := ha.resolve_right (by omega)
          subst ha
          rw [add_lit]
          have hnn : n * sz' = n * sz := by rw [← hl]; simp; omega
          rw [List.getElem?_take, if_pos (by omega), List.getElem?_take, if_pos (by omega), List.getElem?_drop] at hj
          simpa [World.cell?, hC] using hj)
      · cases h
  · rename_i s
    simp only [Option.some.injEq, Prod.mk.injEq] at h
    obtain ⟨rfl, rfl⟩ := h
    have hx' : u = .string ⟨s.toArray⟩ := hx
    subst hx'
    refine ⟨s.map fun b => .int .u8 b.toNat, VL.map _ _ (fun b => rfl) s, ?_, fun k hk => ?_⟩
    · show (pure (⟨s.toArray⟩ : ByteArray).size : Sem Nat) = _
      congr 1
    · simp only [Builtin.firstCells, Sem.run_pure]
      congr 1
      rw [ByteArray.data_extract]
      have hs1 : sz = 1 ∨ s.length = 0 := by
        simp at hl
        rcases Nat.eq_zero_or_pos s.length with h | h
        · exact .inr h
        · left
          have : s.length * 1 = s.length * sz := by omega
          exact (Nat.eq_of_mul_eq_mul_left h this).symm
      rcases hs1 with rfl | h0
      · apply Array.ext'
        simp [List.extract_eq_take_drop, List.map_take]
      · have : s = [] := List.eq_nil_of_length_eq_zero h0
        subst this
        apply Array.ext'
        simp
  · cases h

theorem copy_sim (hR : Rel P b0 ρ H W) {t t1 ty : TypeId} {d x v : V} {ud ux : Value} {H' : Hp} (hd : VR ρ d ud) (hx : VR ρ x ux) (h : copyV P t H d x = some (v, H')) :
    Out P b0 ρ H W ((Builtin.copy_ #[t, t1] ty #[ud, ux]).run P W) v H' := by
  unfold copyV at h
  split at h
  case h_2 => cases h
  rename_i e ht
  cases hsz : szOf P e with
  | none => rw [hsz] at h; cases h
  | some sz =>
  cases hsrc : srcCells H x with
  | none => rw [hsz, hsrc] at h; cases h
  | some q =>
  obtain ⟨ys, m⟩ := q
  rw [hsz, hsrc] at h
  simp only [Option.bind_some] at h
  split at h
  · split at h
    · rename_i hyl
      simp only [Option.some.injEq, Prod.mk.injEq] at h
      obtain ⟨rfl, rfl⟩ := h
      obtain rfl : ud = .slice none 0 0 := hd
      obtain ⟨us, hnv, hlen, hfirst⟩ := src_sim_k (P := P) hR hx hsrc hyl
      have hl2 : (Builtin.lenOf ux).run P W = .ok m W := by rw [hlen]; rfl
      refine ⟨.int .i64 0, W, ρ, ?_, rfl, Step.refl hR⟩
      have h0 := hfirst 0 (Nat.zero_le _)
      simp [Builtin.copy_, run_underlying ht, hl2, run_szOf hsz, h0, goInt]
    · cases h
  · rename_i id g off n sz' cp
    cases hr : getRow H id g with
    | none => rw [hr] at h; cases h
    | some r =>
    rw [hr] at h
    simp only [Option.bind_some] at h
    split at h
    · rename_i hc
      obtain ⟨rfl, hyl, hall, hr2, hfit⟩ := hc
      simp only [Option.some.injEq, Prod.mk.injEq] at h
      obtain ⟨rfl, rfl⟩ := h
      obtain ⟨l, a, c, hloc, rfl, hnc, ha, hcap, hcp⟩ := hd
      obtain ⟨us, hnv, hlen, hfirst⟩ := src_sim_k (P := P) hR hx hsrc hyl
      have hl2 : (Builtin.lenOf ux).run P W = .ok m W := by rw [hlen]; rfl
      have hone := VL.cells' hnv hall
      obtain ⟨hid, hlo, hlb, C, t', fr, hC, hcr, hfr, hCs, hlt⟩ := row_own hR hr hr2 hloc
      have hk := hfirst (min m n) (Nat.min_le_left _ _)
      have hmn : min m n * sz' ≤ n * sz' := Nat.mul_le_mul_right _ (Nat.min_le_right _ _)
      have hmn2 : min m n * sz' ≤ m * sz' := Nat.mul_le_mul_right _ (Nat.min_le_left _ _)
      have hul : us.length = m * sz' := by rw [← hnv.length, hyl]
      have htl : (us.take (min m n * sz')).length = min m n * sz' := by rw [List.length_take, hul]; omega
      have htl2 : (ys.take (min m n * sz')).length = min m n * sz' := by rw [List.length_take, hyl]; omega
      have hone2 : ∀ u ∈ us.take (min m n * sz'), u.oneCell' = true := fun u hu => hone u (List.mem_of_mem_take hu)
      have hst := run_storeF (P := P) (g := l.blk) (o := l.base + off) (t := t') (fr := fr) (us.take (min m n * sz')) 0 C W hC hfr (by omega) hone2
      simp only [Nat.add_zero] at hst
      have hset := hcr.set (off := off) (hnv.take (min m n * sz')) hone2 (by omega) (by omega)
      refine ⟨.int .i64 (min m n : Nat), _, ρ, ?_, rfl, hR.put hid rfl hloc hset (by simp; omega) (by rw [setAt_length _ _ _ (by omega)]; omega)⟩
      by_cases hc0 : c = 0
      · have hn0 : n = 0 := by omega
        subst hn0
        have hz : us.take (min m 0 * sz') = [] := by simp
        have hset0 : W.setRow l.blk (C.toList.take (l.base + off) ++ us.take (min m 0 * sz') ++ C.toList.drop (l.base + off + (us.take (min m 0 * sz')).length)).toArray = W := by
          rw [hz]
          simp
          exact setRow_self W l.blk C t' fr hC
        rw [hset0]
        have hk0 : (Builtin.firstCells sz' 0 ux).run P W = .ok #[] W := by simpa using hfirst 0 (Nat.zero_le _)
        simp [Builtin.copy_, run_underlying ht, hl2, run_szOf hsz, hk0, goInt, storeCells]
      · have ha := ha.resolve_right hc0
        subst ha
        have hnm : Nat.min m n = min m n := rfl
        simp [Builtin.copy_, run_underlying ht, hl2, run_szOf hsz, hnm, hk, goInt, hst]
    · cases h
  · cases h
end
end Go.Am
