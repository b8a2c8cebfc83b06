/-
  The abstract machine, part F: append, copy, make, held against the model. No statement of the seat stands here.
-/
import Derived.Test.YtdpdlobaabcjjaaAmE
namespace Go.Am
open Go

section
variable {P : Program} {b0 : Nat} {ρ : Ren} {H : Hp} {W : World}

theorem cells_take {cs : List V} {us : List Value} {C : Array Value} {k : Nat} (h : VL (VC ρ) cs us) (h1 : ∀ u ∈ us, u.oneCell' = true) (hk : C.toList.take k = us) : CellsRel ρ cs C 0 := by
  intro j v hj
  obtain ⟨u, hu, r⟩ := h.get j hj
  refine ⟨u, ?_, r, h1 u (List.mem_of_getElem? hu)⟩
  rw [← hk, List.getElem?_take] at hu
  split at hu
  · rw [Nat.zero_add]; simpa using hu
  · cases hu

theorem append_sim (hR : Rel P b0 ρ H W) {t t1 ty : TypeId} {d1 : TypeDesc} {s x v : V} {us ux : Value} {H' : Hp} (hs : VR ρ s us) (hx : VR ρ x ux) (ht1 : P.underlying t1 = some d1) (hd1 : ∀ k, d1 ≠ .int k)
    (h : appendV P t H s x = some (v, H')) : Out P b0 ρ H W ((Builtin.append_ #[t, t1] ty #[us, ux]).run P W) v H' := by
  unfold appendV at h
  split at h
  case h_2 => cases h
  rename_i e ht
  cases hsz : szOf P e with
  | none => rw [hsz] at h; cases h
  | some sz =>
  cases hby : bytesOf' P e with
  | none => rw [hsz, hby] at h; cases h
  | some by_ =>
  cases hz : zeroV P e with
  | none => rw [hsz, hby, hz] at h; cases h
  | some z =>
  cases hsrc : srcCells H x with
  | none => rw [hsz, hby, hz, hsrc] at h; cases h
  | some q =>
  obtain ⟨ys, m⟩ := q
  rw [hsz, hby, hz, hsrc] at h
  simp only [Option.bind_some] at h
  split at h
  case isFalse => cases h
  rename_i hc
  obtain ⟨hsz0, hzl, hyl, hall⟩ := hc
  obtain ⟨news, hnv, hlen, hfirst⟩ := src_sim (P := P) hR hx hsrc hyl
  have hnl : news.length = m * sz := by rw [← hnv.length, hyl]
  have hone := VL.cells' hnv hall
  split at h
  · -- nil
    have hs' : us = .slice none 0 0 := hs
    subst hs'
    split at h
    · rename_i hm
      subst hm
      simp only [Option.some.injEq, Prod.mk.injEq] at h
      obtain ⟨rfl, rfl⟩ := h
      exact ⟨_, W, ρ, run_room_none ht ht1 hd1 hsz ux news hlen (hfirst W rfl), rfl, Step.refl hR⟩
    · rename_i hm
      split at h
      · rename_i hb
        simp only [Option.some.injEq, Prod.mk.injEq] at h
        obtain ⟨rfl, rfl⟩ := h
        obtain ⟨c, hcm, C, hCs, htake, hrun⟩ := run_grow (W := W) (ty := ty) ht ht1 hd1 hsz hby hz hzl none 0 0 m ux [] news (by simp) hnl hlen (hfirst W.drew rfl) (by simp [Builtin.firstCells]) (by omega) (by rw [Nat.zero_add]; exact hb.1) (by omega)
        rw [Nat.zero_add] at hcm hrun htake
        have hcr : CellsRel ρ ys C 0 := cells_take hnv hone htake
        have hst := hR.push (W' := W.drew.alloc (.cells C e)) hcr (frOk0 _) (by rw [hyl, hCs]; exact Nat.mul_le_mul_right _ hcm) (t := e) (fr := (0, 0)) rfl rfl rfl rfl
        refine ⟨_, _, _, hrun, ⟨_, ⟨W.heap.size, 0, none⟩, c, renAdd_same _ _ _ _, rfl, hcm, .inl rfl, fun _ => ?_, ⟨rfl, ?_⟩⟩, hst⟩
        · show 0 + 0 + c * sz ≤ C.size; omega
        · show 0 + 0 + c * sz = C.size; omega
      · cases h
  · rename_i id g off n sz' cp
    cases hr : getRow H id g with
    | none => rw [hr] at h; cases h
    | some r =>
    rw [hr] at h
    simp only [Option.bind_some] at h
    split at h
    case isFalse => cases h
    rename_i hc
    obtain ⟨hss, hb1, hb2, hfit⟩ := hc
    subst hss
    have hs0 := hs
    obtain ⟨l, a, c, hloc, hus, hnc, ha, hcap, hcp⟩ := hs
    split at h
    · -- nothing is appended
      rename_i hm
      subst hm
      simp only [Option.some.injEq, Prod.mk.injEq] at h
      obtain ⟨rfl, rfl⟩ := h
      have hn0 : news = [] := List.eq_nil_of_length_eq_zero (by simpa using hnl)
      subst hn0
      subst hus
      refine ⟨_, W, ρ, run_room (W' := W) ht ht1 hd1 hsz a n c 0 ux [] hlen (hfirst W rfl) (by omega) rfl, ?_, Step.refl hR⟩
      exact ⟨l, a, c, hloc, rfl, by omega, ha, hcap, hcp⟩
    · rename_i hm
      have hself : srcCells H (.slice id g off n sz' cp) = some ((r.1.drop off).take (n * sz'), n) := by
        simp only [srcCells, hr, Option.bind_some]
        rw [if_pos hfit]
      have hol : ((r.1.drop off).take (n * sz')).length = n * sz' := by simp; omega
      obtain ⟨olds, hov, holen, hofirst⟩ := src_sim (P := P) hR hs0 hself hol
      have holl : olds.length = n * sz' := by rw [← hov.length, hol]
      have hseg := row_at hR hr hloc
      obtain ⟨C0, t0, fr0, hC0, hcr0, hown0⟩ := hseg
      subst hus
      have hoone : ∀ u ∈ olds, u.oneCell' = true := by
        obtain ⟨s1, _, s3⟩ := hcr0.seg hfit
        intro u hu
        have e1 := hofirst W rfl
        obtain ⟨s1, _, s3⟩ := hcr0.seg hfit
        have hl2 : ((C0.toList.drop (l.base + off)).take (n * sz')).length = n * sz' := by rw [← s1.length, hol]
        have e2 := run_firstCells_some (P := P) W sz' n a n c _ hl2 (fun j v hj => by
          have hlt := (List.getElem?_eq_some_iff.1 hj).1
          rw [hl2] at hlt
          have hn : n ≠ 0 := fun e => by subst e; simp at hlt
          rcases ha with rfl | h0
          · rw [add_lit]
            rw [List.getElem?_take, if_pos hlt, List.getElem?_drop] at hj
            simpa [World.cell?, hC0] using hj
          · omega)
        rw [e2] at e1
        injection e1 with e1 _
        have e3 : olds = (C0.toList.drop (l.base + off)).take (n * sz') := by
          have := congrArg Array.toList e1
          simpa using this.symm
        exact s3 u (e3 ▸ hu)
      have grow : c < n + m → ∃ c', n + m ≤ c' ∧ ∃ C : Array Value, C.size = c' * sz' ∧ C.toList.take ((n + m) * sz') = olds ++ news ∧
          (Builtin.append_ #[t, t1] ty #[.slice (some a) n c, ux]).run P W = .ok (.slice (some ⟨W.heap.size, 0, none⟩) (n + m) c') (W.drew.alloc (.cells C e)) :=
        fun hg => run_grow (W := W) (ty := ty) ht ht1 hd1 hsz hby hz hzl (some a) n c m ux olds news holl hnl hlen (hfirst W.drew rfl) (hofirst W.drew rfl) hg hb1 hb2
      have hon : ∀ u ∈ olds ++ news, u.oneCell' = true := fun u hu => (List.mem_append.1 hu).elim (hoone u) (hone u)
      split at h
      · -- an exact capacity
        rename_i k
        split at h
        · rename_i hk
          subst hk
          simp only [Option.some.injEq, Prod.mk.injEq] at h
          obtain ⟨rfl, rfl⟩ := h
          have hck : c = k := hcp
          obtain ⟨c', hcm, C, hCs, htake, hrun⟩ := grow (by omega)
          have hcr : CellsRel ρ ((r.1.drop off).take (k * sz') ++ ys) C 0 := cells_take (hov.append hnv) hon htake
          have hst := hR.push (W' := W.drew.alloc (.cells C e)) hcr (frOk0 _) (by rw [List.length_append, hol, hyl, hCs, ← Nat.add_mul]; exact Nat.mul_le_mul_right _ hcm) (t := e) (fr := (0, 0)) rfl rfl rfl rfl
          refine ⟨_, _, _, hrun, ⟨_, ⟨W.heap.size, 0, none⟩, c', renAdd_same _ _ _ _, rfl, hcm, .inl rfl, fun _ => ?_, ⟨rfl, ?_⟩⟩, hst⟩
          · show 0 + 0 + c' * sz' ≤ C.size; omega
          · show 0 + 0 + c' * sz' = C.size; omega
        · cases h
      · -- up to the end
        split at h
        case isFalse => cases h
        rename_i hr2
        obtain ⟨hid, hlo, hlb, C1, t1', fr1, hC1, hcr1, hfr1, hCs1, hlt1⟩ := row_own hR hr hr2 hloc
        obtain ⟨_, hcp⟩ := hcp
        split at h
        · -- in place, over what is known
          rename_i hA
          simp only [Option.some.injEq, Prod.mk.injEq] at h
          obtain ⟨rfl, rfl⟩ := h
          have hmul : (n + m) * sz' ≤ c * sz' := by omega
          have hroom : n + m ≤ c := Nat.le_of_mul_le_mul_right hmul hsz0
          have ha := ha.resolve_right (by omega)
          subst ha
          have e1 : (n + m) * sz' = n * sz' + m * sz' := Nat.add_mul _ _ _
          have hst := run_storeF (P := P) (g := l.blk) (o := l.base + off + n * sz') (t := t1') (fr := fr1) news 0 C1 W hC1 hfr1 (by omega) hone
          have hrun := run_room (ty := ty) ht ht1 hd1 hsz ⟨l.blk, l.base + off, none⟩ n c m ux news hlen (hfirst W rfl) hroom (by rw [add_lit]; exact hst)
          simp only [Nat.add_zero] at hrun
          have hset := hcr1.set (off := off + n * sz') hnv hone (by omega) (by omega)
          rw [← Nat.add_assoc] at hset
          refine ⟨_, _, ρ, hrun, ⟨l, _, c, hloc, rfl, hroom, .inl rfl, hcap, ⟨hlo, hcp⟩⟩, hR.put hid rfl hloc hset (by simp; omega) (by rw [setAt_length _ _ _ (by omega)]; omega)⟩
        · split at h
          · -- at the end
            rename_i hA hB
            simp only [Option.some.injEq, Prod.mk.injEq] at h
            obtain ⟨rfl, rfl⟩ := h
            have hlt : id < H.length := (List.getElem?_eq_some_iff.1 hid).1
            have htk : (r.1.drop off).take (n * sz') = r.1.drop off := List.take_of_length_le (by simp; omega)
            rw [htk] at hov hol
            have hnone : ρ id (g + 1) = none := hR.gen id _ (g + 1) hid (by simp [AB.gen])
            have e1 : (n + m) * sz' = n * sz' + m * sz' := Nat.add_mul _ _ _
            have hlen2 : (r.1.drop off ++ ys).length = (n + m) * sz' := by rw [List.length_append, hol, hyl, e1]
            by_cases hroom : n + m ≤ c
            · have ha := ha.resolve_right (by omega)
              subst ha
              have hmul : (n + m) * sz' ≤ c * sz' := Nat.mul_le_mul_right _ hroom
              have hst := run_storeF (P := P) (g := l.blk) (o := l.base + off + n * sz') (t := t1') (fr := fr1) news 0 C1 W hC1 hfr1 (by omega) hone
              have hrun := run_room (ty := ty) ht ht1 hd1 hsz ⟨l.blk, l.base + off, none⟩ n c m ux news hlen (hfirst W rfl) hroom (by rw [add_lit]; exact hst)
              simp only [Nat.add_zero] at hrun
              have hcr : CellsRel ρ (r.1.drop off ++ ys) (C1.toList.take (l.base + off + n * sz') ++ news ++ C1.toList.drop (l.base + off + n * sz' + news.length)).toArray (l.base + off) := by
                intro j v hj
                simp only [List.getElem?_toArray]
                rw [get_set3 _ _ _ _ (by simp; omega)]
                rw [List.getElem?_append] at hj
                split at hj
                · rename_i hj1
                  rw [hol] at hj1
                  rw [if_pos (by omega)]
                  rw [List.getElem?_drop] at hj
                  obtain ⟨u, hu, q⟩ := hcr1 _ _ hj
                  exact ⟨u, by rw [← Nat.add_assoc] at hu; simpa using hu, q⟩
                · rename_i hj1
                  rw [hol] at hj1 hj
                  obtain ⟨u, hu, q⟩ := hnv.get _ hj
                  have hlt := (List.getElem?_eq_some_iff.1 hu).1
                  rw [if_neg (by omega), if_pos (by omega)]
                  rw [show l.base + off + j - (l.base + off + n * sz') = j - n * sz' from by omega]
                  exact ⟨u, hu, q, hone u (List.mem_of_getElem? hu)⟩
              have hup := hR.upd (W' := W.setRow l.blk (C1.toList.take (l.base + off + n * sz') ++ news ++ C1.toList.drop (l.base + off + n * sz' + news.length)).toArray) id (.row (g + 1) (r.1.drop off ++ ys) true) ⟨l.blk, l.base + off, l.tot, true⟩ (by omega)
                (fun b' hb' => by rw [hid] at hb'; injection hb' with hb'; subst hb'; simp [AB.gen]) (.inl hnone) (.inl ⟨_, l, hid, hloc, hlo, rfl⟩) rfl (fun k _ hk => setRow_other W l.blk k _ hk) (by simp) rfl rfl rfl
                ⟨rfl, _, t1', fr1, setRow_heap W _ _ _ _ _ hC1, hcr.mono (renAdd_le (.inl hnone)), fun _ => ⟨hlb, hfr1.elim .inl (fun h => .inr (by simp; omega)), by simp; omega, by rw [hlen2]; simp; omega⟩, fun e => by cases e⟩
              rw [updH_set hlt] at hup
              refine ⟨_, _, _, hrun, ⟨_, _, c, renAdd_same _ _ _ _, rfl, hroom, .inl (by simp), fun _ => ?_, ⟨rfl, ?_⟩⟩, hup⟩
              · show l.base + off + 0 + c * sz' ≤ l.tot; omega
              · show l.base + off + 0 + c * sz' = l.tot; omega
            · obtain ⟨c', hcm, C, hCs, htake, hrun⟩ := grow (by omega)
              have hcr : CellsRel ρ (r.1.drop off ++ ys) C 0 := cells_take (hov.append hnv) hon htake
              have hmul : (n + m) * sz' ≤ c' * sz' := Nat.mul_le_mul_right _ hcm
              have hup := hR.upd (W' := W.drew.alloc (.cells C e)) id (.row (g + 1) (r.1.drop off ++ ys) true) ⟨W.heap.size, 0, C.size, true⟩ (by omega)
                (fun b' hb' => by rw [hid] at hb'; injection hb' with hb'; subst hb'; simp [AB.gen]) (.inl hnone) (.inr (Nat.le_refl _)) rfl
                (fun k hk _ => by have := heap_alloc_old W.drew (Obj.cells C e) (r := k) hk; exact this) (by simp) rfl rfl rfl
                ⟨rfl, C, e, (0, 0), heap_alloc_new W.drew _, hcr.mono (renAdd_le (.inl hnone)), fun _ => ⟨hR.size, frOk0 _, rfl, by rw [hlen2]; simp; omega⟩, fun e => by cases e⟩
              rw [updH_set hlt] at hup
              refine ⟨_, _, _, hrun, ⟨_, _, c', renAdd_same _ _ _ _, rfl, hcm, .inl rfl, fun _ => ?_, ⟨rfl, ?_⟩⟩, hup⟩
              · show 0 + 0 + c' * sz' ≤ C.size; omega
              · show 0 + 0 + c' * sz' = C.size; omega
          · cases h
      · cases h
  · cases h
end
end Go.Am
