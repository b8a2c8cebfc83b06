/-
  The abstract machine, part V: the arguments of a call, read whole; what a call of a law comes to. No statement of the seat stands here.
-/
import Derived.Test.YtdpdlobaabcjjaaAmU
namespace Go.Am
open Go

section
variable {P : Program} {b0 : Nat} {ρ : Ren} {W : World}

theorem RdT.isCell {H : Hp} : ∀ (f : Nat) {t : TypeId} {xs : List V}, RdT P H f t xs → ∀ x ∈ xs, x.isCell = true
  | 0, _, _, h => h.elim
  | f + 1, t, xs, h => by
    have flat : ∀ {xss : List (List V)}, (∀ y ∈ xss, ∀ x ∈ y, x.isCell = true) → ∀ x ∈ xss.flatten, x.isCell = true := by
      intro xss hy x hx
      obtain ⟨y, h1, h2⟩ := List.mem_flatten.1 hx
      exact hy y h1 x h2
    unfold RdT at h
    split at h
    · obtain ⟨b, rfl⟩ := h; simp [V.isCell]
    · obtain ⟨n, rfl, _⟩ := h; simp [V.isCell]
    · obtain ⟨s, rfl, _⟩ := h; simp [V.isCell]
    · rcases h with rfl | ⟨id, xss, rfl, _⟩ <;> simp [V.isCell]
    · obtain ⟨xss, rfl, hl, h3⟩ := h
      refine flat fun y hy => ?_
      obtain ⟨i, hi⟩ := List.getElem?_of_mem hy
      have hlt : i < Array.size _ := hl ▸ (List.getElem?_eq_some_iff.1 hi).1
      exact RdT.isCell f (h3 i _ y (Array.getElem?_eq_getElem hlt) hi).2
    · obtain ⟨xss, rfl, hl, h3⟩ := h
      exact flat fun y hy => RdT.isCell f (h3 y hy).2
    · exact h.elim

theorem flat_get {α : Type} {z : Nat} (hz : 0 < z) : ∀ (css : List (List α)), (∀ c ∈ css, c.length = z) → ∀ j : Nat, css.flatten[j]? = (css[j / z]?).bind fun c => c[j % z]?
  | [], _, j => by simp
  | c :: css, h, j => by
    have hc := h c (by simp)
    rw [List.flatten_cons, List.getElem?_append]
    split
    · rename_i hlt
      rw [hc] at hlt
      rw [Nat.div_eq_of_lt hlt, Nat.mod_eq_of_lt hlt]
      rfl
    · rename_i hge
      rw [hc] at hge ⊢
      rw [flat_get hz css (fun d hd => h d (by simp [hd]))]
      obtain ⟨k, rfl⟩ : ∃ k, j = k + z := ⟨j - z, by omega⟩
      rw [Nat.add_sub_cancel, Nat.add_div_right _ hz, Nat.add_mod_right]
      rfl

theorem weights_all {Hh : Type} {e : TypeId} : ∀ {ds : List (DataW Hh)} {d : DataW Hh}, d ∈ ds → ∀ x ∈ d.weights P e, x ∈ DataW.weightsAll P e ds
  | d0 :: ds, d, hd, x, hx => by
    rw [DataW.weightsAll]
    rcases List.mem_cons.1 hd with rfl | hd
    · exact List.mem_append_left _ hx
    · exact List.mem_append_right _ (weights_all hd x hx)
theorem weights_each {Hh : Type} : ∀ {ts : List TypeId} {ds : List (DataW Hh)} {i : Nat} {t : TypeId} {d : DataW Hh}, ts[i]? = some t → ds[i]? = some d → ∀ x ∈ d.weights P t, x ∈ DataW.weightsEach P ts ds
  | t0 :: ts, d0 :: ds, i, t, d, ht, hd, x, hx => by
    rw [DataW.weightsEach]
    cases i with
    | zero =>
      simp at ht hd
      subst ht hd
      exact List.mem_append_left _ hx
    | succ i => exact List.mem_append_right _ (weights_each (by simpa using ht) (by simpa using hd) x hx)
  | [], _, i, _, _, ht, _, _, _ => by simp at ht
  | _ :: _, [], i, _, _, _, hd, _, _ => by simp at hd

theorem cells_get {a : Addr} {n : Nat} {cs : List Value} (h : W.cells? 0 a n = some cs) : cs.length = n ∧ ∀ j, j < n → W.cell? (a.add j) = cs[j]? := by
  unfold World.cells? at h
  rw [if_pos (Nat.zero_le _)] at h
  obtain ⟨h1, h2⟩ := mapM_get h
  rw [List.length_range] at h1
  refine ⟨h1, fun j hj => ?_⟩
  obtain ⟨y, hy, e⟩ := h2 j j (by rw [List.getElem?_range hj])
  rw [hy, e]
theorem cell_at {a : Addr} {v : Value} (h : W.cell? a = some v) : a.spot = none ∧ ∃ C te fr, W.heap[a.block]? = some (.cells C te fr) := by
  unfold World.cell? at h
  split at h
  · rename_i C te fr hC
    split at h
    · cases h
    · rename_i hs
      exact ⟨by simpa using hs, C, te, fr, hC⟩
  · cases h
theorem cell_lit {b o : Nat} {C : Array Value} {te : TypeId} {fr : Nat × Nat} (hC : W.heap[b]? = some (.cells C te fr)) : W.cell? ⟨b, o, none⟩ = C[o]? := by
  simp [World.cell?, hC]

theorem abs_cells {Hh : Type} {enc : TypeId × Value → Hh} (hb : b0 = W.heap.size) : ∀ (m f : Nat) (t : TypeId) (cs : List Value) (d : DataW Hh) (ps : List MemPlace), DataW.trod enc P W 0 (fun _ => true) true f t cs = some (d, ps) → plainT P m t = true →
    (∀ x ∈ d.weights P t, x ≤ reachBytes) → Hex b0 W cs → Abs P b0 W m t cs
  | 0, _, _, _, _, _, _, h, _, _ => by cases h
  | m + 1, f, t, cs, d, ps, h, hp, hw, hx => by
    intro ρ H hR
    unfold plainT at hp
    split at hp
    · rename_i hu
      obtain ⟨b, rfl, e⟩ := DataW.trod_bool hu h
      refine ⟨ρ, [], [.bool b], Ren.Le.refl _, by simpa using hR, (fun b hb => by cases hb), ⟨rfl, trivial⟩, ?_⟩
      unfold RdT
      rw [hu]
      exact ⟨b, rfl⟩
    · rename_i k hu
      obtain ⟨n, rfl, e, hwf⟩ := DataW.trod_int hu h
      refine ⟨ρ, [], [.int k n], Ren.Le.refl _, by simpa using hR, (fun b hb => by cases hb), ⟨rfl, trivial⟩, ?_⟩
      unfold RdT
      rw [hu]
      exact ⟨n, rfl, hwf⟩
    · rename_i hu
      obtain ⟨s, rfl, e, _⟩ := DataW.trod_string hu h
      injection e with e1 e2
      refine ⟨ρ, [], [.str s.data.toList], Ren.Le.refl _, by simpa using hR, (fun b hb => by cases hb), ⟨by simp [VC, VB], trivial⟩, ?_⟩
      unfold RdT
      rw [hu]
      refine ⟨_, rfl, ?_⟩
      rw [e1, DataW.weights] at hw
      exact hw _ (by simp)
    · rename_i e hu
      simp only [Bool.and_eq_true, decide_eq_true_eq] at hp
      obtain ⟨hz, hpe⟩ := hp
      rcases DataW.trod_slice hu h with ⟨rfl, _⟩ | ⟨a, len, cap, elems, rest, n, rfl, rfl, e1, _, hlc, hcm, hel, hget, hrest, _⟩
      · refine ⟨ρ, [], [.nilslice], Ren.Le.refl _, by simpa using hR, (fun b hb => by cases hb), ⟨rfl, trivial⟩, ?_⟩
        unfold RdT
        rw [hu]
        exact .inl rfl
      · injection e1 with e1 e2
        rw [e1, DataW.weights, hu] at hw
        simp only at hw
        obtain ⟨hr1, hr2⟩ := hrest rfl
        -- the place
        have hplace : ∃ k C te fr, k < b0 ∧ W.heap[k]? = some (.cells C te fr) ∧ (cap = 0 ∨ (a.spot = none ∧ a.block = k)) := by
          rcases Nat.eq_zero_or_pos cap with h0 | hpos
          · obtain ⟨k, C, te, fr, h1, h2⟩ := hx a len cap (by simp)
            exact ⟨k, C, te, fr, h1, h2, .inl h0⟩
          · have : ∃ y, (W.cells? 0 (a.add (0 * P.cellsOf e)) (P.cellsOf e)).bind (DataW.trod enc P W 0 (fun _ => true) true n e) = some y := by
              rcases Nat.eq_zero_or_pos len with h1 | h1
              · have := hr2 0 (by omega)
                rw [h1, Nat.add_zero] at this
                rw [this]
                exact ⟨rest[0]'(by omega), by simp⟩
              · rw [hget 0 h1]
                exact ⟨elems[0]'(by omega), by simp⟩
            obtain ⟨y, hy⟩ := this
            obtain ⟨cs0, hc0, _⟩ := Option.bind_eq_some_iff.1 hy
            obtain ⟨h2, h3⟩ := cells_get hc0
            have h4 := h3 0 hz
            rw [Nat.zero_mul] at h4
            have h5 : (a.add 0).add 0 = a := rfl
            rw [h5, List.getElem?_eq_getElem (by omega)] at h4
            obtain ⟨h6, C, te, fr, h7⟩ := cell_at h4
            refine ⟨a.block, C, te, fr, ?_, h7, .inr ⟨h6, rfl⟩⟩
            rw [hb]
            exact (Array.getElem?_eq_some_iff.1 h7).1
        obtain ⟨kb, C, te, fr, hkb, hC, hca⟩ := hplace
        -- the elements
        let css : List (List Value) := (List.range len).map fun i => (W.cells? 0 (a.add (i * P.cellsOf e)) (P.cellsOf e)).getD []
        have hcss : ∀ i, i < len → ∃ c, css[i]? = some c ∧ W.cells? 0 (a.add (i * P.cellsOf e)) (P.cellsOf e) = some c ∧ ∃ y, elems[i]? = some y ∧ DataW.trod enc P W 0 (fun _ => true) true n e c = some y := by
          intro i hi
          have h1 := hget i hi
          rw [List.getElem?_eq_getElem (by omega)] at h1
          obtain ⟨c, hc, hy⟩ := Option.bind_eq_some_iff.1 h1
          refine ⟨c, ?_, hc, _, List.getElem?_eq_getElem (by omega), hy⟩
          show ((List.range len).map _)[i]? = _
          rw [List.getElem?_map, List.getElem?_range hi, Option.map_some, hc]
          rfl
        have hcl : css.length = len := by simp [css]
        have hone : ∀ c ∈ css, c.length = P.cellsOf e := by
          intro c hc
          obtain ⟨i, hi⟩ := List.getElem?_of_mem hc
          have hlt : i < len := hcl ▸ (List.getElem?_eq_some_iff.1 hi).1
          obtain ⟨c', h1, h2, _⟩ := hcss i hlt
          rw [hi] at h1
          injection h1 with h1
          subst h1
          exact (cells_get h2).1
        obtain ⟨ρ1, H1, xss, hle, hR1, hS1, hlx, hxs⟩ := abs_many (P := P) (b0 := b0) (W := W) (f := m) (css.map fun c => (e, c)) (by
          intro p hp
          obtain ⟨c, hc, rfl⟩ := List.mem_map.1 hp
          obtain ⟨i, hi⟩ := List.getElem?_of_mem hc
          have hlt : i < len := hcl ▸ (List.getElem?_eq_some_iff.1 hi).1
          obtain ⟨c', h1, h2, y, h3, h4⟩ := hcss i hlt
          rw [hi] at h1
          injection h1 with h1
          subst h1
          refine abs_cells hb m n e c y.1 y.2 h4 hpe (fun x hx' => hw x (List.mem_cons_of_mem _ (List.mem_append_left _ ?_))) (fun _ _ _ _ => ⟨kb, C, te, fr, hkb, hC⟩)
          exact weights_all (List.mem_map.2 ⟨y, List.mem_of_getElem? h3, rfl⟩) x hx') ρ H hR
        rw [List.length_map, hcl] at hlx
        have hxs' : ∀ (i : Nat) (x : List V), xss[i]? = some x → ∃ c, css[i]? = some c ∧ VL (VC ρ1) x c ∧ RdT P (H ++ H1) m e x := by
          intro i x hxi
          have hlt : i < css.length := by rw [hcl, ← hlx]; exact (List.getElem?_eq_some_iff.1 hxi).1
          obtain ⟨x', h1, h2, h3⟩ := hxs i (e, css[i]) (by rw [List.getElem?_map, List.getElem?_eq_getElem hlt]; rfl)
          rw [hxi] at h1
          injection h1 with h1
          subst h1
          exact ⟨css[i], List.getElem?_eq_getElem hlt, h2, h3⟩
        have hflat : VL (VC ρ1) xss.flatten css.flatten := VL.flat (by rw [hlx, hcl]) fun i x c h1 h2 => by
          obtain ⟨c', h3, h4, _⟩ := hxs' i x h1
          rw [h2] at h3
          injection h3 with h3
          exact h3 ▸ h4
        have hcells : ∀ j u, css.flatten[j]? = some u → C[a.off + j]? = some u := by
          intro j u hj
          rw [flat_get hz css hone] at hj
          obtain ⟨c, h1, h2⟩ := Option.bind_eq_some_iff.1 hj
          have hlt : j / P.cellsOf e < len := hcl ▸ (List.getElem?_eq_some_iff.1 h1).1
          obtain ⟨c', h3, h4, _⟩ := hcss _ hlt
          rw [h1] at h3
          injection h3 with h3
          subst h3
          have h5 := (cells_get h4).2 (j % P.cellsOf e) (Nat.mod_lt _ hz)
          rw [h2] at h5
          rcases hca with h0 | ⟨hs, hk⟩
          · rw [show len = 0 from by omega] at hlt
            exact absurd hlt (Nat.not_lt_zero _)
          · have h6 : (a.add (j / P.cellsOf e * P.cellsOf e)).add (j % P.cellsOf e) = ⟨kb, a.off + j, none⟩ := by
              have h7 := Nat.div_add_mod' j (P.cellsOf e)
              have ha : a = ⟨kb, a.off, none⟩ := by cases a; simp_all
              rw [ha, add_lit, add_lit]
              congr 1
              simp only
              omega
            rw [h6, cell_lit hC] at h5
            exact h5
        have hsh := Rel.share (cs := xss.flatten) (l := ⟨kb, a.off, 0, false⟩) hR1 rfl hC hkb (fun j v hv => by
          obtain ⟨u, h1, h2⟩ := hflat.get j hv
          refine ⟨u, hcells j u h1, h2, ?_⟩
          obtain ⟨x, h3, h4⟩ := List.mem_flatten.1 (List.mem_of_getElem? hv)
          obtain ⟨i, hi⟩ := List.getElem?_of_mem h3
          obtain ⟨_, _, _, h5⟩ := hxs' i x hi
          have hc := h5.isCell m v h4
          exact ((h2.va hc).cell hc).2)
        rw [List.append_assoc] at hsh
        refine ⟨_, H1 ++ [.row 0 xss.flatten false], [.slice (H ++ H1).length 0 0 xss.length (P.cellsOf e) .unk], hle.trans hsh.2, hsh.1, fun b hb => ?_, ⟨⟨⟨kb, a.off, 0, false⟩, a, cap, renAdd_same _ _ _ _, by rw [hlx], by rw [hlx]; exact hlc, ?_, (fun e => by cases e), trivial⟩, trivial⟩, ?_⟩
        · rcases List.mem_append.1 hb with hb | hb
          · exact hS1 b hb
          · exact ⟨_, List.mem_singleton.1 hb⟩
        · rcases hca with h0 | ⟨hs, hk⟩
          · exact .inr h0
          · have ha : a = ⟨kb, a.off, none⟩ := by cases a; simp_all
            exact .inl ha
        · unfold RdT
          rw [hu]
          refine .inr ⟨_, xss, rfl, ?_, ?_, by rw [hlx]; omega, fun x hx' => ?_⟩
          · unfold getRow
            rw [← List.append_assoc, List.getElem?_append_right (Nat.le_refl _)]
            simp
          · rw [hlx]
            have := hw _ List.mem_cons_self
            refine Nat.le_trans (Nat.mul_le_mul_right _ ?_) this
            rw [List.length_map, hel]; omega
          · obtain ⟨i, hi⟩ := List.getElem?_of_mem hx'
            obtain ⟨c, h1, h2, h3⟩ := hxs' i x hi
            refine ⟨h2.length.trans (hone c (List.mem_of_getElem? h1)), ?_⟩
            rw [← List.append_assoc]
            exact h3.mono (app_keep _ _) m
    · rename_i fs hu
      simp only [Bool.and_eq_true, beq_iff_eq, List.all_eq_true] at hp
      obtain ⟨hti, hpl⟩ := hp
      obtain ⟨xs, n, rfl, e1, hlen, hxl, hget⟩ := DataW.trod_struct hu h
      injection e1 with e1 _
      rw [e1, DataW.weights, hu] at hw
      simp only at hw
      obtain ⟨hfl, hbound⟩ := tiles_cut fs.toList 0 _ cs hti hlen (Nat.zero_le _)
      obtain ⟨ρ1, H1, xss, hle, hR1, hS1, hlx, hxs⟩ := abs_many (P := P) (b0 := b0) (W := W) (f := m) (fs.toList.map fun f => (f.type, (cs.drop f.offset).take (P.cellsOf f.type))) (by
        intro p hp
        obtain ⟨fl, hfm, rfl⟩ := List.mem_map.1 hp
        obtain ⟨i, hi⟩ := List.getElem?_of_mem hfm
        have hi' : fs[i]? = some fl := by simpa using hi
        have hg := hget i fl hi'
        have hlt : i < xs.length := by rw [hxl]; exact (Array.getElem?_eq_some_iff.1 hi').1
        rw [List.getElem?_eq_getElem hlt] at hg
        refine abs_cells hb m n fl.type _ _ _ hg (hpl fl hfm) (fun x hx' => hw x (weights_each (i := i) (t := fl.type) ?_ ?_ x hx')) (fun a c d hm => hx a c d (List.mem_of_mem_drop (List.mem_of_mem_take hm)))
        · rw [List.getElem?_map, hi]; rfl
        · rw [List.getElem?_map, List.getElem?_eq_getElem hlt]; rfl) ρ H hR
      rw [List.length_map] at hlx
      refine ⟨ρ1, H1, xss.flatten, hle, hR1, hS1, ?_, ?_⟩
      · rw [List.drop_zero] at hfl
        rw [← hfl]
        refine VL.flat (by simp [hlx]) fun i x c h1 h2 => ?_
        rw [List.getElem?_map] at h2
        obtain ⟨fl, h3, rfl⟩ := Option.map_eq_some_iff.1 h2
        obtain ⟨x', h4, h5, _⟩ := hxs i _ (by rw [List.getElem?_map, h3]; rfl)
        rw [h1] at h4
        injection h4 with h4
        exact h4 ▸ h5
      · unfold RdT
        rw [hu]
        refine ⟨xss, rfl, by simpa using hlx, fun i fl x h1 h2 => ?_⟩
        have h3 : fs.toList[i]? = some fl := by simpa using h1
        obtain ⟨x', h4, h5, h6⟩ := hxs i _ (by rw [List.getElem?_map, h3]; rfl)
        rw [h2] at h4
        injection h4 with h4
        subst h4
        refine ⟨h5.length.trans ?_, h6⟩
        have := hbound fl (List.mem_of_getElem? h3)
        simp only [List.length_take, List.length_drop]
        omega
    · rename_i n e hu
      simp only [Bool.and_eq_true, beq_iff_eq] at hp
      obtain ⟨hti, hpl⟩ := hp
      obtain ⟨xs, n', rfl, e1, hlen, hxl, hget⟩ := DataW.trod_array hu h
      injection e1 with e1 _
      rw [e1, DataW.weights, hu] at hw
      simp only at hw
      have hfl := blocks_cut (P.cellsOf e) cs n 0 (by rw [hlen, ← hti]; simp)
      obtain ⟨ρ1, H1, xss, hle, hR1, hS1, hlx, hxs⟩ := abs_many (P := P) (b0 := b0) (W := W) (f := m) ((List.range' 0 n).map fun i => (e, (cs.drop (i * P.cellsOf e)).take (P.cellsOf e))) (by
        intro p hp
        obtain ⟨i, hi, rfl⟩ := List.mem_map.1 hp
        rw [List.mem_range'_1] at hi
        have hg := hget i (by omega)
        have hlt : i < xs.length := by omega
        rw [List.getElem?_eq_getElem hlt] at hg
        refine abs_cells hb m n' e _ _ _ hg hpl (fun x hx' => hw x (weights_all (List.mem_map.2 ⟨xs[i], List.getElem_mem hlt, rfl⟩) x hx')) (fun a c d hm => hx a c d (List.mem_of_mem_drop (List.mem_of_mem_take hm)))) ρ H hR
      rw [List.length_map, List.length_range'] at hlx
      have hcut : ∀ i, i < n → ((cs.drop (i * P.cellsOf e)).take (P.cellsOf e)).length = P.cellsOf e := by
        intro i hi
        have h1 : (i + 1) * P.cellsOf e ≤ n * P.cellsOf e := Nat.mul_le_mul_right _ hi
        rw [Nat.add_mul, Nat.one_mul] at h1
        simp only [List.length_take, List.length_drop]
        omega
      have hat : ∀ (i : Nat) (x : List V), xss[i]? = some x → i < n ∧ VL (VC ρ1) x ((cs.drop (i * P.cellsOf e)).take (P.cellsOf e)) ∧ RdT P (H ++ H1) m e x := by
        intro i x h1
        have hlt : i < n := by rw [← hlx]; exact (List.getElem?_eq_some_iff.1 h1).1
        obtain ⟨x', h4, h5, h6⟩ := hxs i (e, (cs.drop (i * P.cellsOf e)).take (P.cellsOf e)) (by rw [List.getElem?_map, List.getElem?_range' hlt]; simp)
        rw [h1] at h4
        injection h4 with h4
        subst h4
        exact ⟨hlt, h5, h6⟩
      refine ⟨ρ1, H1, xss.flatten, hle, hR1, hS1, ?_, ?_⟩
      · rw [Nat.zero_mul, List.drop_zero] at hfl
        rw [← hfl]
        refine VL.flat (by simp [hlx]) fun i x c h1 h2 => ?_
        obtain ⟨hlt, h3, _⟩ := hat i x h1
        rw [List.getElem?_map, List.getElem?_range' hlt] at h2
        simp only [Option.map_some, Option.some.injEq] at h2
        subst h2
        simpa using h3
      · unfold RdT
        rw [hu]
        refine ⟨xss, rfl, hlx, fun x h1 => ?_⟩
        obtain ⟨i, hi⟩ := List.getElem?_of_mem h1
        obtain ⟨hlt, h3, h4⟩ := hat i x hi
        exact ⟨h3.length.trans (hcut i hlt), h4⟩
    · cases hp
end
end Go.Am
