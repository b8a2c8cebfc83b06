/-
  Texts of this seat, laid together. No statement of the seat stands here.
-/
import GoSem.ClaimChange
import GoSem.ClaimJoined
import Derived.ProofKit
import Derived.SizedLaws
import Derived.OpenShut
import Derived.ChangeArms
import Derived.Below
import Derived.ChangeOld
import Derived.Carry
import Derived.Conc.MuLone
import Derived.Test.YtldhiplfiheicaaDoorRows
import Derived.KernelRfl
import Derived.Test.YtldhiplfiheicaaDoorP2
/-
  The abstract machine, part U: what the arguments of a call are to it. No statement of the seat stands here.
-/
namespace Go.An
open Go
set_option linter.unusedSectionVars false

theorem mapM_get {α β : Type} {f : α → Option β} : ∀ {l : List α} {ys : List β}, l.mapM f = some ys → ys.length = l.length ∧ ∀ (i : Nat) (x : α), l[i]? = some x → ∃ y, ys[i]? = some y ∧ f x = some y
  | [], ys, h => by simp at h; subst h; exact ⟨rfl, fun i x h => by simp at h⟩
  | a :: l, ys, h => by
    rw [List.mapM_cons] at h
    simp only [Option.pure_def, Option.bind_eq_bind] at h
    cases h1 : f a with
    | none => rw [h1] at h; cases h
    | some b =>
      rw [h1] at h
      simp only [Option.bind_some] at h
      cases h2 : l.mapM f with
      | none => rw [h2] at h; cases h
      | some bs =>
        rw [h2] at h
        simp only [Option.bind_some, Option.some.injEq] at h
        subst h
        obtain ⟨e1, e2⟩ := mapM_get h2
        refine ⟨by simp [e1], fun i x hx => ?_⟩
        cases i with
        | zero => simp at hx; subst hx; exact ⟨b, rfl, h1⟩
        | succ i => simpa using e2 i x (by simpa using hx)

/-- A value of a type as the machine has it: its cells. -/
def RdT (P : Program) : Nat → TypeId → List V → Prop
  | 0, _, _ => False
  | f + 1, t, xs => match P.underlying t with
    | some .bool => ∃ b, xs = [.bool b]
    | some (.int k) => ∃ n, xs = [.int k n] ∧ (Lit.int k n).wf = true
    | some .string => ∃ s, xs = [.str s] ∧ s.length ≤ reachBytes
    | some (.slice e) => xs = [.nilslice] ∨ ∃ (xss : List (List V)), xs = [.isl xss.flatten xss.length (P.cellsOf e)] ∧ xss.length * P.bytesOf e ≤ reachBytes ∧ xss.length ≤ maxLen ∧ ∀ x ∈ xss, x.length = P.cellsOf e ∧ RdT P f e x
    | some (.struct fs) => ∃ (xss : List (List V)), xs = xss.flatten ∧ xss.length = fs.size ∧ ∀ (i : Nat) (fld : Field) (x : List V), fs[i]? = some fld → xss[i]? = some x → x.length = P.cellsOf fld.type ∧ RdT P f fld.type x
    | some (.array n e) => ∃ (xss : List (List V)), xs = xss.flatten ∧ xss.length = n ∧ ∀ x ∈ xss, x.length = P.cellsOf e ∧ RdT P f e x
    | _ => False

/-- The types that are covered; fields lie one behind the other. -/
def tiles (P : Program) : List Field → Nat → Option Nat
  | [], n => some n
  | f :: fs, n => if f.offset = n then tiles P fs (n + P.cellsOf f.type) else none
def plainT (P : Program) : Nat → TypeId → Bool
  | 0, _ => false
  | f + 1, t => match P.underlying t with
    | some .bool | some (.int _) | some .string => true
    | some (.slice e) => decide (0 < P.cellsOf e) && plainT P f e
    | some (.struct fs) => (tiles P fs.toList 0 == some (P.cellsOf t)) && fs.toList.all fun x => plainT P f x.type
    | some (.array n e) => (n * P.cellsOf e == P.cellsOf t) && plainT P f e
    | _ => false

section
variable [Orc]
variable {P : Program} {W : World}

/-- The memory that a call begins with: all of it stays as it is. -/
def ren0 (W : World) : Ren := ⟨fun _ _ => none, fun k => match W.heap[k]? with | some (.cells C _ _) => some C | _ => none⟩
theorem rel0 (P : Program) (W : World) : Rel P W.heap.size (ren0 W) [] W := by
  refine ⟨fun id b h => by simp at h, fun id g b h => by simp at h, fun i j bi bj li lj _ h => by simp at h, fun _ _ _ => rfl, fun id b g h => by simp at h, Nat.le_refl _, fun k C hk => ?_, fun id n l C h => by simp at h⟩
  refine ⟨?_, fun ⟨i, b, l, h, _⟩ => by simp at h⟩
  simp only [ren0] at hk
  split at hk
  · rename_i C' t fr h
    injection hk with hk
    subst hk
    exact ⟨_, t, fr, h, .refl _⟩
  · cases hk
theorem ren0_at {W : World} {k : Nat} {C : Array Value} {t : TypeId} {fr : Nat × Nat} (h : W.heap[k]? = some (.cells C t fr)) : (ren0 W).m k = some C := by
  simp only [ren0, h]
/-- One reading made the machine's. -/
def Abs (P : Program) (W : World) (f : Nat) (t : TypeId) (cs : List Value) : Prop := ∃ xs : List V, VL (VC (ren0 W)) xs cs ∧ RdT P f t xs
theorem abs_many {f : Nat} : ∀ (L : List (TypeId × List Value)), (∀ p ∈ L, Abs P W f p.1 p.2) → ∃ (xss : List (List V)), xss.length = L.length ∧
    ∀ (i : Nat) (p : TypeId × List Value), L[i]? = some p → ∃ x, xss[i]? = some x ∧ VL (VC (ren0 W)) x p.2 ∧ RdT P f p.1 x
  | [], _ => ⟨[], rfl, fun i p h => by simp at h⟩
  | p :: L, hA => by
    obtain ⟨xs, h4, h5⟩ := hA p (by simp)
    obtain ⟨xss, k4, k5⟩ := abs_many L (fun q hq => hA q (by simp [hq]))
    refine ⟨xs :: xss, by simp [k4], fun i q hq => ?_⟩
    cases i with
    | zero =>
      simp at hq
      subst hq
      exact ⟨xs, rfl, h4, h5⟩
    | succ i =>
      obtain ⟨x, hx, r1, r2⟩ := k5 i q (by simpa using hq)
      exact ⟨x, by simpa using hx, r1, r2⟩

theorem VL.flat {R : V → Value → Prop} : ∀ {xss : List (List V)} {css : List (List Value)}, xss.length = css.length → (∀ (i : Nat) (x : List V) (c : List Value), xss[i]? = some x → css[i]? = some c → VL R x c) → VL R xss.flatten css.flatten
  | [], [], _, _ => trivial
  | x :: xss, c :: css, h, hh => by
    simp only [List.flatten_cons]
    exact (hh 0 x c rfl rfl).append (VL.flat (by simpa using h) fun i y d hy hd => hh (i + 1) y d (by simpa using hy) (by simpa using hd))
  | [], _ :: _, h, _ => by simp at h
  | _ :: _, [], h, _ => by simp at h

/-- Fields that lie one behind the other. -/
theorem tiles_cut : ∀ (fs : List Field) (n m : Nat) (cs : List Value), tiles P fs n = some m → cs.length = m → n ≤ cs.length → (fs.map fun f => (cs.drop f.offset).take (P.cellsOf f.type)).flatten = cs.drop n ∧ ∀ f ∈ fs, f.offset + P.cellsOf f.type ≤ cs.length
  | [], n, m, cs, h, hm, hn => by
    simp only [tiles, Option.some.injEq] at h
    subst h
    simp only [List.map_nil, List.flatten_nil]
    refine ⟨?_, fun f hf => by cases hf⟩
    rw [List.drop_eq_nil_of_le (by omega)]
  | f :: fs, n, m, cs, h, hm, hn => by
    simp only [tiles] at h
    split at h
    · rename_i e
      have hmono : ∀ (fs : List Field) (n m : Nat), tiles P fs n = some m → n ≤ m := by
        intro fs
        induction fs with
        | nil => intro n m h; simp only [tiles, Option.some.injEq] at h; omega
        | cons g fs ih =>
          intro n m h
          simp only [tiles] at h
          split at h
          · have := ih _ _ h; omega
          · cases h
      have hle := hmono _ _ _ h
      obtain ⟨h1, h2⟩ := tiles_cut fs _ m cs h hm (by omega)
      simp only [List.map_cons, List.flatten_cons, h1]
      subst e
      refine ⟨?_, fun g hg => ?_⟩
      · rw [← List.drop_drop, List.take_append_drop]
      · rcases List.mem_cons.1 hg with rfl | hg
        · omega
        · exact h2 g hg
    · cases h
theorem blocks_cut (z : Nat) (cs : List Value) : ∀ (n k : Nat), cs.length = (k + n) * z → ((List.range' k n).map fun i => (cs.drop (i * z)).take z).flatten = cs.drop (k * z)
  | 0, k, h => by simp only [List.range'_zero, List.map_nil, List.flatten_nil]; rw [List.drop_eq_nil_of_le (by rw [h]; simp)]
  | n + 1, k, h => by
    rw [List.range'_succ, List.map_cons, List.flatten_cons, blocks_cut z cs n (k + 1) (by rw [h]; congr 1; omega)]
    rw [Nat.add_mul, Nat.one_mul, ← List.drop_drop, List.take_append_drop]
end
end Go.An
/-
  The abstract machine, part V: the arguments of a call, read whole; what a call of a law comes to. No statement of the seat stands here.
-/
namespace Go.An
open Go
set_option linter.unusedSectionVars false

section
variable [Orc]
variable {P : Program} {W : World}

mutual
theorem VI_imm {m : Nat → Option (Array Value)} : ∀ {v : V} {u : Value}, VI m v u → v.imm = true
  | .int .., _, _ | .bool _, _, _ | .str _, _, _ | .nilptr, _, _ | .nilslice, _, _ | .nilmap, _, _ | .nilfn, _, _ | .nilif, _, _ => rfl
  | .isl [] n sz, u, h => rfl
  | .isl (c :: cs) n sz, u, h => by
    simp only [VI] at h
    obtain ⟨a, k, _, _, h⟩ := h
    obtain ⟨blk, base, C, _, _, h⟩ := h.resolve_left (by simp)
    simp only [V.imm]
    exact VIs_imm h
  | .ipt cs off, u, h => by
    simp only [VI] at h
    obtain ⟨blk, base, C, _, _, h⟩ := h
    simp only [V.imm]
    exact VIs_imm h
  | .undef, _, h | .ptr .., _, h | .slice .., _, h | .map _, _, h | .fn .., _, h | .agg _, _, h | .tup _, _, h => by simp only [VI] at h
theorem VIs_imm {m : Nat → Option (Array Value)} : ∀ {xs : List V} {C : Array Value} {i : Nat}, VIs m xs C i → immL xs = true
  | [], _, _, _ => rfl
  | x :: xs, C, i, h => by
    simp only [VIs] at h
    obtain ⟨⟨u, _, _, h1⟩, h2⟩ := h
    simp only [immL, Bool.and_eq_true]
    exact ⟨VI_imm h1, VIs_imm h2⟩
end
theorem immL_flat {xss : List (List V)} (h : ∀ x ∈ xss, immL x = true) : immL xss.flatten = true :=
  immL_iff.2 fun v hv => by
    obtain ⟨x, h1, h2⟩ := List.mem_flatten.1 hv
    exact immL_iff.1 (h x h1) v h2
/-- What came in stays as it is. -/
theorem RdT.imm : ∀ (f : Nat) {t : TypeId} {xs : List V}, RdT P f t xs → immL xs = true
  | 0, _, _, h => h.elim
  | f + 1, t, xs, h => by
    unfold RdT at h
    split at h
    · obtain ⟨b, rfl⟩ := h; rfl
    · obtain ⟨n, rfl, _⟩ := h; rfl
    · obtain ⟨s, rfl, _⟩ := h; rfl
    · rcases h with rfl | ⟨xss, rfl, _, _, h⟩
      · rfl
      · simp only [immL, V.imm, Bool.and_true]
        exact immL_flat fun x hx => RdT.imm f (h x hx).2
    · obtain ⟨xss, rfl, hl, h3⟩ := h
      refine immL_flat fun y hy => ?_
      obtain ⟨i, hi⟩ := List.getElem?_of_mem hy
      have hlt : i < Array.size _ := hl ▸ (List.getElem?_eq_some_iff.1 hi).1
      exact RdT.imm f (h3 i _ y (Array.getElem?_eq_getElem hlt) hi).2
    · obtain ⟨xss, rfl, hl, h3⟩ := h
      exact immL_flat fun y hy => RdT.imm f (h3 y hy).2
    · exact h.elim

theorem flat_get {α : Type} {z : Nat} (hz : 0 < z) : ∀ (css : List (List α)), (∀ c ∈ css, c.length = z) → ∀ j : Nat, css.flatten[j]? = (css[j / z]?).bind fun c => c[j % z]?
  | [], _, j => by simp
  | c :: css, h, j => by
    have hc := h c (by simp)
    rw [List.flatten_cons, List.getElem?_append]
    split
    · rename_i hlt
      rw [hc] at hlt
      rw [Nat.div_eq_of_lt hlt, Nat.mod_eq_of_lt hlt]
      rfl
    · rename_i hge
      rw [hc] at hge ⊢
      rw [flat_get hz css (fun d hd => h d (by simp [hd]))]
      obtain ⟨k, rfl⟩ : ∃ k, j = k + z := ⟨j - z, by omega⟩
      rw [Nat.add_sub_cancel, Nat.add_div_right _ hz, Nat.add_mod_right]
      rfl

theorem weights_all {Hh : Type} {e : TypeId} : ∀ {ds : List (DataW Hh)} {d : DataW Hh}, d ∈ ds → ∀ x ∈ d.weights P e, x ∈ DataW.weightsAll P e ds
  | d0 :: ds, d, hd, x, hx => by
    rw [DataW.weightsAll]
    rcases List.mem_cons.1 hd with rfl | hd
    · exact List.mem_append_left _ hx
    · exact List.mem_append_right _ (weights_all hd x hx)
theorem weights_each {Hh : Type} : ∀ {ts : List TypeId} {ds : List (DataW Hh)} {i : Nat} {t : TypeId} {d : DataW Hh}, ts[i]? = some t → ds[i]? = some d → ∀ x ∈ d.weights P t, x ∈ DataW.weightsEach P ts ds
  | t0 :: ts, d0 :: ds, i, t, d, ht, hd, x, hx => by
    rw [DataW.weightsEach]
    cases i with
    | zero =>
      simp at ht hd
      subst ht hd
      exact List.mem_append_left _ hx
    | succ i => exact List.mem_append_right _ (weights_each (by simpa using ht) (by simpa using hd) x hx)
  | [], _, i, _, _, ht, _, _, _ => by simp at ht
  | _ :: _, [], i, _, _, _, hd, _, _ => by simp at hd

theorem cells_get {a : Addr} {n : Nat} {cs : List Value} (h : W.cells? 0 a n = some cs) : cs.length = n ∧ ∀ j, j < n → W.cell? (a.add j) = cs[j]? := by
  unfold World.cells? at h
  rw [if_pos (Nat.zero_le _)] at h
  obtain ⟨h1, h2⟩ := mapM_get h
  rw [List.length_range] at h1
  refine ⟨h1, fun j hj => ?_⟩
  obtain ⟨y, hy, e⟩ := h2 j j (by rw [List.getElem?_range hj])
  rw [hy, e]
theorem cell_at {a : Addr} {v : Value} (h : W.cell? a = some v) : a.spot = none ∧ ∃ C te fr, W.heap[a.block]? = some (.cells C te fr) := by
  unfold World.cell? at h
  split at h
  · rename_i C te fr hC
    split at h
    · cases h
    · rename_i hs
      exact ⟨by simpa using hs, C, te, fr, hC⟩
  · cases h
theorem cell_lit {b o : Nat} {C : Array Value} {te : TypeId} {fr : Nat × Nat} (hC : W.heap[b]? = some (.cells C te fr)) : W.cell? ⟨b, o, none⟩ = C[o]? := by
  simp [World.cell?, hC]

theorem abs_cells {Hh : Type} {enc : TypeId × Value → Hh} : ∀ (m f : Nat) (t : TypeId) (cs : List Value) (d : DataW Hh) (ps : List MemPlace), DataW.trod enc P W 0 (fun _ => true) true f t cs = some (d, ps) → plainT P m t = true →
    (∀ x ∈ d.weights P t, x ≤ reachBytes) → Abs P W m t cs
  | 0, _, _, _, _, _, _, h, _ => by cases h
  | m + 1, f, t, cs, d, ps, h, hp, hw => by
    unfold plainT at hp
    split at hp
    · rename_i hu
      obtain ⟨b, rfl, e⟩ := DataW.trod_bool hu h
      refine ⟨[.bool b], ⟨rfl, trivial⟩, ?_⟩
      unfold RdT
      rw [hu]
      exact ⟨b, rfl⟩
    · rename_i k hu
      obtain ⟨n, rfl, e, hwf⟩ := DataW.trod_int hu h
      refine ⟨[.int k n], ⟨rfl, trivial⟩, ?_⟩
      unfold RdT
      rw [hu]
      exact ⟨n, rfl, hwf⟩
    · rename_i hu
      obtain ⟨s, rfl, e, _⟩ := DataW.trod_string hu h
      injection e with e1 e2
      refine ⟨[.str s.data.toList], ⟨by simp [VC, VB], trivial⟩, ?_⟩
      unfold RdT
      rw [hu]
      refine ⟨_, rfl, ?_⟩
      rw [e1, DataW.weights] at hw
      exact hw _ (by simp)
    · rename_i e hu
      simp only [Bool.and_eq_true, decide_eq_true_eq] at hp
      obtain ⟨hz, hpe⟩ := hp
      rcases DataW.trod_slice hu h with ⟨rfl, _⟩ | ⟨a, len, cap, elems, rest, n, rfl, rfl, e1, _, hlc, hcm, hel, hget, hrest, _⟩
      · refine ⟨[.nilslice], ⟨rfl, trivial⟩, ?_⟩
        unfold RdT
        rw [hu]
        exact .inl rfl
      · injection e1 with e1 e2
        rw [e1, DataW.weights, hu] at hw
        simp only at hw
        let css : List (List Value) := (List.range len).map fun i => (W.cells? 0 (a.add (i * P.cellsOf e)) (P.cellsOf e)).getD []
        have hcss : ∀ i, i < len → ∃ c, css[i]? = some c ∧ W.cells? 0 (a.add (i * P.cellsOf e)) (P.cellsOf e) = some c ∧ ∃ y, elems[i]? = some y ∧ DataW.trod enc P W 0 (fun _ => true) true n e c = some y := by
          intro i hi
          have h1 := hget i hi
          rw [List.getElem?_eq_getElem (by omega)] at h1
          obtain ⟨c, hc, hy⟩ := Option.bind_eq_some_iff.1 h1
          refine ⟨c, ?_, hc, _, List.getElem?_eq_getElem (by omega), hy⟩
          show ((List.range len).map _)[i]? = _
          rw [List.getElem?_map, List.getElem?_range hi, Option.map_some, hc]
          rfl
        have hcl : css.length = len := by simp [css]
        have hone : ∀ c ∈ css, c.length = P.cellsOf e := by
          intro c hc
          obtain ⟨i, hi⟩ := List.getElem?_of_mem hc
          have hlt : i < len := hcl ▸ (List.getElem?_eq_some_iff.1 hi).1
          obtain ⟨c', h1, h2, _⟩ := hcss i hlt
          rw [hi] at h1
          injection h1 with h1
          subst h1
          exact (cells_get h2).1
        obtain ⟨xss, hlx, hxs⟩ := abs_many (P := P) (W := W) (f := m) (css.map fun c => (e, c)) (by
          intro p hp
          obtain ⟨c, hc, rfl⟩ := List.mem_map.1 hp
          obtain ⟨i, hi⟩ := List.getElem?_of_mem hc
          have hlt : i < len := hcl ▸ (List.getElem?_eq_some_iff.1 hi).1
          obtain ⟨c', h1, h2, y, h3, h4⟩ := hcss i hlt
          rw [hi] at h1
          injection h1 with h1
          subst h1
          refine abs_cells m n e c y.1 y.2 h4 hpe (fun x hx' => hw x (List.mem_cons_of_mem _ (List.mem_append_left _ ?_)))
          exact weights_all (List.mem_map.2 ⟨y, List.mem_of_getElem? h3, rfl⟩) x hx')
        rw [List.length_map, hcl] at hlx
        have hxs' : ∀ (i : Nat) (x : List V), xss[i]? = some x → ∃ c, css[i]? = some c ∧ VL (VC (ren0 W)) x c ∧ RdT P m e x := by
          intro i x hxi
          have hlt : i < css.length := by rw [hcl, ← hlx]; exact (List.getElem?_eq_some_iff.1 hxi).1
          obtain ⟨x', h1, h2, h3⟩ := hxs i (e, css[i]) (by rw [List.getElem?_map, List.getElem?_eq_getElem hlt]; rfl)
          rw [hxi] at h1
          injection h1 with h1
          subst h1
          exact ⟨css[i], List.getElem?_eq_getElem hlt, h2, h3⟩
        have hflat : VL (VC (ren0 W)) xss.flatten css.flatten := VL.flat (by rw [hlx, hcl]) fun i x c h1 h2 => by
          obtain ⟨c', h3, h4, _⟩ := hxs' i x h1
          rw [h2] at h3
          injection h3 with h3
          exact h3 ▸ h4
        have himm : immL xss.flatten = true := immL_flat fun x hx => by
          obtain ⟨i, hi⟩ := List.getElem?_of_mem hx
          obtain ⟨_, _, _, h⟩ := hxs' i x hi
          exact h.imm m
        have hin : xss.flatten = [] ∨ ∃ blk base C, a = ⟨blk, base, none⟩ ∧ (ren0 W).m blk = some C ∧ VIs (ren0 W).m xss.flatten C base := by
          rcases Nat.eq_zero_or_pos len with h0 | hpos
          · left
            have : xss = [] := List.eq_nil_of_length_eq_zero (by omega)
            rw [this]; rfl
          · right
            obtain ⟨c0, _, hc0, _⟩ := hcss 0 hpos
            obtain ⟨h2, h3⟩ := cells_get hc0
            have h4 := h3 0 hz
            rw [Nat.zero_mul] at h4
            have h5 : (a.add 0).add 0 = a := rfl
            rw [h5, List.getElem?_eq_getElem (by omega)] at h4
            obtain ⟨h6, C, te, fr, hC⟩ := cell_at h4
            have ha : a = ⟨a.block, a.off, none⟩ := by cases a; simp_all
            refine ⟨a.block, a.off, C, ha, ren0_at hC, VIs_of himm fun j v hv => ?_⟩
            obtain ⟨u, h1, h2⟩ := hflat.get j hv
            have hj := h1
            rw [flat_get hz css hone] at hj
            obtain ⟨c, k1, k2⟩ := Option.bind_eq_some_iff.1 hj
            have hlt : j / P.cellsOf e < len := hcl ▸ (List.getElem?_eq_some_iff.1 k1).1
            obtain ⟨c', k3, k4, _⟩ := hcss _ hlt
            rw [k1] at k3
            injection k3 with k3
            subst k3
            have k5 := (cells_get k4).2 (j % P.cellsOf e) (Nat.mod_lt _ hz)
            rw [k2] at k5
            have k6 : (a.add (j / P.cellsOf e * P.cellsOf e)).add (j % P.cellsOf e) = ⟨a.block, a.off + j, none⟩ := by
              have h7 := Nat.div_add_mod' j (P.cellsOf e)
              rw [ha, add_lit, add_lit]
              congr 1
              simp only
              omega
            rw [k6, cell_lit hC] at k5
            have hc := immL_cells himm
            have hcv := List.all_eq_true.1 hc v (List.mem_of_getElem? hv)
            exact ⟨u, k5, h2, ((h2.va hcv).cell hcv).2⟩
        refine ⟨[.isl xss.flatten xss.length (P.cellsOf e)], ⟨?_, trivial⟩, ?_⟩
        · show VI (ren0 W).m _ _
          simp only [VI]
          exact ⟨a, cap, by rw [hlx], by omega, hin⟩
        · unfold RdT
          rw [hu]
          refine .inr ⟨xss, rfl, ?_, by rw [hlx]; omega, fun x hx' => ?_⟩
          · rw [hlx]
            have := hw _ List.mem_cons_self
            refine Nat.le_trans (Nat.mul_le_mul_right _ ?_) this
            rw [List.length_map, hel]; omega
          · obtain ⟨i, hi⟩ := List.getElem?_of_mem hx'
            obtain ⟨c, h1, h2, h3⟩ := hxs' i x hi
            exact ⟨h2.length.trans (hone c (List.mem_of_getElem? h1)), h3⟩
    · rename_i fs hu
      simp only [Bool.and_eq_true, beq_iff_eq, List.all_eq_true] at hp
      obtain ⟨hti, hpl⟩ := hp
      obtain ⟨xs, n, rfl, e1, hlen, hxl, hget⟩ := DataW.trod_struct hu h
      injection e1 with e1 _
      rw [e1, DataW.weights, hu] at hw
      simp only at hw
      obtain ⟨hfl, hbound⟩ := tiles_cut fs.toList 0 _ cs hti hlen (Nat.zero_le _)
      obtain ⟨xss, hlx, hxs⟩ := abs_many (P := P) (W := W) (f := m) (fs.toList.map fun f => (f.type, (cs.drop f.offset).take (P.cellsOf f.type))) (by
        intro p hp
        obtain ⟨fl, hfm, rfl⟩ := List.mem_map.1 hp
        obtain ⟨i, hi⟩ := List.getElem?_of_mem hfm
        have hi' : fs[i]? = some fl := by simpa using hi
        have hg := hget i fl hi'
        have hlt : i < xs.length := by rw [hxl]; exact (Array.getElem?_eq_some_iff.1 hi').1
        rw [List.getElem?_eq_getElem hlt] at hg
        refine abs_cells m n fl.type _ _ _ hg (hpl fl hfm) (fun x hx' => hw x (weights_each (i := i) (t := fl.type) ?_ ?_ x hx'))
        · rw [List.getElem?_map, hi]; rfl
        · rw [List.getElem?_map, List.getElem?_eq_getElem hlt]; rfl)
      rw [List.length_map] at hlx
      refine ⟨xss.flatten, ?_, ?_⟩
      · rw [List.drop_zero] at hfl
        rw [← hfl]
        refine VL.flat (by simp [hlx]) fun i x c h1 h2 => ?_
        rw [List.getElem?_map] at h2
        obtain ⟨fl, h3, rfl⟩ := Option.map_eq_some_iff.1 h2
        obtain ⟨x', h4, h5, _⟩ := hxs i _ (by rw [List.getElem?_map, h3]; rfl)
        rw [h1] at h4
        injection h4 with h4
        exact h4 ▸ h5
      · unfold RdT
        rw [hu]
        refine ⟨xss, rfl, by simpa using hlx, fun i fl x h1 h2 => ?_⟩
        have h3 : fs.toList[i]? = some fl := by simpa using h1
        obtain ⟨x', h4, h5, h6⟩ := hxs i _ (by rw [List.getElem?_map, h3]; rfl)
        rw [h2] at h4
        injection h4 with h4
        subst h4
        refine ⟨h5.length.trans ?_, h6⟩
        have := hbound fl (List.mem_of_getElem? h3)
        simp only [List.length_take, List.length_drop]
        omega
    · rename_i n e hu
      simp only [Bool.and_eq_true, beq_iff_eq] at hp
      obtain ⟨hti, hpl⟩ := hp
      obtain ⟨xs, n', rfl, e1, hlen, hxl, hget⟩ := DataW.trod_array hu h
      injection e1 with e1 _
      rw [e1, DataW.weights, hu] at hw
      simp only at hw
      have hfl := blocks_cut (P.cellsOf e) cs n 0 (by rw [hlen, ← hti]; simp)
      obtain ⟨xss, hlx, hxs⟩ := abs_many (P := P) (W := W) (f := m) ((List.range' 0 n).map fun i => (e, (cs.drop (i * P.cellsOf e)).take (P.cellsOf e))) (by
        intro p hp
        obtain ⟨i, hi, rfl⟩ := List.mem_map.1 hp
        rw [List.mem_range'_1] at hi
        have hg := hget i (by omega)
        have hlt : i < xs.length := by omega
        rw [List.getElem?_eq_getElem hlt] at hg
        exact abs_cells m n' e _ _ _ hg hpl (fun x hx' => hw x (weights_all (List.mem_map.2 ⟨xs[i], List.getElem_mem hlt, rfl⟩) x hx')))
      rw [List.length_map, List.length_range'] at hlx
      have hcut : ∀ i, i < n → ((cs.drop (i * P.cellsOf e)).take (P.cellsOf e)).length = P.cellsOf e := by
        intro i hi
        have h1 : (i + 1) * P.cellsOf e ≤ n * P.cellsOf e := Nat.mul_le_mul_right _ hi
        rw [Nat.add_mul, Nat.one_mul] at h1
        simp only [List.length_take, List.length_drop]
        omega
      have hat : ∀ (i : Nat) (x : List V), xss[i]? = some x → i < n ∧ VL (VC (ren0 W)) x ((cs.drop (i * P.cellsOf e)).take (P.cellsOf e)) ∧ RdT P m e x := by
        intro i x h1
        have hlt : i < n := by rw [← hlx]; exact (List.getElem?_eq_some_iff.1 h1).1
        obtain ⟨x', h4, h5, h6⟩ := hxs i (e, (cs.drop (i * P.cellsOf e)).take (P.cellsOf e)) (by rw [List.getElem?_map, List.getElem?_range' hlt]; simp)
        rw [h1] at h4
        injection h4 with h4
        subst h4
        exact ⟨hlt, h5, h6⟩
      refine ⟨xss.flatten, ?_, ?_⟩
      · rw [Nat.zero_mul, List.drop_zero] at hfl
        rw [← hfl]
        refine VL.flat (by simp [hlx]) fun i x c h1 h2 => ?_
        obtain ⟨hlt, h3, _⟩ := hat i x h1
        rw [List.getElem?_map, List.getElem?_range' hlt] at h2
        simp only [Option.map_some, Option.some.injEq] at h2
        subst h2
        simpa using h3
      · unfold RdT
        rw [hu]
        refine ⟨xss, rfl, hlx, fun x h1 => ?_⟩
        obtain ⟨i, hi⟩ := List.getElem?_of_mem h1
        obtain ⟨hlt, h3, h4⟩ := hat i x hi
        exact ⟨h3.length.trans (hcut i hlt), h4⟩
    · cases hp
end
end Go.An
/-
  The abstract machine, part W: a call of a law. No statement of the seat stands here.
-/
namespace Go.An
open Go Go.RowKit

set_option linter.unusedSectionVars false
/-- An argument, as the machine has it. -/
def ArgT (P : Program) (m : Nat) (t : TypeId) (x : V) : Prop :=
  match P.underlying t with
  | some (.struct _) | some (.array _ _) => ∃ xs, x = .agg xs ∧ RdT P m t xs
  | _ => RdT P m t [x]
def ArgsT (P : Program) (m : Nat) : List TypeId → List V → Prop
  | [], [] => True
  | t :: ts, x :: xs => ArgT P m t x ∧ ArgsT P m ts xs
  | _, _ => False

section
variable [Orc]
variable {P : Program} {W : World} {base : Nat}
theorem abs_arg {Hh : Type} {enc : TypeId × Value → Hh} {m : Nat} {t : TypeId} {v : Value} {d : DataW Hh} {ps : List MemPlace} (h : DataW.Trod enc P W 0 (fun _ => true) true t v d ps) (hval : Value.okWide P W .any base t v) (hp : plainT P m t = true)
    (hw : ∀ x ∈ d.weights P t, x ≤ reachBytes) : ∃ x : V, VR (ren0 W) x v ∧ ArgT P m t x := by
  obtain ⟨f, hf⟩ := h
  obtain ⟨xs, h4, h5⟩ := abs_cells m f t _ d ps hf hp hw
  have agg : (∃ cs, v = .agg cs ∧ cs.size = P.cellsOf t ∧ Row.okWide P W .any base t cs) → VR (ren0 W) (.agg xs) v := by
    rintro ⟨cs, rfl, _⟩
    exact ⟨cs, rfl, h4⟩
  unfold Value.okWide at hval
  split at hval
  · rename_i hu
    refine ⟨.agg xs, agg hval, ?_⟩
    unfold ArgT
    simp only [hu]
    exact ⟨xs, rfl, h5⟩
  · rename_i hu
    refine ⟨.agg xs, agg hval, ?_⟩
    unfold ArgT
    simp only [hu]
    exact ⟨xs, rfl, h5⟩
  · rename_i n1 n2
    have hcell : v.cells.toList = [v] := by
      cases v with
      | agg cs =>
        exfalso
        cases hu : P.underlying t with
        | none => simp [Cell.okWide, Cell.ok, hu] at hval
        | some u => cases u <;> simp [Cell.okWide, Cell.ok, hu] at hval
      | _ => rfl
    rw [hcell] at h4
    match xs, h4, h5 with
    | [x], h4, h5 =>
      refine ⟨x, h4.1.toVR, ?_⟩
      unfold ArgT
      split
      · rename_i hu; exact absurd hu (n1 _)
      · rename_i hu; exact absurd hu (n2 _ _)
      · exact h5

theorem abs_args {Hh : Type} {enc : TypeId × Value → Hh} {m : Nat} : ∀ {ts : List TypeId} {vs : List Value} {ds : List (DataW Hh)} {ps : List MemPlace}, DataW.TrodAll enc P W 0 (fun _ => true) true ts vs ds ps →
    (∀ (i : Nat) t v, ts[i]? = some t → vs[i]? = some v → Value.okWide P W .any base t v) → ts.all (plainT P m) = true → (∀ x ∈ DataW.weightsEach P ts ds, x ≤ reachBytes) →
    ∃ xs : List V, VL (VR (ren0 W)) xs vs ∧ ArgsT P m ts xs
  | [], [], [], _, _, _, _, _ => ⟨[], trivial, trivial⟩
  | t :: ts, v :: vs, d :: ds, ps, h, hval, hp, hw => by
    obtain ⟨p, q, h1, h2, rfl⟩ := h
    simp only [List.all_cons, Bool.and_eq_true] at hp
    rw [DataW.weightsEach] at hw
    obtain ⟨x, k4, k5⟩ := abs_arg h1 (hval 0 t v rfl rfl) hp.1 (fun x hx => hw x (List.mem_append_left _ hx))
    obtain ⟨xs, l4, l5⟩ := abs_args h2 (fun i t v h1 h2 => hval (i + 1) t v (by simpa using h1) (by simpa using h2)) hp.2 (fun x hx => hw x (List.mem_append_right _ hx))
    exact ⟨x :: xs, ⟨k4, l4⟩, k5, l5⟩
  | [], _ :: _, _, _, h, _, _, _ => h.elim
  | [], [], _ :: _, _, h, _, _, _ => h.elim
  | _ :: _, [], _, _, h, _, _, _ => h.elim
  | _ :: _, _ :: _, [], _, h, _, _, _ => h.elim

/-- A law's call: what the machine answers for all that may come. -/
theorem law_calls {Hh : Type} {enc : TypeId × Value → Hh} {Pr : Prims} (hm : P.follows .mixedOrders = true) (hnn : NoNum P) (hp : PrOk P Pr) {k m : Nat} {fn : Func} {c : Code} (hf : P.funcs[k]? = some fn) (hb : fn.body = some c) {ts : List TypeId} (hpl : ts.all (plainT P m) = true)
    (hlaw : ∀ xs, ArgsT P m ts xs → ∃ n H', callN P Pr n k xs [] = some (.bool true, H')) {args : Array Value} {ds : List (DataW Hh)} {ps : List MemPlace} (hA : DataW.TrodAll enc P W 0 (fun _ => true) true ts args.toList ds ps)
    (hval : ∀ (i : Nat) t v, ts[i]? = some t → args[i]? = some v → Value.okWide P W .any base t v) (hw : ∀ x ∈ DataW.weightsEach P ts ds, x ≤ reachBytes) :
    Calls P k args W fun e W' => e = .returned (.bool true) ∧ Below W.heap.size W W' := by
  obtain ⟨xs, h4, h5⟩ := abs_args hA (fun i t v h1 h2 => hval i t v h1 (by simpa using h2)) hpl hw
  have h2 := rel0 P W
  obtain ⟨n, H', hcall⟩ := hlaw xs h5
  have hent := callFunc_enter (W := W) hf hb (hnn k fn hf (by rw [hb]; rfl)) args
  have hfin : ∀ (u : Value) (ρ' : Ren) (W' : World), VR ρ' (.bool true) u → Step P W.heap.size (ren0 W) ρ' [] H' W W' → u = .bool true ∧ Below W.heap.size W W' := by
    intro u ρ' W' hu hst
    refine ⟨hu, hst.os, hst.tape, hst.output, hst.size, fun i hi => hst.frame i hi ?_⟩
    rintro ⟨j, b, l, hb, hl, ho, _⟩
    simp at hb
  rcases callN_sound hm hnn hp (callN_ne hcall) hcall h2 h4 with ⟨k', us, e1, hc⟩ | ⟨u, W', ρ', e1, _, _⟩
  · rw [hent] at e1
    injection e1 with e1
    injection e1 with e1 e2
    subst e1 e2
    refine hc.mono fun e W' he => ?_
    obtain ⟨u, ρ', rfl, hu, hst⟩ := he
    obtain ⟨rfl, hbel⟩ := hfin u ρ' W' hu hst
    exact ⟨rfl, hbel⟩
  · rw [hent] at e1
    injection e1 with e1 _
    cases e1

theorem trodAll_below {Hh : Type} {enc : TypeId × Value → Hh} (hl : laidOutB P = true) {W' : World} (hb : Below W.heap.size W W') : ∀ {ts : List TypeId} {vs : List Value} {ds : List (DataW Hh)} {ps : List MemPlace}, (ts.all fun t => P.readableRec t && decide (t < P.types.size)) = true →
    DataW.TrodAll enc P W 0 (fun _ => true) true ts vs ds ps → DataW.TrodAll enc P W' 0 (fun b => decide (b < W.heap.size)) true ts vs ds ps
  | [], [], [], _, _, h => h
  | t :: ts, v :: vs, d :: ds, ps, hr, h => by
    simp only [List.all_cons, Bool.and_eq_true, decide_eq_true_eq] at hr
    obtain ⟨p, q, h1, h2, e⟩ := h
    exact ⟨p, q, Below.trod hl hr.1.1 hr.1.2 h1 hb (by obtain ⟨m, hm⟩ := h1; exact DataW.trod_lt m _ _ _ hm), trodAll_below hl hb (by simpa using hr.2) h2, e⟩
  | [], _ :: _, _, _, _, h => h.elim
  | [], [], _ :: _, _, _, h => h.elim
  | _ :: _, [], _, _, _, h => h.elim
  | _ :: _, _ :: _, [], _, _, h => h.elim

/-- No function is the one that asks how many run. -/
theorem noNum_of (h : (P.funcs.toList.all fun f => f.name != "runtime.NumGoroutine") = true) : NoNum P := by
  intro k fn hf _
  have := List.all_eq_true.1 h fn (by
    have : P.funcs.toList[k]? = some fn := by simpa using hf
    exact List.mem_of_getElem? this)
  simpa using this
end
end Go.An
/-
  The abstract machine, part Gc: what is kept of the blocks that a call has made. No statement of the seat stands here.
-/
namespace Go.An
open Go

/-- The references of a cell; whether it is one whose references can be turned. -/
def refB : V → List (Nat × Nat)
  | .ptr id g _ => [(id, g)]
  | .slice id g _ _ _ _ => [(id, g)]
  | .map id => [(id, 0)]
  | _ => []
def fineB : V → Bool
  | .fn _ a b => a.isEmpty && b.isEmpty
  | .agg _ | .tup _ | .undef | .osl .. | .yld _ | .ifc .. => false
  | _ => true
def refA : V → List (Nat × Nat)
  | .agg cs => cs.flatMap refB
  | v => refB v
def fineA : V → Bool
  | .agg cs => cs.all fineB
  | v => fineB v
def refR : V → List (Nat × Nat)
  | .tup vs => vs.flatMap refA
  | v => refA v
def fineR : V → Bool
  | .tup vs => vs.all fineA
  | v => fineA v
def renB (f : Nat → Nat → Nat × Nat) : V → V
  | .ptr id g o => .ptr (f id g).1 (f id g).2 o
  | .slice id g o n sz cp => .slice (f id g).1 (f id g).2 o n sz cp
  | .map id => .map (f id 0).1
  | v => v
def renA (f : Nat → Nat → Nat × Nat) : V → V
  | .agg cs => .agg (cs.map (renB f))
  | v => renB f v
def renR (f : Nat → Nat → Nat × Nat) : V → V
  | .tup vs => .tup (vs.map (renA f))
  | v => renA f v
/-- A reference is met again. -/
def Moved (ρ ρ2 : Ren) (f : Nat → Nat → Nat × Nat) (p : Nat × Nat) : Prop := ∀ l, ρ p.1 p.2 = some l → ρ2 (f p.1 p.2).1 (f p.1 p.2).2 = some l

section
variable {ρ ρ2 : Ren} {f : Nat → Nat → Nat × Nat}
theorem ren_VC (hM : ∀ k C, ρ.m k = some C → ∃ C', ρ2.m k = some C' ∧ Sub C C') {v : V} {u : Value} (hm : ∀ p ∈ refB v, Moved ρ ρ2 f p) (h0 : ∀ id, v = .map id → (f id 0).2 = 0) (hf : fineB v = true) (h : VC ρ v u) : VC ρ2 (renB f v) u := by
  cases v <;> simp only [fineB, Bool.false_eq_true, Bool.and_eq_true, List.isEmpty_iff] at hf <;> simp only [VC, VB, renB] at h ⊢ <;> first | exact h | exact VI.mono hM h | skip
  · obtain ⟨l, hl, e⟩ := h
    exact ⟨l, hm (_, _) (by simp only [refB, List.mem_singleton]) l hl, e⟩
  · obtain ⟨l, a, c, hl, e⟩ := h
    exact ⟨l, a, c, hm (_, _) (by simp only [refB, List.mem_singleton]) l hl, e⟩
  · rename_i id
    obtain ⟨l, hl, e⟩ := h
    have := hm (_, _) (by simp only [refB, List.mem_singleton]) l hl
    simp only at this
    rw [h0 id rfl] at this
    exact ⟨l, this, e⟩
  · obtain ⟨a, b, e, r, s⟩ := h
    obtain ⟨rfl, rfl⟩ := hf
    refine ⟨a, b, e, ?_, ?_⟩
    · cases ha : a.toList with
      | nil => trivial
      | cons x l => rw [ha] at r; exact r.elim
    · cases hb : b.toList with
      | nil => trivial
      | cons x l => rw [hb] at s; exact s.elim
theorem VL.ren {R R' : V → Value → Prop} {g : V → V} : ∀ {vs : List V} {us : List Value}, (∀ v ∈ vs, ∀ u, R v u → R' (g v) u) → VL R vs us → VL R' (vs.map g) us
  | [], [], _, _ => trivial
  | v :: vs, u :: us, h, r => ⟨h v (by simp) u r.1, VL.ren (fun x hx => h x (by simp [hx])) r.2⟩
  | [], _ :: _, _, r => r.elim
  | _ :: _, [], _, r => r.elim
theorem VA_of {v : V} (h : ∀ cs, v ≠ .agg cs) : refA v = refB v ∧ fineA v = fineB v ∧ renA f v = renB f v ∧ (∀ ρ u, VA ρ v u = VC ρ v u) ∧ ∀ ρ u, VC ρ (renB f v) u → VA ρ (renB f v) u := by
  cases v <;> first | exact absurd rfl (h _) | exact ⟨rfl, rfl, rfl, fun _ _ => rfl, fun _ _ h => h⟩
theorem VR_of {v : V} (h : ∀ cs, v ≠ .tup cs) : refR v = refA v ∧ fineR v = fineA v ∧ renR f v = renA f v ∧ (∀ ρ u, VR ρ v u = VA ρ v u) ∧ ∀ ρ u, VA ρ (renA f v) u → VR ρ (renA f v) u := by
  cases v <;> first | exact absurd rfl (h _) | exact ⟨rfl, rfl, rfl, fun _ _ => rfl, fun _ _ h => h⟩
theorem ren_VA (hM : ∀ k C, ρ.m k = some C → ∃ C', ρ2.m k = some C' ∧ Sub C C') {v : V} {u : Value} (hm : ∀ p ∈ refA v, Moved ρ ρ2 f p) (h0 : ∀ p ∈ refA v, p.2 = 0 → (f p.1 p.2).2 = 0) (hf : fineA v = true) (h : VA ρ v u) : VA ρ2 (renA f v) u := by
  have one : ∀ {v : V} {u : Value}, (∀ p ∈ refB v, Moved ρ ρ2 f p) → (∀ p ∈ refB v, p.2 = 0 → (f p.1 p.2).2 = 0) → fineB v = true → VC ρ v u → VC ρ2 (renB f v) u := fun a b c d =>
    ren_VC hM a (fun id e => by subst e; exact b (id, 0) (by simp [refB]) rfl) c d
  by_cases hv : ∃ cs, v = .agg cs
  · obtain ⟨cs, rfl⟩ := hv
    obtain ⟨us, rfl, h⟩ := h
    refine ⟨us, rfl, VL.ren (fun x hx u hu => one (fun p hp => hm p ?_) (fun p hp => h0 p ?_) ?_ hu) h⟩
    · simp only [refA, List.mem_flatMap]; exact ⟨x, hx, hp⟩
    · simp only [refA, List.mem_flatMap]; exact ⟨x, hx, hp⟩
    · simp only [fineA, List.all_eq_true] at hf; exact hf x hx
  · obtain ⟨e1, e2, e3, e4, e5⟩ := VA_of (f := f) (v := v) fun cs e => hv ⟨cs, e⟩
    rw [e1] at hm h0
    rw [e2] at hf
    rw [e4] at h
    rw [e3]
    exact e5 _ _ (one hm h0 hf h)
theorem ren_VR (hM : ∀ k C, ρ.m k = some C → ∃ C', ρ2.m k = some C' ∧ Sub C C') {v : V} {u : Value} (hm : ∀ p ∈ refR v, Moved ρ ρ2 f p) (h0 : ∀ p ∈ refR v, p.2 = 0 → (f p.1 p.2).2 = 0) (hf : fineR v = true) (h : VR ρ v u) : VR ρ2 (renR f v) u := by
  by_cases hv : ∃ cs, v = .tup cs
  · obtain ⟨vs, rfl⟩ := hv
    obtain ⟨us, rfl, h⟩ := h
    refine ⟨us, rfl, VL.ren (fun x hx u hu => ren_VA hM (fun p hp => hm p ?_) (fun p hp => h0 p ?_) ?_ hu) h⟩
    · simp only [refR, List.mem_flatMap]; exact ⟨x, hx, hp⟩
    · simp only [refR, List.mem_flatMap]; exact ⟨x, hx, hp⟩
    · simp only [fineR, List.all_eq_true] at hf; exact hf x hx
  · obtain ⟨e1, e2, e3, e4, e5⟩ := VR_of (f := f) (v := v) fun cs e => hv ⟨cs, e⟩
    rw [e1] at hm h0
    rw [e2] at hf
    rw [e4] at h
    rw [e3]
    exact e5 _ _ (ren_VA hM hm h0 hf h)
end

def V.leaf : V → Bool
  | .int .. | .bool _ | .str _ | .nilptr | .nilslice | .nilmap | .nilfn | .nilif => true
  | _ => false
/-- The rows that are kept: new ones, of plain cells. -/
def keepRow (H H' : Hp) (p : Nat × Nat) : Option (List V) :=
  if H.length ≤ p.1 then
    match H'[p.1]? with
    | some (.row g cs true) => if g = p.2 ∧ immL cs = true then some cs else none
    | _ => none
  else none
/-- Its place among those kept. -/
def fresh (n : Nat) (ps : List (Nat × Nat)) : List (Nat × Nat) := (ps.filter fun p => n ≤ p.1).eraseDups
def moveTo (n : Nat) (L : List (Nat × Nat)) (id g : Nat) : Nat × Nat := if id < n then (id, g) else (n + L.idxOf (id, g), 0)
open Classical in
noncomputable def gcC (H : Hp) (r : V × Hp) : V × Hp :=
  if r.2.take H.length = H ∧ fineR r.1 = true then
    let L := fresh H.length (refR r.1)
    match mapO (keepRow H r.2) L with
    | some rows => if (L.map (·.1)).Nodup then (renR (moveTo H.length L) r.1, H ++ rows.map fun cs => .row 0 cs true) else r
    | none => r
  else r

def GcOk1 (P : Program) (gc : Hp → V × Hp → V × Hp) : Prop := ∀ b0 ρ ρ' H H' W W' v u, Rel P b0 ρ H W → VR ρ' v u → Step P b0 ρ ρ' H H' W W' → ∃ ρ2, VR ρ2 (gc H (v, H')).1 u ∧ Step P b0 ρ ρ2 H (gc H (v, H')).2 W W'
theorem gcId_ok1 {P : Program} : GcOk1 P (fun _ r => r) := fun _ _ ρ' _ _ _ _ _ _ _ h1 h2 => ⟨ρ', h1, h2⟩

theorem imm_VC {ρ ρ2 : Ren} (hM : ∀ k C, ρ.m k = some C → ∃ C', ρ2.m k = some C' ∧ Sub C C') {v : V} {u : Value} (h : VC ρ v u) (hf : v.imm = true) : VC ρ2 v u := (VI.mono hM (h.vi hf)).vc
theorem keepRow_some {H H' : Hp} {p : Nat × Nat} {cs : List V} (h : keepRow H H' p = some cs) : H.length ≤ p.1 ∧ H'[p.1]? = some (.row p.2 cs true) ∧ immL cs = true := by
  unfold keepRow at h
  split at h
  · rename_i h1
    split at h
    · rename_i g cs' h2
      split at h
      · rename_i h3
        injection h with h
        subst h
        obtain ⟨rfl, h3⟩ := h3
        exact ⟨h1, h2, h3⟩
      · cases h
    · cases h
  · cases h
theorem mapO_get {α β : Type} {f : α → Option β} : ∀ {l : List α} {r : List β}, mapO f l = some r → r.length = l.length ∧ ∀ (i : Nat) (y : β), r[i]? = some y → ∃ x, l[i]? = some x ∧ f x = some y
  | [], r, h => by
    simp only [mapO, Option.some.injEq] at h
    subst h
    exact ⟨rfl, fun i y h => by simp at h⟩
  | x :: l, r, h => by
    simp only [mapO] at h
    cases h1 : f x with
    | none => rw [h1] at h; cases h
    | some y =>
      rw [h1] at h
      obtain ⟨r', h2, rfl⟩ := Option.map_eq_some_iff.1 h
      obtain ⟨h3, h4⟩ := mapO_get h2
      refine ⟨by simp [h3], fun i z hz => ?_⟩
      cases i with
      | zero =>
        simp only [List.getElem?_cons_zero, Option.some.injEq] at hz
        subst hz
        exact ⟨x, rfl, h1⟩
      | succ i =>
        simp only [List.getElem?_cons_succ] at hz ⊢
        exact h4 i z hz

def renGc (ρ' : Ren) (n : Nat) (L : List (Nat × Nat)) : Ren := ⟨fun id g =>
  if id < n then ρ' id g else
  match L[id - n]? with
  | some p => if g = 0 then ρ' p.1 p.2 else none
  | none => none, ρ'.m⟩
theorem gc_step {P : Program} {b0 : Nat} {ρ ρ' : Ren} {H H' : Hp} {W W' : World} (hR : Rel P b0 ρ H W) (hst : Step P b0 ρ ρ' H H' W W') (hpre : H'.take H.length = H) {L : List (Nat × Nat)} {rows : List (List V)} (hrows : mapO (keepRow H H') L = some rows) (hnd : (L.map (·.1)).Nodup) :
    Step P b0 ρ (renGc ρ' H.length L) H (H ++ rows.map fun cs => .row 0 cs true) W W' ∧ ∀ p : Nat × Nat, (p.1 < H.length ∨ p ∈ L) → Moved ρ' (renGc ρ' H.length L) (moveTo H.length L) p := by
  obtain ⟨hlen, hget⟩ := mapO_get hrows
  have hold : ∀ {id : Nat}, id < H.length → H'[id]? = H[id]? := by
    intro id hid
    have : (H'.take H.length)[id]? = H[id]? := by rw [hpre]
    rw [← this, List.getElem?_take, if_pos hid]
  have hlo : ∀ {id g}, id < H.length → renGc ρ' H.length L id g = ρ' id g := fun h => if_pos h
  have hhi : ∀ {id g}, ¬ id < H.length → renGc ρ' H.length L id g = match L[id - H.length]? with | some p => if g = 0 then ρ' p.1 p.2 else none | none => none := fun h => if_neg h
  have hcut : (ρ'.cut H.length).Le (renGc ρ' H.length L) := by
    refine ⟨fun id g l h => ?_, fun _ C h => ⟨C, h, .refl C⟩⟩
    obtain ⟨h1, h2⟩ := Ren.cut_some h
    rw [hlo h1]; exact h2
  have hH2 : ∀ {id b}, (H ++ rows.map fun cs => AB.row 0 cs true)[id]? = some b → (id < H.length ∧ H[id]? = some b) ∨ (¬ id < H.length ∧ ∃ p cs, L[id - H.length]? = some p ∧ H.length ≤ p.1 ∧ H'[p.1]? = some (.row p.2 cs true) ∧ immL cs = true ∧ b = .row 0 cs true) := by
    intro id b h
    rw [List.getElem?_append] at h
    split at h
    · exact .inl ⟨by assumption, h⟩
    · rename_i hn
      rw [List.getElem?_map] at h
      obtain ⟨cs, hcs, rfl⟩ := Option.map_eq_some_iff.1 h
      obtain ⟨p, hp, hk⟩ := hget _ _ hcs
      obtain ⟨h1, h2, h3⟩ := keepRow_some hk
      exact .inr ⟨hn, p, cs, hp, h1, h2, h3, rfl⟩
  have look : ∀ {id b l}, (H ++ rows.map fun cs => AB.row 0 cs true)[id]? = some b → renGc ρ' H.length L id b.gen = some l → ∃ k b', H'[k]? = some b' ∧ b'.isTok = b.isTok ∧ ρ' k b'.gen = some l ∧ ((id < H.length ∧ k = id) ∨ (¬ id < H.length ∧ H.length ≤ k ∧ (L.map (·.1))[id - H.length]? = some k)) := by
    intro id b l hb hl
    rcases hH2 hb with ⟨h1, h2⟩ | ⟨h1, p, cs, h2, h3, h4, h5, rfl⟩
    · rw [hlo h1] at hl
      exact ⟨id, b, by rw [hold h1]; exact h2, rfl, hl, .inl ⟨h1, rfl⟩⟩
    · rw [hhi h1, h2] at hl
      exact ⟨p.1, _, h4, rfl, hl, .inr ⟨h1, h3, by rw [List.getElem?_map, h2]; rfl⟩⟩
  refine ⟨⟨⟨fun id b hb hne => ?_, fun id g b hb hbo => ?_, fun i j bi bj li lj hij hi hj hli hlj ho1 ho2 => ?_, fun id g hid => ?_, fun id b g hb hg => ?_, hst.rel.size, fun k C hk => ?_, fun id n l C hb hl hC => ?_⟩, ⟨fun id g l hl => ?_, fun k C h => hst.le.m k C h⟩, hst.frame, fun k ho => ?_, hst.size, by simp, hst.os, hst.tape, hst.output, hst.newm⟩, fun p hp l hl => ?_⟩
  · rcases hH2 hb with ⟨h1, h2⟩ | ⟨h1, p, cs, h2, h3, h4, h5, rfl⟩
    · obtain ⟨l, hl, hk⟩ := hst.rel.blk id b (by rw [hold h1]; exact h2) hne
      obtain ⟨l0, hl0, hk0⟩ := hR.blk id b h2 hne
      refine ⟨l, (hlo h1).trans hl, BlkOk.mono hcut (hk.cut (ρ' := ρ) (fun id g h => hR.fresh id g h) hk0)⟩
    · obtain ⟨l, hl, hk⟩ := hst.rel.blk p.1 _ h4 rfl
      refine ⟨l, by rw [hhi h1, h2]; exact hl, ?_⟩
      obtain ⟨ho, C, t, fr, hC, hc, hr⟩ := hk
      refine ⟨ho, C, t, fr, hC, fun j v hv => ?_, hr⟩
      obtain ⟨u, a, r, c⟩ := hc j v hv
      exact ⟨u, a, imm_VC (ρ := ρ') (ρ2 := renGc ρ' H.length L) (fun _ C h => ⟨C, h, .refl C⟩) r (immL_iff.1 h5 v (List.mem_of_getElem? hv)), c⟩
  · rcases hH2 hb with ⟨h1, h2⟩ | ⟨_, _, _, _, _, _, _, rfl⟩
    · rw [hlo h1]
      exact hst.rel.hole id g b (by rw [hold h1]; exact h2) hbo
    · cases hbo
  · obtain ⟨k1, b1, h1, _, h2, h3⟩ := look hi hli
    obtain ⟨k2, b2, h4, _, h5, h6⟩ := look hj hlj
    refine hst.rel.inj k1 k2 b1 b2 li lj ?_ h1 h4 h2 h5 ho1 ho2
    rintro rfl
    rcases h3 with ⟨h3, rfl⟩ | ⟨h3, h3', h3''⟩ <;> rcases h6 with ⟨h6, e⟩ | ⟨h6, h6', h6''⟩
    · exact hij e
    · omega
    · omega
    · obtain ⟨hx1, hx2⟩ := List.getElem?_eq_some_iff.1 h3''
      obtain ⟨hy1, hy2⟩ := List.getElem?_eq_some_iff.1 h6''
      have hpw := List.pairwise_iff_getElem.1 hnd
      rcases Nat.lt_trichotomy (i - H.length) (j - H.length) with hlt | heq | hlt
      · exact hpw _ _ hx1 hy1 hlt (hx2.trans hy2.symm)
      · omega
      · exact hpw _ _ hy1 hx1 hlt (hy2.trans hx2.symm)
  · have hid' : H.length + L.length ≤ id := by simpa [hlen] using hid
    rw [hhi (by omega), List.getElem?_eq_none (by omega)]
  · rcases hH2 hb with ⟨h1, h2⟩ | ⟨h1, p, cs, h2, h3, h4, h5, rfl⟩
    · rw [hlo h1]
      exact hst.rel.gen id b g (by rw [hold h1]; exact h2) hg
    · rw [hhi h1, h2]
      simp only [AB.gen] at hg
      exact if_neg (by omega)
  · obtain ⟨h1, h2⟩ := hst.rel.imm k C hk
    refine ⟨h1, fun ho => ?_⟩
    obtain ⟨i, b, l, hb, ht, hl, hlo', hk'⟩ := ho
    obtain ⟨k1, b1, h3, ht', h4, _⟩ := look hb hl
    exact h2 ⟨k1, b1, l, h3, ht'.trans ht, h4, hlo', hk'⟩
  · rcases hH2 hb with ⟨h1, h2⟩ | ⟨_, _, _, _, _, _, _, h⟩
    · rw [hlo h1] at hl
      exact hst.rel.tok id n l C (by rw [hold h1]; exact h2) hl hC
    · cases h
  · have : id < H.length := by
      rcases Nat.lt_or_ge id H.length with h | h
      · exact h
      · rw [hR.fresh id g h] at hl; cases hl
    rw [hlo this]
    exact hst.le.r id g l hl
  · obtain ⟨i, b, l, hb, hl, hlo', hk⟩ := ho
    obtain ⟨k1, b1, h1, _, h2, _⟩ := look hb hl
    exact hst.new k ⟨k1, b1, l, h1, h2, hlo', hk⟩
  · unfold moveTo
    split
    · rename_i h1; rw [hlo h1]; exact hl
    · rename_i h1
      rcases hp with hp | hp
      · exact absurd hp h1
      · have hlt := List.idxOf_lt_length_of_mem hp
        rw [hhi (by simp), Nat.add_sub_cancel_left, List.getElem?_eq_getElem hlt, List.getElem_idxOf hlt]
        simpa using hl
theorem mem_fresh {n : Nat} {ps : List (Nat × Nat)} {p : Nat × Nat} (hp : p ∈ ps) (h : ¬ p.1 < n) : p ∈ fresh n ps := by
  unfold fresh
  rw [List.mem_eraseDups, List.mem_filter]
  exact ⟨hp, by simp; omega⟩
open Classical in
theorem gcC_ok1 {P : Program} : GcOk1 P gcC := by
  intro b0 ρ ρ' H H' W W' v u hR hv hst
  unfold gcC
  split
  · rename_i hc
    obtain ⟨hpre, hf⟩ := hc
    simp only
    split
    · rename_i rows hrows
      split
      · rename_i hnd
        obtain ⟨h1, h2⟩ := gc_step hR hst hpre hrows hnd
        refine ⟨_, ren_VR (ρ := ρ') (ρ2 := renGc ρ' H.length (fresh H.length (refR v))) (fun _ C h => ⟨C, h, .refl C⟩) (fun p hp => h2 p ?_) (fun p hp e => ?_) hf hv, h1⟩
        · by_cases h : p.1 < H.length
          · exact .inl h
          · exact .inr (mem_fresh hp h)
        · unfold moveTo; split <;> simp [e]
      · exact ⟨ρ', hv, hst⟩
    · exact ⟨ρ', hv, hst⟩
  · exact ⟨ρ', hv, hst⟩

/-! How it is used. -/
theorem renB_id {n : Nat} {L : List (Nat × Nat)} {v : V} (h : ∀ p ∈ refB v, p.1 < n) : renB (moveTo n L) v = v := by
  cases v <;> simp only [renB] <;> simp only [refB, List.mem_singleton, forall_eq] at h <;> simp only [moveTo, if_pos h]
theorem map_id_of {g : V → V} : ∀ {l : List V}, (∀ x ∈ l, g x = x) → l.map g = l
  | [], _ => rfl
  | x :: l, h => by rw [List.map_cons, h x (by simp), map_id_of fun y hy => h y (by simp [hy])]
theorem renA_id {n : Nat} {L : List (Nat × Nat)} {v : V} (h : ∀ p ∈ refA v, p.1 < n) : renA (moveTo n L) v = v := by
  by_cases hv : ∃ cs, v = .agg cs
  · obtain ⟨cs, rfl⟩ := hv
    simp only [renA]
    rw [map_id_of fun x hx => renB_id fun p hp => h p (by simp only [refA, List.mem_flatMap]; exact ⟨x, hx, hp⟩)]
  · obtain ⟨e1, _, e3, _⟩ := VA_of (f := moveTo n L) (v := v) fun cs e => hv ⟨cs, e⟩
    rw [e3]
    exact renB_id (e1 ▸ h)
theorem renR_id {n : Nat} {L : List (Nat × Nat)} {v : V} (h : ∀ p ∈ refR v, p.1 < n) : renR (moveTo n L) v = v := by
  by_cases hv : ∃ cs, v = .tup cs
  · obtain ⟨vs, rfl⟩ := hv
    simp only [renR]
    rw [map_id_of fun x hx => renA_id fun p hp => h p (by simp only [refR, List.mem_flatMap]; exact ⟨x, hx, hp⟩)]
  · obtain ⟨e1, _, e3, _⟩ := VR_of (f := moveTo n L) (v := v) fun cs e => hv ⟨cs, e⟩
    rw [e3]
    exact renA_id (e1 ▸ h)
/-- What leads to nothing new leaves nothing new. -/
theorem gc_old {H H' : Hp} {v : V} (hpre : H'.take H.length = H) (hf : fineR v = true) (h : ∀ p ∈ refR v, p.1 < H.length) : gcC H (v, H') = (v, H) := by
  have e : fresh H.length (refR v) = [] := by
    unfold fresh
    rw [List.filter_eq_nil_iff.2 fun p hp => by have := h p hp; simp; omega]
    rfl
  unfold gcC
  rw [if_pos ⟨hpre, hf⟩]
  simp only [e, mapO, List.map_nil, List.nodup_nil, if_true, List.append_nil]
  rw [renR_id h]
/-- One new row. -/
theorem gc_one {H H' : Hp} {v : V} {id g : Nat} {cs : List V} (hpre : H'.take H.length = H) (hf : fineR v = true) (hid : H.length ≤ id) (hr : H'[id]? = some (.row g cs true)) (hcs : immL cs = true) (hL : fresh H.length (refR v) = [(id, g)]) : gcC H (v, H') = (renR (moveTo H.length [(id, g)]) v, H ++ [.row 0 cs true]) := by
  unfold gcC
  rw [if_pos ⟨hpre, hf⟩]
  have : keepRow H H' (id, g) = some cs := by
    unfold keepRow
    rw [if_pos hid]
    simp only [hr]
    simp only [hcs, and_self, if_true]
  simp [hL, mapO, this]
end Go.An
/-
  The abstract machine, part Gf: what a call has made is laid into what it answers, where it can change no more. No statement of the seat stands here.
-/
namespace Go.An
open Go
set_option linter.unusedSectionVars false

/-- A plain value freed of new rows: what they hold is laid into it. -/
def inlB (n : Nat) (H : Hp) : Nat → V → Option V
  | 0, _ => none
  | f + 1, v => match v with
    | .slice id g off len sz cp => if id < n then some (.slice id g off len sz cp) else
      match H[id]? with
      | some (.row g' cs true) => if g' = g ∧ off + len * sz ≤ cs.length then (mapO (inlB n H f) ((cs.drop off).take (len * sz))).bind fun xs => if immL xs = true then some (.isl xs len sz) else none else none
      | _ => none
    | .ptr id g off => if id < n then some (.ptr id g off) else
      match H[id]? with
      | some (.row g' cs true) => if g' = g then (mapO (inlB n H f) cs).bind fun xs => if immL xs = true then some (.ipt xs off) else none else none
      | _ => none
    | .map id => if id < n then some (.map id) else none
    | .int k m => some (.int k m)
    | .bool b => some (.bool b)
    | .str s => some (.str s)
    | .nilptr => some .nilptr
    | .nilslice => some .nilslice
    | .nilmap => some .nilmap
    | .nilfn => some .nilfn
    | .nilif => some .nilif
    | .isl cs m sz => some (.isl cs m sz)
    | .ipt cs off => some (.ipt cs off)
    | .osl id cs m sz => if id < n then some (.osl id cs m sz) else some (V.osl id cs m sz).dem1
    | .yld id => if id < n then some (.yld id) else none
    | .undef | .fn .. | .agg _ | .tup _ | .ifc .. => none
def inlC (n : Nat) (H : Hp) (f : Nat) : V → Option V
  | .fn k a b => (mapO (inlB n H f) a).bind fun a' => (mapO (inlB n H f) b).map fun b' => .fn k a' b'
  | .ifc t b cs => (mapO (inlB n H f) cs).map fun cs' => .ifc t b cs'
  | v => inlB n H f v
def inlA (n : Nat) (H : Hp) (f : Nat) : V → Option V
  | .agg cs => (mapO (inlC n H f) cs).map .agg
  | v => inlC n H f v
def inlR (n : Nat) (H : Hp) (f : Nat) : V → Option V
  | .tup vs => (mapO (inlA n H f) vs).map .tup
  | v => inlA n H f v
def inlK (n : Nat) (H : Hp) (f : Nat) : AB → Option AB
  | .row g cs own => (mapO (inlC n H f) cs).map fun xs => .row g xs own
  | .map kt es => (mapO (fun e => (inlA n H f e.2).map fun v => (e.1, v)) es).map (.map kt)
  | .hole => some .hole
  | .tok n => some (.tok n)
  | .siter s p => some (.siter s p)
  | .dfr b => some (.dfr b)
  | .loop _ => none
/-- Neither a function nor an interface's value. -/
def V.nb : V → Bool
  | .fn .. | .ifc .. => false
  | _ => true

section
variable {P : Program} {b0 : Nat} {ρ ρ' : Ren} {H H' : Hp} {W W' : World}
open Classical in
/-- The blocks of the new rows stay as they are. -/
noncomputable def frzM (ρ' : Ren) (n : Nat) (H' : Hp) (W' : World) : Nat → Option (Array Value) := fun k =>
  if ∃ id g cs l, n ≤ id ∧ H'[id]? = some (.row g cs true) ∧ ρ' id g = some l ∧ l.blk = k then (match W'.heap[k]? with | some (.cells C _ _) => some C | _ => none) else ρ'.m k
noncomputable def frzR (ρ' : Ren) (n : Nat) (H' : Hp) (W' : World) : Ren := ⟨fun id g => if id < n then ρ' id g else none, frzM ρ' n H' W'⟩
theorem frzR_r (n id g : Nat) : frzR ρ' n H' W' id g = if id < n then ρ' id g else none := rfl

theorem frz_le (hR' : Rel P b0 ρ' H' W') (n : Nat) : ∀ k C, ρ'.m k = some C → ∃ C', frzM ρ' n H' W' k = some C' ∧ Sub C C' := by
  intro k C hk
  refine ⟨C, ?_, .refl C⟩
  unfold frzM
  rw [if_neg]
  · exact hk
  · rintro ⟨id, g, cs, l, _, h2, h3, h4⟩
    obtain ⟨l', hl', hb⟩ := hR'.blk id _ h2 rfl
    simp only [AB.gen] at hl'
    rw [h3] at hl'
    injection hl' with e
    subst e
    exact (hR'.imm k C hk).2 ⟨id, _, l, h2, rfl, h3, hb.1, h4⟩
theorem frz_new (hR' : Rel P b0 ρ' H' W') {n id g : Nat} {cs : List V} {l : Loc} (hn : n ≤ id) (hb : H'[id]? = some (.row g cs true)) (hl : ρ' id g = some l) : ∃ C, frzM ρ' n H' W' l.blk = some C ∧ CellsRel ρ' cs C l.base ∧ l.own = true := by
  obtain ⟨l', hl', hk⟩ := hR'.blk id _ hb rfl
  simp only [AB.gen] at hl'
  rw [hl] at hl'
  injection hl' with e
  subst e
  obtain ⟨ho, C, t, fr, hC, hcr, _⟩ := hk
  refine ⟨C, ?_, hcr, ho⟩
  unfold frzM
  rw [if_pos ⟨id, g, cs, l, hn, hb, hl, rfl⟩, hC]

theorem mapO_at {α β : Type} {f : α → Option β} : ∀ {l : List α} {r : List β}, mapO f l = some r → ∀ (i : Nat) (x : α), l[i]? = some x → ∃ y, r[i]? = some y ∧ f x = some y := by
  intro l r h i x hx
  obtain ⟨h1, h2⟩ := mapO_get h
  have hi : i < r.length := by rw [h1]; exact (List.getElem?_eq_some_iff.1 hx).1
  obtain ⟨x', h3, h4⟩ := h2 i _ (List.getElem?_eq_getElem hi)
  rw [hx] at h3
  injection h3 with e
  subst e
  exact ⟨_, List.getElem?_eq_getElem hi, h4⟩
theorem base_VB {v : V} {u : Value} (h : VC ρ v u) (hf : v.nb = true) : VB ρ v u := by
  cases v <;> first | exact h | cases hf
theorem VB_VC {v : V} {u : Value} (h : VB ρ v u) (hf : v.nb = true) : VC ρ v u := by
  cases v <;> first | exact h | cases hf
theorem inlB_nf {n f : Nat} {v v' : V} (h : inlB n H' f v = some v') : v.nb = true ∧ v'.nb = true ∧ v'.isCell = true := by
  cases f with
  | zero => cases h
  | succ f =>
    simp only [inlB] at h
    cases v <;> simp only [reduceCtorEq] at h
    case slice id g off len sz cp =>
      split at h
      · injection h with h; subst h; simp [V.isCell, V.nb]
      · split at h
        · split at h
          · obtain ⟨xs, _, h⟩ := Option.bind_eq_some_iff.1 h
            split at h
            · injection h with h; subst h; simp [V.isCell, V.nb]
            · cases h
          · cases h
        · cases h
    case ptr id g off =>
      split at h
      · injection h with h; subst h; simp [V.isCell, V.nb]
      · split at h
        · split at h
          · obtain ⟨xs, _, h⟩ := Option.bind_eq_some_iff.1 h
            split at h
            · injection h with h; subst h; simp [V.isCell, V.nb]
            · cases h
          · cases h
        · cases h
    case map id =>
      split at h
      · injection h with h; subst h; simp [V.isCell, V.nb]
      · cases h
    case yld id =>
      split at h
      · injection h with h; subst h; simp [V.isCell, V.nb]
      · cases h
    case osl id cs m sz =>
      split at h
      · injection h with h; subst h; simp [V.isCell, V.nb]
      · injection h with h; subst h; simp only [V.dem1]; split <;> simp [V.isCell, V.nb]
    all_goals (injection h with h; subst h; simp [V.isCell, V.nb])

theorem inlB_ok (hR' : Rel P b0 ρ' H' W') {n : Nat} : ∀ (f : Nat) {v v' : V} {u : Value}, VB ρ' v u → inlB n H' f v = some v' → VB (frzR ρ' n H' W') v' u
  | 0, _, _, _, _, h => by cases h
  | f + 1, v, v', u, hv, h => by
    have hle := frz_le hR' n
    have seg : ∀ {xs ys : List V} {C : Array Value} {base : Nat}, CellsRel ρ' xs C base → mapO (inlB n H' f) xs = some ys → immL ys = true → VIs (frzM ρ' n H' W') ys C base := by
      intro xs ys C base hc hm hi
      refine VIs_iff.2 fun j y hy => ?_
      obtain ⟨x, h1, h2⟩ := (mapO_get hm).2 j y hy
      obtain ⟨w, h3, h4, h5⟩ := hc j x h1
      have h6 := inlB_ok hR' f (base_VB h4 (inlB_nf h2).1) h2
      exact ⟨w, h3, h5, (VB_VC h6 (inlB_nf h2).2.1).vi (ρ := frzR ρ' n H' W') (immL_iff.1 hi y (List.mem_of_getElem? hy))⟩
    simp only [inlB] at h
    cases v <;> simp only [reduceCtorEq] at h
    case slice id g off len sz cp =>
      obtain ⟨l, a, c, hl, rfl, hlc, ha, hcap, hcp⟩ := hv
      split at h
      · rename_i hid
        injection h with h; subst h
        exact ⟨l, a, c, by rw [frzR_r, if_pos hid]; exact hl, rfl, hlc, ha, hcap, hcp⟩
      · rename_i hid
        split at h
        · rename_i g' cs hb
          split at h
          · rename_i hc
            obtain ⟨rfl, hfit⟩ := hc
            obtain ⟨xs, hxs, h⟩ := Option.bind_eq_some_iff.1 h
            split at h
            · rename_i hi
              injection h with h; subst h
              obtain ⟨C, hC, hcr, _⟩ := frz_new hR' (Nat.le_of_not_lt hid) hb hl
              show VI (frzM ρ' n H' W') _ _
              simp only [VI]
              refine ⟨a, c, rfl, hlc, ?_⟩
              rcases ha with rfl | h0
              · refine .inr ⟨_, _, C, rfl, hC, seg (fun j v hj => ?_) hxs hi⟩
                rw [List.getElem?_take] at hj
                split at hj
                · rw [List.getElem?_drop] at hj
                  obtain ⟨w, h1, h2⟩ := hcr _ v hj
                  exact ⟨w, by rwa [← Nat.add_assoc] at h1, h2⟩
                · cases hj
              · left
                have hl0 : len = 0 := by omega
                subst hl0
                simp only [Nat.zero_mul, List.take_zero, mapO, Option.some.injEq] at hxs
                exact hxs.symm
            · cases h
          · cases h
        · cases h
    case ptr id g off =>
      obtain ⟨l, hl, rfl⟩ := hv
      split at h
      · rename_i hid
        injection h with h; subst h
        exact ⟨l, by rw [frzR_r, if_pos hid]; exact hl, rfl⟩
      · rename_i hid
        split at h
        · rename_i g' cs hb
          split at h
          · rename_i hc
            subst hc
            obtain ⟨xs, hxs, h⟩ := Option.bind_eq_some_iff.1 h
            split at h
            · rename_i hi
              injection h with h; subst h
              obtain ⟨C, hC, hcr, _⟩ := frz_new hR' (Nat.le_of_not_lt hid) hb hl
              show VI (frzM ρ' n H' W') _ _
              simp only [VI]
              exact ⟨_, _, C, rfl, hC, seg hcr hxs hi⟩
            · cases h
          · cases h
        · cases h
    case map id =>
      obtain ⟨l, hl, rfl⟩ := hv
      split at h
      · rename_i hid
        injection h with h; subst h
        exact ⟨l, by rw [frzR_r, if_pos hid]; exact hl, rfl⟩
      · cases h
    case osl id cs m sz =>
      split at h
      · rename_i hid
        injection h with h; subst h
        rcases hv with hv | ⟨h0, h1, h2, l, c, C, h3, h4, h5, h6, h7, h8⟩
        · exact .inl hv
        · obtain ⟨C', h9, h10⟩ := hle _ _ h7
          exact .inr ⟨h0, h1, h2, l, c, C', by rw [frzR_r, if_pos hid]; exact h3, h4, h5, h6, h9, h8.mono hle h10⟩
      · injection h with h; subst h
        have hd := dem1_VB hv
        simp only [V.dem1] at hd ⊢
        split at hd
        · rename_i e; rw [if_pos e]; exact hd
        · rename_i e; rw [if_neg e]; exact VI.mono hle hd
    case yld id =>
      obtain ⟨l, hl, rfl⟩ := hv
      split at h
      · rename_i hid
        injection h with h; subst h
        exact ⟨l, by rw [frzR_r, if_pos hid]; exact hl, rfl⟩
      · cases h
    case isl cs m sz =>
      injection h with h; subst h
      exact VI.mono hle hv
    case ipt cs off =>
      injection h with h; subst h
      exact VI.mono hle hv
    all_goals (injection h with h; subst h; exact hv)
theorem VL_mapO {R R' : V → Value → Prop} {g : V → Option V} (hg : ∀ v v' u, R v u → g v = some v' → R' v' u) : ∀ {vs ws : List V} {us : List Value}, VL R vs us → mapO g vs = some ws → VL R' ws us
  | [], ws, [], _, h => by
    simp only [mapO, Option.some.injEq] at h
    subst h
    trivial
  | v :: vs, ws, u :: us, hv, h => by
    simp only [mapO] at h
    obtain ⟨y, h1, h2⟩ := Option.bind_eq_some_iff.1 h
    obtain ⟨ys, h3, rfl⟩ := Option.map_eq_some_iff.1 h2
    exact ⟨hg _ _ _ hv.1 h1, VL_mapO hg hv.2 h3⟩
  | [], _, _ :: _, hv, _ => hv.elim
  | _ :: _, _, [], hv, _ => hv.elim
theorem inlC_nb {n f : Nat} {v : V} (h : v.nb = true) : inlC n H' f v = inlB n H' f v := by cases v <;> first | rfl | cases h
theorem inlC_ok (hR' : Rel P b0 ρ' H' W') {n f : Nat} {v v' : V} {u : Value} (hv : VC ρ' v u) (h : inlC n H' f v = some v') : VC (frzR ρ' n H' W') v' u := by
  cases hf : v.nb with
  | true =>
    rw [inlC_nb hf] at h
    exact VB_VC (inlB_ok hR' f (base_VB hv hf) h) (inlB_nf h).2.1
  | false =>
    have hB : ∀ v v' u, VB ρ' v u → inlB n H' f v = some v' → VB (frzR ρ' n H' W') v' u := fun _ _ _ h1 h2 => inlB_ok hR' f h1 h2
    cases v <;> simp only [V.nb, reduceCtorEq] at hf
    · simp only [inlC] at h
      obtain ⟨a', h1, h2⟩ := Option.bind_eq_some_iff.1 h
      obtain ⟨b', h3, rfl⟩ := Option.map_eq_some_iff.1 h2
      obtain ⟨x, y, e, r, s⟩ := hv
      exact ⟨x, y, e, VL_mapO (R := VB ρ') (R' := VB (frzR ρ' n H' W')) hB r h1, VL_mapO (R := VB ρ') (R' := VB (frzR ρ' n H' W')) hB s h3⟩
    · simp only [inlC] at h
      obtain ⟨cs', h1, rfl⟩ := Option.map_eq_some_iff.1 h
      obtain ⟨x, y, e, r, s⟩ := hv
      exact ⟨x, y, e, VL_mapO (R := VB ρ') (R' := VB (frzR ρ' n H' W')) hB r h1, s⟩
theorem inlC_cell {n f : Nat} {v v' : V} (h : inlC n H' f v = some v') : v'.isCell = true := by
  cases hf : v.nb with
  | true =>
    rw [inlC_nb hf] at h
    exact (inlB_nf h).2.2
  | false =>
    cases v <;> simp only [V.nb, reduceCtorEq] at hf
    · simp only [inlC] at h
      obtain ⟨a', h1, h2⟩ := Option.bind_eq_some_iff.1 h
      obtain ⟨b', h3, rfl⟩ := Option.map_eq_some_iff.1 h2
      rfl
    · simp only [inlC] at h
      obtain ⟨cs', h1, rfl⟩ := Option.map_eq_some_iff.1 h
      rfl
theorem cell_VA {v : V} {u : Value} (h : VC ρ v u) (hc : v.isCell = true) : VA ρ v u := h.va hc
theorem inlA_ok (hR' : Rel P b0 ρ' H' W') {n f : Nat} {v v' : V} {u : Value} (hv : VA ρ' v u) (h : inlA n H' f v = some v') : VA (frzR ρ' n H' W') v' u ∧ elemOk v' = true := by
  by_cases hf : ∃ cs, v = .agg cs
  · obtain ⟨cs, rfl⟩ := hf
    simp only [inlA] at h
    obtain ⟨ys, h1, rfl⟩ := Option.map_eq_some_iff.1 h
    obtain ⟨us, e, r⟩ := hv
    refine ⟨⟨us, e, VL_mapO (R := VC ρ') (R' := VC (frzR ρ' n H' W')) (fun _ _ _ h1 h2 => inlC_ok hR' h1 h2) r h1⟩, ?_⟩
    simp only [elemOk, List.all_eq_true]
    intro y hy
    obtain ⟨i, hi⟩ := List.getElem?_of_mem hy
    obtain ⟨x, _, h3⟩ := (mapO_get h1).2 i y hi
    exact inlC_cell h3
  · have hf' : ∀ cs, v ≠ .agg cs := fun cs e => hf ⟨cs, e⟩
    have e : inlA n H' f v = inlC n H' f v := by cases v <;> first | rfl | exact absurd rfl (hf' _)
    rw [e] at h
    have hv' : VC ρ' v u := by cases v <;> first | exact hv | exact absurd rfl (hf' _)
    have hc := inlC_cell h
    refine ⟨cell_VA (inlC_ok hR' hv' h) hc, ?_⟩
    cases v' <;> first | exact hc | (simp [V.isCell] at hc; done)
theorem inlR_ok (hR' : Rel P b0 ρ' H' W') {n f : Nat} {v v' : V} {u : Value} (hv : VR ρ' v u) (h : inlR n H' f v = some v') : VR (frzR ρ' n H' W') v' u := by
  by_cases hf : ∃ cs, v = .tup cs
  · obtain ⟨cs, rfl⟩ := hf
    simp only [inlR] at h
    obtain ⟨ys, h1, rfl⟩ := Option.map_eq_some_iff.1 h
    obtain ⟨us, e, r⟩ := hv
    exact ⟨us, e, VL_mapO (R := VA ρ') (R' := VA (frzR ρ' n H' W')) (fun _ _ _ h1 h2 => (inlA_ok hR' h1 h2).1) r h1⟩
  · have hf' : ∀ cs, v ≠ .tup cs := fun cs e => hf ⟨cs, e⟩
    have e : inlR n H' f v = inlA n H' f v := by cases v <;> first | rfl | exact absurd rfl (hf' _)
    rw [e] at h
    have hv' : VA ρ' v u := hv.va hf'
    exact (inlA_ok hR' hv' h).1.toVR

/-- A key leads nowhere. -/
theorem ck_VL {ρ2 : Ren} : ∀ {ks : List CK} {vs : List V} {us : List Value}, ckOks ks vs = true → VL (VC ρ) vs us → VL (VC ρ2) vs us
  | [], [], [], _, _ => trivial
  | k :: ks, v :: vs, u :: us, h, hv => by
    simp only [ckOks, Bool.and_eq_true] at h
    refine ⟨?_, ck_VL h.2 hv.2⟩
    have h1 := hv.1
    have h2 := h.1
    cases k <;> cases v <;> simp [ckOk] at h2 <;> exact h1
  | [], [], _ :: _, _, hv => hv.elim
  | [], _ :: _, _, h, _ => by simp [ckOks] at h
  | _ :: _, [], _, h, _ => by simp [ckOks] at h
  | _ :: _, _ :: _, [], _, hv => hv.elim
theorem key_rho {ρ2 : Ren} {kt : TypeId} {k : V} {u : Value} (hk : keyOk P kt k = true) (h : VA ρ k u) : VA ρ2 k u := by
  obtain ⟨ks, _, h2, _⟩ := keyOk_spec hk
  cases k
  case agg cs =>
    obtain ⟨us, e, r⟩ := h
    exact ⟨us, e, ck_VL h2 r⟩
  all_goals
    simp only [V.cells] at h2
    rcases ks with _ | ⟨c, _ | ⟨d, ks⟩⟩
    · simp [ckOks] at h2
    · cases c <;> simp [ckOks, ckOk] at h2 <;> exact h
    · simp [ckOks] at h2
theorem inlK_gen {n f : Nat} {b b' : AB} (h : inlK n H' f b = some b') : b'.gen = b.gen ∧ b'.ho = b.ho ∧ b'.isTok = b.isTok := by
  cases b <;> simp only [inlK] at h
  · obtain ⟨xs, _, rfl⟩ := Option.map_eq_some_iff.1 h; exact ⟨rfl, rfl, rfl⟩
  · obtain ⟨xs, _, rfl⟩ := Option.map_eq_some_iff.1 h; exact ⟨rfl, rfl, rfl⟩
  · injection h with h; subst h; exact ⟨rfl, rfl, rfl⟩
  · injection h with h; subst h; exact ⟨rfl, rfl, rfl⟩
  · injection h with h; subst h; exact ⟨rfl, rfl, rfl⟩
  · cases h
  · injection h with h; subst h; exact ⟨rfl, rfl, rfl⟩
theorem inlK_ok (hR' : Rel P b0 ρ' H' W') {n f : Nat} {b b' : AB} {l : Loc} (hb : BlkOk P b0 ρ' W' l b) (h : inlK n H' f b = some b') : BlkOk P b0 (frzR ρ' n H' W') W' l b' := by
  cases b with
  | row g cs own =>
    simp only [inlK] at h
    obtain ⟨xs, h1, rfl⟩ := Option.map_eq_some_iff.1 h
    obtain ⟨ho, C, t, fr, hC, hcr, hcap, hlo⟩ := hb
    have hl := (mapO_get h1).1
    refine ⟨ho, C, t, fr, hC, fun j v hv => ?_, fun e => ?_, hlo⟩
    · obtain ⟨x, h2, h3⟩ := (mapO_get h1).2 j v hv
      obtain ⟨u, h4, h5, h6⟩ := hcr j x h2
      exact ⟨u, h4, inlC_ok hR' h5 h3, h6⟩
    · rw [hl]; exact hcap e
  | map kt es =>
    simp only [inlK] at h
    obtain ⟨xs, h1, rfl⟩ := Option.map_eq_some_iff.1 h
    obtain ⟨ho, hb0, ents, clk, hC, hE⟩ := hb
    refine ⟨ho, hb0, ents, clk, hC, ⟨by rw [(mapO_get h1).1]; exact hE.size, fun i e he => ?_, hE.born⟩⟩
    obtain ⟨x, h2, h3⟩ := (mapO_get h1).2 i e he
    obtain ⟨v, h4, rfl⟩ := Option.map_eq_some_iff.1 h3
    obtain ⟨m, r1, r2, r3, r4, r5, r6⟩ := hE.at_ i x h2
    obtain ⟨r7, r8⟩ := inlA_ok hR' r3 h4
    exact ⟨m, r1, key_rho r4 r2, r7, r4, r8, r6⟩
  | hole => exact hb.elim
  | tok m =>
    simp only [inlK, Option.some.injEq] at h
    subst h
    obtain ⟨h0, h1, h2, h3, C, h4⟩ := hb
    obtain ⟨C', h5, _⟩ := frz_le hR' n _ _ h4
    exact ⟨h0, h1, h2, h3, C', h5⟩
  | siter s p =>
    simp only [inlK, Option.some.injEq] at h
    subst h
    exact hb
  | dfr b =>
    simp only [inlK, Option.some.injEq] at h
    subst h
    exact hb
  | loop L => simp [inlK] at h

open Classical in
/-- The blocks that were there: as they are, or with what is new laid into them. -/
noncomputable def frzK (H H' : Hp) (id : Nat) : Option AB := if H'[id]? = H[id]? then H[id]? else match H[id]?, H'[id]? with
  | some (.loop L), some (.loop L') => if L'.T = L.T then some (.loop L') else none
  | _, b => b.bind (inlK H.length H' 8)
noncomputable def gcF (H : Hp) (r : V × Hp) : V × Hp :=
  match inlR H.length r.2 8 r.1, mapO (frzK H r.2) (List.range H.length) with
  | some v, some bs => (v, bs)
  | _, _ => r

theorem gcF_ok1 : GcOk1 P gcF := by
  intro b0 ρ ρ' H H' W W' v u hR hv hst
  unfold gcF
  split
  · rename_i v' bs hv' hbs
    simp only at hv' hbs ⊢
    have hR' := hst.rel
    have hM := frz_le hR' H.length
    have hbl : bs.length = H.length := by rw [(mapO_get hbs).1, List.length_range]
    have hat : ∀ {id : Nat} {b : AB}, bs[id]? = some b → id < H.length ∧ ∃ b1, H'[id]? = some b1 ∧ b.gen = b1.gen ∧ (b.ho = b1.ho ∧ b.isTok = b1.isTok) ∧ (∀ l, BlkOk P b0 ρ' W' l b1 → b1.ho = false → ρ' id b1.gen = some l → BlkOk P b0 (frzR ρ' H.length H' W') W' l b) := by
      intro id b hb
      have hlt : id < H.length := by rw [← hbl]; exact (List.getElem?_eq_some_iff.1 hb).1
      obtain ⟨x, h1, h2⟩ := (mapO_get hbs).2 id b hb
      rw [List.getElem?_range hlt] at h1
      injection h1 with h1
      subst h1
      refine ⟨hlt, ?_⟩
      unfold frzK at h2
      split at h2
      · rename_i he
        refine ⟨b, by rw [he, h2], rfl, ⟨rfl, rfl⟩, fun l hk hne hl => ?_⟩
        obtain ⟨l0, hl0, hk0⟩ := hR.blk id b h2 hne
        have hcut := hk.cut (ρ' := ρ) (n := H.length) (fun i g h => hR.fresh i g h) hk0
        have hle2 : (ρ'.cut H.length).Le (frzR ρ' H.length H' W') := by
          refine ⟨fun i g l' h => ?_, hM⟩
          obtain ⟨h3, h4⟩ := Ren.cut_some h
          rw [frzR_r, if_pos h3]
          exact h4
        exact hcut.mono hle2
      · split at h2
        · rename_i L L' e1 e2
          split at h2
          · rename_i hT
            injection h2 with h2
            subst h2
            refine ⟨_, e2, rfl, ⟨rfl, rfl⟩, fun l hk _ hl => ?_⟩
            obtain ⟨l0, hl0, hk0⟩ := hR.blk id _ e1 rfl
            have hle2 : (ρ'.cut H.length).Le (frzR ρ' H.length H' W') := by
              refine ⟨fun i g l' h => ?_, hM⟩
              obtain ⟨h3, h4⟩ := Ren.cut_some h
              rw [frzR_r, if_pos h3]
              exact h4
            obtain ⟨k1, k2, r, k3, k4⟩ := hk
            obtain ⟨_, _, r0, _, k5⟩ := hk0
            exact ⟨k1, k2, r, k3, ⟨fun i => ((k4.fr i).cut (ρ' := ρ) (n := H.length) (fun i g h => hR.fresh i g h) (hT ▸ k5.fr i)).mono hle2, k4.sz, k4.ps, k4.ca, k4.cb, k4.st, k4.pend⟩⟩
          · cases h2
        · obtain ⟨b1, h3, h4⟩ := Option.bind_eq_some_iff.1 h2
          obtain ⟨h5, h6⟩ := inlK_gen h4
          exact ⟨b1, h3, h5, h6, fun l hk _ _ => inlK_ok hR' hk h4⟩
    have hownR : ∀ k, OwnedR (frzR ρ' H.length H' W') bs k → ∃ i b1 l, i < H.length ∧ H'[i]? = some b1 ∧ b1.isTok = false ∧ ρ' i b1.gen = some l ∧ l.own = true ∧ l.blk = k := by
      rintro k ⟨i, b, l, hb, ht, hl, ho, e⟩
      obtain ⟨h1, b1, h2, h3, h4, _⟩ := hat hb
      rw [frzR_r, if_pos h1, h3] at hl
      exact ⟨i, b1, l, h1, h2, h4.2 ▸ ht, hl, ho, e⟩
    have hown : ∀ k, Owned (frzR ρ' H.length H' W') bs k → ∃ i b1 l, i < H.length ∧ H'[i]? = some b1 ∧ ρ' i b1.gen = some l ∧ l.own = true ∧ l.blk = k := by
      rintro k ⟨i, b, l, hb, hl, ho, e⟩
      obtain ⟨h1, b1, h2, h3, _⟩ := hat hb
      rw [frzR_r, if_pos h1, h3] at hl
      exact ⟨i, b1, l, h1, h2, hl, ho, e⟩
    have hm : ∀ k C, frzM ρ' H.length H' W' k = some C → (∃ A t fr, W'.heap[k]? = some (.cells A t fr) ∧ Sub C A) ∧ ((∃ id g cs l, H.length ≤ id ∧ H'[id]? = some (.row g cs true) ∧ ρ' id g = some l ∧ l.blk = k) ∨ ρ'.m k = some C) := by
      intro k C hk
      unfold frzM at hk
      split at hk
      · rename_i he
        refine ⟨?_, .inl he⟩
        split at hk
        · rename_i C' t fr hC
          injection hk with hk
          subst hk
          exact ⟨_, t, fr, hC, .refl _⟩
        · cases hk
      · exact ⟨(hR'.imm k C hk).1, .inr hk⟩
    have himm : ∀ k C, (frzR ρ' H.length H' W').m k = some C → (∃ A t fr, W'.heap[k]? = some (.cells A t fr) ∧ Sub C A) ∧ ¬ OwnedR (frzR ρ' H.length H' W') bs k := by
      intro k C hk
      obtain ⟨h1, h2⟩ := hm k C hk
      refine ⟨h1, fun ho => ?_⟩
      obtain ⟨i, b1, l, h3, h4, ht, h5, h6, h7⟩ := hownR k ho
      rcases h2 with ⟨id, g, cs, l2, k1, k2, k3, k4⟩ | h2
      · obtain ⟨_, _, _, hlo⟩ := frz_new hR' k1 k2 k3
        exact hR'.inj i id b1 _ l l2 (by omega) h4 k2 h5 k3 h6 hlo (h7.trans k4.symm)
      · exact (hR'.imm k C h2).2 ⟨i, b1, l, h4, ht, h5, h6, h7⟩
    have hlen := hst.len
    refine ⟨frzR ρ' H.length H' W', inlR_ok hR' hv hv', ⟨⟨fun id b hb hne => ?_, fun id g b hb hbo => ?_, fun i j bi bj li lj hij hi hj hli hlj ho1 ho2 => ?_, fun id g hid => ?_, fun id b g hb hg => ?_, hR'.size, himm, fun id m l C hb hl hC => ?_⟩, ⟨fun id g l hl => ?_, fun k C hk => let ⟨C1, k1, k2⟩ := hst.le.m k C hk; let ⟨C2, k3, k4⟩ := hM k C1 k1; ⟨C2, k3, k2.trans k4⟩⟩, hst.frame, fun k ho => ?_, hst.size, by rw [hbl]; exact Nat.le_refl _, hst.os, hst.tape, hst.output, fun k C hk => ?_⟩⟩
    · obtain ⟨h1, b1, h2, h3, h4, h5⟩ := hat hb
      have hne1 : b1.ho = false := h4.1 ▸ hne
      obtain ⟨l, hl, hk⟩ := hR'.blk id b1 h2 hne1
      exact ⟨l, by rw [frzR_r, if_pos h1, h3]; exact hl, h5 l hk hne1 hl⟩
    · obtain ⟨h1, b1, h2, h3, h4, _⟩ := hat hb
      rw [frzR_r, if_pos h1]
      exact hR'.hole id g b1 h2 (h4.1 ▸ hbo)
    · obtain ⟨h1, b1, h2, h3, _⟩ := hat hi
      obtain ⟨h4, b2, h5, h6, _⟩ := hat hj
      rw [frzR_r, if_pos h1, h3] at hli
      rw [frzR_r, if_pos h4, h6] at hlj
      exact hR'.inj i j b1 b2 li lj hij h2 h5 hli hlj ho1 ho2
    · rw [hbl] at hid
      rw [frzR_r, if_neg (by omega)]
    · obtain ⟨h1, b1, h2, h3, _⟩ := hat hb
      rw [frzR_r, if_pos h1]
      rw [h3] at hg
      exact hR'.gen id b1 g h2 hg
    · obtain ⟨h1, b1, h2, h3, h4, _⟩ := hat hb
      rw [frzR_r, if_pos h1] at hl
      have hb1 : b1 = .tok m := by
        have h5 : true = b1.isTok := h4.2
        cases b1 <;> simp only [AB.isTok, reduceCtorEq] at h5
        simp only [AB.gen] at h3
        rw [h3]
      subst hb1
      rcases (hm _ C hC).2 with ⟨id2, g, cs, l2, k1, k2, k3, k4⟩ | k
      · obtain ⟨_, _, _, hlo⟩ := frz_new hR' k1 k2 k3
        exact absurd k4.symm (hR'.inj id id2 _ _ l l2 (by omega) h2 k2 hl k3 (hR'.at_ h2 hl).2.1 hlo)
      · exact hR'.tok id m l C h2 hl k
    · have : id < H.length := by
        rcases Nat.lt_or_ge id H.length with h | h
        · exact h
        · rw [hR.fresh id g h] at hl; cases hl
      rw [frzR_r, if_pos this]
      exact hst.le.r id g l hl
    · obtain ⟨i, b1, l, h3, h4, h5, h6, h7⟩ := hown k ho
      exact hst.new k ⟨i, b1, l, h4, h5, h6, h7⟩
    · obtain ⟨h1, h2⟩ := hm k C hk
      rcases h2 with ⟨id, g, cs, l2, k1, k2, k3, k4⟩ | h2
      · obtain ⟨_, _, _, hlo⟩ := frz_new hR' k1 k2 k3
        exact .inr (hst.new k ⟨id, _, l2, k2, k3, hlo, k4⟩)
      · exact hst.newm k C h2
  · exact ⟨ρ', hv, hst⟩
end

/-- Of each function: what becomes of what it has made: 0 it is as it is, 1 it stays as it is for good, 2 the rows of the answer are kept, else. -/
noncomputable def gcM (md : Nat → Nat) (k : Nat) : Hp → V × Hp → V × Hp := if md k = 0 then (fun _ r => r) else if md k = 1 then gcF else gcC
def GcOk (P : Program) (gc : Nat → Hp → V × Hp → V × Hp) : Prop := ∀ k, GcOk1 P (gc k)
theorem gcM_ok {P : Program} (md : Nat → Nat) : GcOk P (gcM md) := by
  intro k
  unfold gcM
  split
  · exact gcId_ok1
  · split
    · exact gcF_ok1
    · exact gcC_ok1
theorem gcId_ok {P : Program} : GcOk P (fun _ _ r => r) := fun _ => gcId_ok1
end Go.An
/-
  The abstract machine, part X: a lock, met by its contract. No statement of the seat stands here.
-/
namespace Go.An
open Go Go.Conc.Locks
set_option linter.unusedSectionVars false

/-- A lock's word is turned from one number to another one. -/
def wordV (x y : Int) : List V → Hp → Option (V × Hp)
  | [.ptr id g off], H => (getRow H id g).bind fun r => match r.1[off]? with
    | some (.int .i32 n) => if n = x ∧ r.2 = true then some (.tup [], H.set id (.row g (setAt r.1 off [.int .i32 y]) true)) else none
    | _ => none
  | _, _ => none
def muPr (L : MuLink) (gc : Nat → Hp → V × Hp → V × Hp := fun _ _ r => r) : Prims :=
  ⟨fun k => if k = L.lock then some (wordV 0 1) else if k = L.unlock then some (wordV 1 0) else none,
   fun k => if k = L.unlock then some fun a H => (wordV 1 0 a H).map (·.2) else none, gc⟩

section
variable [Orc]
variable {P : Program} {b0 : Nat} {ρ : Ren} {H H' : Hp} {W : World}

theorem word_sim {x y : Int} {args : List V} {v : V} (h : wordV x y args H = some (v, H')) (hR : Rel P b0 ρ H W) {us : Array Value} (ha : VL (VR ρ) args us.toList) :
    ∃ a : Addr, us = #[.pointer (some a)] ∧ W.cell? a = some (.int .i32 x) ∧ W.frozen? a = false ∧ v = .tup [] ∧ Step P b0 ρ ρ H H' W (W.setCell a (.int .i32 y)) := by
  unfold wordV at h
  split at h
  · rename_i id g off
    cases hg : getRow H id g with
    | none => rw [hg] at h; cases h
    | some r =>
      rw [hg] at h
      simp only [Option.bind_some] at h
      split at h
      · rename_i n hr
        split at h
        · rename_i hc
          obtain ⟨rfl, ho⟩ := hc
          simp only [Option.some.injEq, Prod.mk.injEq] at h
          obtain ⟨rfl, rfl⟩ := h
          obtain ⟨l, hl, hu⟩ : ∃ l, ρ id g = some l ∧ us = #[.pointer (some ⟨l.blk, l.base + off, none⟩)] := by
            obtain ⟨us, rfl⟩ : ∃ l, us = List.toArray l := ⟨us.toList, by simp⟩
            match us, ha with
            | [u], ha =>
              obtain ⟨l, hl, hu⟩ := ha.1
              exact ⟨l, hl, by rw [hu]⟩
          obtain ⟨hid, hlo, hlb, C, t, fr, hC, hcr, hfr, hCs, hlt⟩ := row_own hR hg ho hl
          obtain ⟨u', hu', hv', _⟩ := hcr off _ hr
          obtain rfl : u' = .int .i32 n := hv'
          have hb : l.base + off < C.size := (Array.getElem?_eq_some_iff.1 hu').1
          have hoff : off < r.1.length := (List.getElem?_eq_some_iff.1 hr).1
          refine ⟨_, hu, ?_, ?_, rfl, ?_⟩
          · simpa [World.cell?, hC] using hu'
          · unfold World.frozen?
            rw [hC]
            have := hfr.at (l.base + off) hb
            simp only [Bool.and_eq_false_iff, decide_eq_false_iff_not]
            omega
          · rw [setCell_eq_setRow W l.blk (l.base + off) C t fr _ hC]
            have hs := hcr.set (vs := [.int .i32 y]) (us := [.int .i32 y]) (off := off) ⟨rfl, trivial⟩ (by simp [Value.oneCell']) hoff (by omega)
            have e : (C.toList.take (l.base + off) ++ [Value.int .i32 y] ++ C.toList.drop (l.base + off + 1)).toArray = C.setIfInBounds (l.base + off) (.int .i32 y) := by
              apply Array.ext'
              rw [Array.toList_setIfInBounds]
              rw [List.set_eq_take_append_cons_drop]
              simp [hb]
            simp only [List.length_singleton] at hs
            rw [e] at hs
            exact hR.put hid rfl hl hs (by simp [hCs]) (by rw [setAt_length _ _ _ hoff]; exact hlt)
        · cases h
      · cases h
  · cases h

theorem muPr_ok {L : MuLink} (hl : MuLib P L) {gc : Nat → Hp → V × Hp → V × Hp} (hgc : GcOk P gc) : PrOk P (muPr L gc) := by
  have ent : ∀ (k : Nat) (fn : Func) (W : World) (us : Array Value), P.funcs[k]? = some fn → fn.body.isSome = true → fn.name ≠ "runtime.NumGoroutine" → (callFunc k us).run P W = .ok (.enter k us) W := by
    intro k fn W us hf hb hn
    obtain ⟨c, hc⟩ := Option.isSome_iff_exists.1 hb
    exact callFunc_enter hf hc hn us
  have elock : ∀ W us, (callFunc L.lock us).run P W = .ok (.enter L.lock us) W := fun W us => ent _ _ W us hl.f_lock rfl (by simp [lockFn])
  have eunlock : ∀ W us, (callFunc L.unlock us).run P W = .ok (.enter L.unlock us) W := fun W us => ent _ _ W us hl.f_unlock rfl (by simp [unlockFn])
  refine ⟨fun k p hk args H v H' h b0 ρ W us hR ha => ?_, fun k p hk args H H' h b0 ρ W us hR ha => ?_, hgc⟩
  · simp only [muPr] at hk
    split at hk
    · rename_i e
      injection hk with hk
      subst hk e
      obtain ⟨a, rfl, hc, hz, rfl, hst⟩ := word_sim h hR ha
      exact .inl ⟨_, _, elock W _, (MuLone.lock_free hl a W hc hz).mono fun e W' ⟨he, hw⟩ => ⟨.tuple #[], ρ, he, ⟨_, rfl, trivial⟩, by rw [hw]; exact hst⟩⟩
    · split at hk
      · rename_i e
        injection hk with hk
        subst hk e
        obtain ⟨a, rfl, hc, hz, rfl, hst⟩ := word_sim h hR ha
        exact .inl ⟨_, _, eunlock W _, (MuLone.unlock_held hl a W hc hz).mono fun e W' ⟨he, hw⟩ => ⟨.tuple #[], ρ, he, ⟨_, rfl, trivial⟩, by rw [hw]; exact hst⟩⟩
      · cases hk
  · simp only [muPr] at hk
    split at hk
    · rename_i e
      injection hk with hk
      subst hk e
      obtain ⟨⟨v, H1⟩, h1, rfl⟩ := Option.map_eq_some_iff.1 h
      obtain ⟨a, rfl, hc, hz, rfl, hst⟩ := word_sim h1 hR ha
      exact ⟨eunlock W _, (MuLone.unlock_deferred hl a .returning W hc hz).mono fun e u' W' ⟨hu, he, hw⟩ => ⟨hu, .tuple #[], ρ, he, by rw [hw]; exact hst⟩⟩
    · cases hk
end
end Go.An
/-
  Which blocks of this seat's program stay as they are; and what becomes of what a function has made. No statement of the seat stands here.
-/
namespace Go.Proofs.YtldhiplfiheicaaDoor
open Go Go.An

def immTab : List Nat := [10995164512257, 2199075684352, 1099564056576, 3298598846465, 3298621915137, 2199110287360, 69269268201473, 1099543085056, 4398098939905, 45080024973313, 27487838928897, 32985397067777, 123145399828481, 120946327289857, 69269330067457, 38482952060929, 73667303178241, 93458564907009, 86861451100161, 113249745895425, 75866350551041, 65970730172417, 2199046324224, 7696604463106]
def accTab : List Nat := [7733256, 4653061, 7667728, 2293763, 2883587]
def keepTab : List Nat := []
instance orc : Orc := ⟨fun d a b => immTab.contains (d * 1099511627776 + a * 1048576 + b), fun n d => accTab.contains (n * 65536 + d), fun k => keepTab.contains k⟩
/-- 1: it stays as it is; 2: the rows of the answer are kept; 0: all is kept. -/
def modeOf (k : Nat) : Nat := match k with
  | 43 => 0
  | 78 => 2
  | 36 => 2
  | 25 => 2
  | 60 => 2
  | 20 => 2
  | _ => 1
end Go.Proofs.YtldhiplfiheicaaDoor
/-
  What the program of this seat gives to the abstract machine: the lock's numbers, its facts. No statement of the seat stands here.
-/
namespace Go.Proofs.YtldhiplfiheicaaDoor
open Go Go.An Go.Conc.Locks

def prims : Prims := ⟨fun _ => none, fun _ => none, fun _ _ r => r⟩
theorem prims_ok : PrOk Tryd.prog prims := ⟨fun _ _ h => (by cases h), fun _ _ h => (by cases h), gcId_ok⟩
noncomputable def primsG : Prims := ⟨fun _ => none, fun _ => none, gcM modeOf⟩
theorem primsG_ok : PrOk Tryd.prog primsG := ⟨fun _ _ h => (by cases h), fun _ _ h => (by cases h), gcM_ok modeOf⟩
theorem noNum : NoNum Tryd.prog := noNum_of (by kernel_rfl)
theorem mixed : Tryd.prog.follows .mixedOrders = true := by kernel_rfl
theorem own : ownKnob Tryd.prog.godebug = none := by kernel_rfl
theorem laidOut : laidOutB Tryd.prog = true := by kernel_rfl
end Go.Proofs.YtldhiplfiheicaaDoor
/-
  The abstract machine, part Y: calls that stand for themselves; laws over plain numbers. No statement of the seat stands here.
-/
namespace Go.An
open Go Go.RowKit
set_option linter.unusedSectionVars false

/-- A value that leads nowhere. -/
def V.flat : V → Bool
  | .int .. | .bool _ | .str _ => true
  | _ => false
section
variable [Orc]
variable {P : Program} {b0 : Nat} {ρ ρ2 : Ren} {H : Hp} {W : World} {base : Nat}

theorem flat_VB {v : V} {u : Value} (h : VC ρ v u) (hf : v.flat = true) : VC ρ2 v u := by
  cases v <;> simp [V.flat] at hf <;> exact h
theorem Rel.grow (h : Rel P b0 ρ H W) {W' : World} (hw : ∀ k, k < W.heap.size → W'.heap[k]? = W.heap[k]?) (hs : W.heap.size ≤ W'.heap.size) : Rel P b0 ρ H W' :=
  ⟨fun id b hb hne => by
    obtain ⟨l, hl, hk⟩ := h.blk id b hb hne
    exact ⟨l, hl, hk.world (hw _ hk.lt)⟩, h.hole, h.inj, h.fresh, h.gen, Nat.le_trans h.size hs, fun k C hk => by
    obtain ⟨⟨A, t, fr, h1, h3⟩, h2⟩ := h.imm k C hk
    exact ⟨⟨A, t, fr, (hw k (Array.getElem?_eq_some_iff.1 h1).1).trans h1, h3⟩, h2⟩, h.tok⟩

/-- A function that needs nothing and tells something plain, as one step. -/
def withV (Pr : Prims) (k : Nat) (v : V) : Prims :=
  ⟨fun j => if j = k then some fun a H => match a with | [] => some (v, H) | _ => none else Pr.call j, Pr.dfr, Pr.gc⟩
theorem withV_ok {Pr Pr0 : Prims} (hm : P.follows .mixedOrders = true) (hnn : NoNum P) (hp0 : PrOk P Pr0) (hp : PrOk P Pr) {k n : Nat} {v : V} (hv : v.flat = true) (h : (callN P Pr0 n k [] []).map (·.1) = some v) : PrOk P (withV Pr k v) := by
  refine ⟨fun j p hj args H v' H' hcall b0 ρ W us hR ha => ?_, hp.dfr, hp.gc⟩
  simp only [withV] at hj
  split at hj
  · rename_i e
    subst e
    injection hj with hj
    subst hj
    obtain ⟨⟨v1, H1⟩, h1, e1⟩ := Option.map_eq_some_iff.1 h
    simp only at e1
    subst e1
    match args, ha, hcall with
    | [], ha, hcall =>
      simp only [Option.some.injEq, Prod.mk.injEq] at hcall
      obtain ⟨rfl, rfl⟩ := hcall
      have hfin : ∀ (u : Value) (ρ' : Ren) (W' : World), VR ρ' v1 u → Step P W.heap.size (ren0 W) ρ' [] H1 W W' → VR ρ v1 u ∧ Step P b0 ρ ρ H H W W' := by
        intro u ρ' W' hu hst
        have hfr : ∀ i, i < W.heap.size → W'.heap[i]? = W.heap[i]? := fun i hi => hst.frame i hi (by rintro ⟨j, b, l, hb, _⟩; simp at hb)
        refine ⟨?_, hR.grow hfr hst.size, Ren.Le.refl _, fun i hi _ => hfr i hi, fun i h => .inl h, hst.size, Nat.le_refl _, hst.os, hst.tape, hst.output, fun _ _ h => .inl h⟩
        have hc : VC ρ' v1 u := by cases v1 <;> simp [V.flat] at hv <;> exact hu
        exact (flat_VB hc hv : VC ρ v1 u).toVR
      have hnil : VL (VR (ren0 W)) [] us.toList := by
        cases hu : us.toList with
        | nil => trivial
        | cons x l => rw [hu] at ha; exact ha.elim
      rcases callN_sound hm hnn hp0 (callN_ne h1) h1 (rel0 P W) (us := us) hnil with ⟨k', us', e1, hc⟩ | ⟨u, W', ρ', e1, h2, h3⟩
      · refine .inl ⟨k', us', e1, hc.mono fun e W' he => ?_⟩
        obtain ⟨u, ρ', rfl, hu, hst⟩ := he
        obtain ⟨h2, h3⟩ := hfin u ρ' W' hu hst
        exact ⟨u, ρ, rfl, h2, h3⟩
      · obtain ⟨h4, h5⟩ := hfin u ρ' W' h2 h3
        exact .inr ⟨u, W', ρ, e1, h4, h5⟩
  · exact hp.call j p hj args H v' H' hcall b0 ρ W us hR ha

/-! Arguments opened. -/
theorem args_nil {m : Nat} {xs : List V} (h : ArgsT P m [] xs) : xs = [] := by
  cases xs with
  | nil => rfl
  | cons x l => exact h.elim
theorem args_cons {m : Nat} {t : TypeId} {ts : List TypeId} {xs : List V} (h : ArgsT P m (t :: ts) xs) : ∃ x l, xs = x :: l ∧ ArgT P m t x ∧ ArgsT P m ts l := by
  cases xs with
  | nil => exact h.elim
  | cons x l => exact ⟨x, l, rfl, h.1, h.2⟩
theorem rd_int {m : Nat} {t : TypeId} {k : IntKind} {xs : List V} (hu : P.underlying t = some (.int k)) (h : RdT P (m + 1) t xs) : ∃ n, xs = [.int k n] ∧ (Lit.int k n).wf = true := by
  unfold RdT at h; rw [hu] at h; exact h
theorem rd_bool {m : Nat} {t : TypeId} {xs : List V} (hu : P.underlying t = some .bool) (h : RdT P (m + 1) t xs) : ∃ b, xs = [.bool b] := by
  unfold RdT at h; rw [hu] at h; exact h
theorem rd_str {m : Nat} {t : TypeId} {xs : List V} (hu : P.underlying t = some .string) (h : RdT P (m + 1) t xs) : ∃ s, xs = [.str s] ∧ s.length ≤ reachBytes := by
  unfold RdT at h; rw [hu] at h; exact h
theorem rd_slice {m : Nat} {t e : TypeId} {xs : List V} (hu : P.underlying t = some (.slice e)) (h : RdT P (m + 1) t xs) : xs = [.nilslice] ∨ ∃ (xss : List (List V)), xs = [.isl xss.flatten xss.length (P.cellsOf e)] ∧ xss.length * P.bytesOf e ≤ reachBytes ∧ xss.length ≤ maxLen ∧ ∀ x ∈ xss, x.length = P.cellsOf e ∧ RdT P m e x := by
  unfold RdT at h; rw [hu] at h; exact h
theorem rd_struct {m : Nat} {t : TypeId} {fs : Array Field} {xs : List V} (hu : P.underlying t = some (.struct fs)) (h : RdT P (m + 1) t xs) : ∃ (xss : List (List V)), xs = xss.flatten ∧ xss.length = fs.size ∧ ∀ (i : Nat) (fld : Field) (x : List V), fs[i]? = some fld → xss[i]? = some x → x.length = P.cellsOf fld.type ∧ RdT P m fld.type x := by
  unfold RdT at h; rw [hu] at h; exact h
theorem rd_arr {m n : Nat} {t e : TypeId} {xs : List V} (hu : P.underlying t = some (.array n e)) (h : RdT P (m + 1) t xs) : ∃ (xss : List (List V)), xs = xss.flatten ∧ xss.length = n ∧ ∀ x ∈ xss, x.length = P.cellsOf e ∧ RdT P m e x := by
  unfold RdT at h; rw [hu] at h; exact h
theorem arg_int {m : Nat} {t : TypeId} {k : IntKind} {x : V} (hu : P.underlying t = some (.int k)) (h : ArgT P (m + 1) t x) : ∃ n, x = .int k n ∧ (Lit.int k n).wf = true := by
  unfold ArgT at h; rw [hu] at h
  obtain ⟨n, e, hw⟩ := rd_int hu h
  injection e with e
  exact ⟨n, e, hw⟩
theorem arg_bool {m : Nat} {t : TypeId} {x : V} (hu : P.underlying t = some .bool) (h : ArgT P (m + 1) t x) : ∃ b, x = .bool b := by
  unfold ArgT at h; rw [hu] at h
  obtain ⟨b, e⟩ := rd_bool hu h
  injection e with e
  exact ⟨b, e⟩
theorem arg_str {m : Nat} {t : TypeId} {x : V} (hu : P.underlying t = some .string) (h : ArgT P (m + 1) t x) : ∃ s, x = .str s ∧ s.length ≤ reachBytes := by
  unfold ArgT at h; rw [hu] at h
  obtain ⟨s, e, hw⟩ := rd_str hu h
  injection e with e
  exact ⟨s, e, hw⟩
theorem arg_slice {m : Nat} {t e : TypeId} {x : V} (hu : P.underlying t = some (.slice e)) (h : ArgT P (m + 1) t x) : x = .nilslice ∨ ∃ (xss : List (List V)), x = .isl xss.flatten xss.length (P.cellsOf e) ∧ xss.length * P.bytesOf e ≤ reachBytes ∧ xss.length ≤ maxLen ∧ ∀ x ∈ xss, x.length = P.cellsOf e ∧ RdT P m e x := by
  unfold ArgT at h; rw [hu] at h
  rcases rd_slice hu h with e | ⟨xss, e, r⟩
  · injection e with e; exact .inl e
  · injection e with e; exact .inr ⟨xss, e, r⟩
theorem arg_arr {m n : Nat} {t e : TypeId} {x : V} (hu : P.underlying t = some (.array n e)) (h : ArgT P (m + 1) t x) : ∃ (xss : List (List V)), x = .agg xss.flatten ∧ xss.length = n ∧ ∀ x ∈ xss, x.length = P.cellsOf e ∧ RdT P m e x := by
  unfold ArgT at h; rw [hu] at h
  obtain ⟨xs, rfl, h⟩ := h
  obtain ⟨xss, rfl, r⟩ := rd_arr hu h
  exact ⟨xss, rfl, r⟩
/-- What a run answers, out of what it answers first. -/
theorem run_of {Pr : Prims} {n k : Nat} {xs : List V} {v : V} (h : (callN P Pr n k xs H).map (·.1) = some v) : ∃ n H', callN P Pr n k xs H = some (v, H') := by
  obtain ⟨⟨v', H'⟩, h1, h2⟩ := Option.map_eq_some_iff.1 h
  simp only at h2
  subst h2
  exact ⟨n, H', h1⟩
end
end Go.An
/-
  The abstract machine, part Z: without fuel. No statement of the seat stands here.
-/
namespace Go.An
open Go
set_option linter.unusedSectionVars false

section
variable [Orc]
variable {P : Program} {Pr : Prims}

/-! More of what is called gives more. -/
def CallT.Le (c c' : CallT) : Prop := ∀ k a H r, c k a H = some r → c' k a H = some r
def CodeT.Le (c c' : CodeT) : Prop := ∀ x s r, c x s = some r → c' x s = some r

theorem stepV_mono {cl cl' : CallT} (h : cl.Le cl') {o : Oper} {s : St} {r : V × St} (hr : stepV P cl o s = some r) : stepV P cl' o s = some r := by
  obtain ⟨dst, op, type, pos, after, guard⟩ := o
  cases op <;> simp only [stepV] at hr ⊢ <;> try exact hr
  case call c =>
    cases hc : c.callee with
    | value f | invoke f _ =>
      rw [hc] at hr
      simp only at hr ⊢
      cases hv : calleeV P s.T c with
      | none => rw [hv] at hr; cases hr
      | some q =>
        rw [hv] at hr
        simp only [Option.bind_some] at hr ⊢
        obtain ⟨p, hp, e⟩ := Option.map_eq_some_iff.1 hr
        rw [h _ _ _ _ hp, ← e]
        rfl
    | _ => rw [hc] at hr; exact hr
theorem stepA_mono {cl cl' : CallT} (h : cl.Le cl') {N : Nat} {o : Oper} {s : St} {r : V × St} (hr : stepA P cl N o s = some r) : stepA P cl' N o s = some r := by
  unfold stepA at hr ⊢
  split at hr
  · rename_i e; rw [if_pos e]; exact hr
  · rename_i e; rw [if_neg e]; exact stepV_mono h hr
theorem opsV_mono {cl cl' : CallT} (h : cl.Le cl') {N : Nat} {all : List Oper} : ∀ {rest : List Oper} {s s' : St}, opsV P cl N all rest s = some s' → opsV P cl' N all rest s = some s'
  | [], s, s', hr => hr
  | o :: rest, s, s', hr => by
    simp only [opsV] at hr ⊢
    cases hw : wantedV all o s.T with
    | none => rw [hw] at hr; cases hr
    | some w =>
      rw [hw] at hr
      simp only [Option.bind_some] at hr ⊢
      cases w with
      | true =>
        simp only [if_true] at hr ⊢
        cases hst : stepA P cl N o s with
        | none => rw [hst] at hr; cases hr
        | some q =>
          rw [hst] at hr
          rw [stepA_mono h hst]
          simp only [Option.bind_some] at hr ⊢
          cases hset : setO N q.2 o.dst q.1 with
          | none => rw [hset] at hr; cases hr
          | some s2 => rw [hset] at hr; exact opsV_mono h hr
      | false =>
        simp only [Bool.false_eq_true, if_false] at hr ⊢
        cases hset : setO N s o.dst (.tup []) with
        | none => rw [hset] at hr; cases hr
        | some s2 => rw [hset] at hr; exact opsV_mono h hr
theorem traceV_mono {cl cl' : CallT} (h : cl.Le cl') {N : Nat} {all : List Oper} : ∀ {rest : List Oper} {s : St} {r : List St × St}, traceV P cl N all rest s = some r → traceV P cl' N all rest s = some r
  | [], s, r, hr => hr
  | o :: rest, s, r, hr => by
    simp only [traceV] at hr ⊢
    cases hw : wantedV all o s.T with
    | none => rw [hw] at hr; cases hr
    | some w =>
      rw [hw] at hr
      simp only [Option.bind_some] at hr ⊢
      have key : ∀ s2, (if w = true then (stepV P cl o s).bind fun q => setO N q.2 o.dst q.1 else setO N s o.dst (.tup [])) = some s2 → (if w = true then (stepV P cl' o s).bind fun q => setO N q.2 o.dst q.1 else setO N s o.dst (.tup [])) = some s2 := by
        intro s2 h2
        split at h2
        · cases hst : stepV P cl o s with
          | none => rw [hst] at h2; cases h2
          | some q => rw [if_pos (by assumption), stepV_mono h hst]; rw [hst] at h2; exact h2
        · rw [if_neg (by assumption)]; exact h2
      generalize hq : (if w = true then (stepV P cl o s).bind fun q => setO N q.2 o.dst q.1 else setO N s o.dst (.tup [])) = q at hr
      cases q with
      | none => cases hr
      | some s2 =>
        rw [key s2 hq]
        simp only [Option.bind_some] at hr ⊢
        obtain ⟨p, hp, e⟩ := Option.map_eq_some_iff.1 hr
        rw [traceV_mono h hp, ← e]
        rfl
theorem codeF_mono {cl cl' : CallT} (h : cl.Le cl') {rec rec' : CodeT} (hc : rec.Le rec') {N : Nat} {c : Code} {s : St} {r : Ex × St} (hr : codeF P cl N rec c s = some r) : codeF P cl' N rec' c s = some r := by
  unfold codeF at hr ⊢
  split at hr
  · exact hr
  · rename_i id ops draw
    split at hr
    · rename_i hd
      rw [if_pos hd]
      split at hr
      · rename_i hok
        rw [if_pos hok]
        cases ht : traceV P cl N ops.toList ops.toList s with
        | none => rw [ht] at hr; cases hr
        | some q => rw [ht] at hr; rw [traceV_mono h ht]; exact hr
      · cases hr
    · rename_i hd
      rw [if_neg hd]
      obtain ⟨q, hq, e⟩ := Option.map_eq_some_iff.1 hr
      rw [opsV_mono h hq, ← e]
      rfl
  · rename_i a b
    cases h1 : rec a s with
    | none => rw [h1] at hr; cases hr
    | some q =>
      rw [h1] at hr
      rw [hc _ _ _ h1]
      simp only [Option.bind_some] at hr ⊢
      split at hr
      · exact hc _ _ _ hr
      · exact hr
  · split at hr
    · exact hc _ _ _ hr
    · exact hc _ _ _ hr
    · cases hr
  · obtain ⟨q, hq, e⟩ := Option.map_eq_some_iff.1 hr
    rw [hc _ _ _ hq, ← e]
    rfl
  · rename_i b
    cases h1 : rec b s with
    | none => rw [h1] at hr; cases hr
    | some q =>
      rw [h1] at hr
      rw [hc _ _ _ h1]
      simp only [Option.bind_some] at hr ⊢
      split at hr
      · exact hc _ _ _ hr
      · exact hr
  · exact hr
  · exact hr
  · split at hr
    · split at hr
      · cases hr
      · rename_i hc
        rw [if_neg hc]
        obtain ⟨q, hq, h2⟩ := Option.bind_eq_some_iff.1 hr
        rw [h _ _ _ _ hq]
        exact h2
    · cases hr
  · cases hr
theorem roundV_mono {code code' : Nat → CodeT} (hc : ∀ N, (code N).Le (code' N)) {a : List V} {H : Hp} {r : V × Hp} (hr : roundV code a H = some r) : roundV code' a H = some r := by
  unfold roundV at hr ⊢
  split at hr
  · obtain ⟨L, hL, hr⟩ := Option.bind_eq_some_iff.1 hr
    simp only
    rw [hL]
    simp only [Option.bind_some]
    split at hr
    · rename_i h0
      rw [if_pos h0]
      obtain ⟨T, hT, hr⟩ := Option.bind_eq_some_iff.1 hr
      rw [hT]
      simp only [Option.bind_some]
      obtain ⟨q, hq, hr⟩ := Option.bind_eq_some_iff.1 hr
      rw [hc _ _ _ _ hq]
      simp only [Option.bind_some]
      split at hr
      · obtain ⟨L1, h1, hr⟩ := Option.bind_eq_some_iff.1 hr
        rw [h1]
        simp only [Option.bind_some]
        split at hr
        · rename_i h2
          rw [if_pos h2]
          obtain ⟨p, hp, hr⟩ := Option.bind_eq_some_iff.1 hr
          rw [hc _ _ _ _ hp]
          exact hr
        · cases hr
      · cases hr
    · cases hr
  · cases hr
theorem callD_mono {code code' : Nat → CodeT} (hc : ∀ N, (code N).Le (code' N)) {k : Nat} {a : List V} {H H' : Hp} (hr : callD P Pr code k a H = some H') : callD P Pr code' k a H = some H' := by
  unfold callD at hr ⊢
  split at hr
  · rename_i h0; rw [if_pos h0]; exact hr
  rename_i h0
  rw [if_neg h0]
  split at hr
  · exact hr
  · cases hf : P.funcs[k]? with
    | none => rw [hf] at hr; cases hr
    | some fn =>
      rw [hf] at hr
      simp only [Option.bind_some] at hr ⊢
      cases hb : fn.body with
      | none => rw [hb] at hr; cases hr
      | some c =>
        rw [hb] at hr
        simp only [Option.bind_some] at hr ⊢
        cases h1 : code (max a.length fn.ntmps) c ⟨a, [], H⟩ with
        | none => rw [h1] at hr; cases hr
        | some q => rw [h1] at hr; rw [hc _ _ _ _ h1]; exact hr
theorem defersV_mono {code code' : Nat → CodeT} (hc : ∀ N, (code N).Le (code' N)) : ∀ {D : List (Nat × List V)} {H H' : Hp}, defersV P Pr code D H = some H' → defersV P Pr code' D H = some H'
  | [], H, H', hr => hr
  | d :: D, H, H', hr => by
    simp only [defersV] at hr ⊢
    cases h1 : callD P Pr code d.1 d.2 H with
    | none => rw [h1] at hr; cases hr
    | some q => rw [h1] at hr; rw [callD_mono hc h1]; exact defersV_mono hc hr
theorem callF_mono {code code' : Nat → CodeT} (hc : ∀ N, (code N).Le (code' N)) : CallT.Le (callF P Pr code) (callF P Pr code') := by
  intro k a H r hr
  unfold callF at hr ⊢
  split at hr
  · rename_i h0; rw [if_pos h0]; exact roundV_mono hc hr
  rename_i h0
  rw [if_neg h0]
  split at hr
  · exact hr
  · cases hf : P.funcs[k]? with
    | none => rw [hf] at hr; cases hr
    | some fn =>
      rw [hf] at hr
      simp only [Option.bind_some] at hr ⊢
      cases hb : fn.body with
      | none => rw [hb] at hr; cases hr
      | some c =>
        rw [hb] at hr
        simp only [Option.bind_some] at hr ⊢
        cases h1 : code (max a.length fn.ntmps) c ⟨a, [], H⟩ with
        | none => rw [h1] at hr; cases hr
        | some q =>
          obtain ⟨e, s⟩ := q
          rw [h1] at hr
          rw [hc _ _ _ _ h1]
          simp only [Option.bind_some] at hr ⊢
          cases e with
          | exit id => cases hr
          | nor =>
            simp only at hr ⊢
            cases h2 : defersV P Pr code s.D s.H with
            | none => rw [h2] at hr; cases hr
            | some q => rw [h2] at hr; rw [defersV_mono hc h2]; exact hr
          | ret =>
            simp only at hr ⊢
            cases h2 : defersV P Pr code s.D s.H with
            | none => rw [h2] at hr; cases hr
            | some q => rw [h2] at hr; rw [defersV_mono hc h2]; exact hr

theorem both_mono1 : ∀ n, (∀ N, ((both P Pr n).1 N).Le ((both P Pr (n + 1)).1 N)) ∧ (both P Pr n).2.Le (both P Pr (n + 1)).2
  | 0 => ⟨fun _ _ _ _ h => (by cases h), fun _ _ _ _ h => (by cases h)⟩
  | n + 1 => ⟨fun N x s r h => codeF_mono (both_mono1 n).2 ((both_mono1 n).1 N) h, fun k a H r h => callF_mono (both_mono1 n).1 k a H r h⟩
theorem both_mono (n : Nat) : ∀ d, (∀ N, ((both P Pr n).1 N).Le ((both P Pr (n + d)).1 N)) ∧ (both P Pr n).2.Le (both P Pr (n + d)).2
  | 0 => ⟨fun _ _ _ _ h => h, fun _ _ _ _ h => h⟩
  | d + 1 => ⟨fun N x s r h => (both_mono1 (n + d)).1 N x s r ((both_mono n d).1 N x s r h), fun k a H r h => (both_mono1 (n + d)).2 k a H r ((both_mono n d).2 k a H r h)⟩

theorem exec_up {n m N : Nat} (h : n ≤ m) : (exec P Pr n N).Le (exec P Pr m N) := by
  obtain ⟨d, rfl⟩ : ∃ d, m = n + d := ⟨m - n, by omega⟩
  exact (both_mono n d).1 N
theorem callN_up {n m : Nat} (h : n ≤ m) : (callN P Pr n).Le (callN P Pr m) := by
  obtain ⟨d, rfl⟩ : ∃ d, m = n + d := ⟨m - n, by omega⟩
  exact (both_mono n d).2

/-! The machine without fuel. -/
open Classical in
noncomputable def codeL (P : Program) (Pr : Prims) (N : Nat) : CodeT := fun c s => if h : ∃ r n, exec P Pr n N c s = some r then some h.choose else none
open Classical in
noncomputable def callL (P : Program) (Pr : Prims) : CallT := fun k a H => if h : ∃ r n, callN P Pr n k a H = some r then some h.choose else none
theorem codeL_iff {N : Nat} {c : Code} {s : St} {r : Ex × St} : codeL P Pr N c s = some r ↔ ∃ n, exec P Pr n N c s = some r := by
  have uniq : ∀ {r r' : Ex × St} {n m : Nat}, exec P Pr n N c s = some r → exec P Pr m N c s = some r' → r = r' := by
    intro r r' n m h1 h2
    have e1 := exec_up (Nat.le_max_left n m) _ _ _ h1
    have e2 := exec_up (Nat.le_max_right n m) _ _ _ h2
    rw [e1] at e2
    exact Option.some.inj e2
  unfold codeL
  constructor
  · intro h
    split at h
    · rename_i hx
      injection h with h
      obtain ⟨n, hn⟩ := hx.choose_spec
      exact ⟨n, h ▸ hn⟩
    · cases h
  · rintro ⟨n, hn⟩
    have hx : ∃ r n, exec P Pr n N c s = some r := ⟨r, n, hn⟩
    rw [dif_pos hx]
    obtain ⟨m, hm⟩ := hx.choose_spec
    exact congrArg some (uniq hm hn)
theorem callL_iff {k : Nat} {a : List V} {H : Hp} {r : V × Hp} : callL P Pr k a H = some r ↔ ∃ n, callN P Pr n k a H = some r := by
  have uniq : ∀ {r r' : V × Hp} {n m : Nat}, callN P Pr n k a H = some r → callN P Pr m k a H = some r' → r = r' := by
    intro r r' n m h1 h2
    have e1 := callN_up (Nat.le_max_left n m) _ _ _ _ h1
    have e2 := callN_up (Nat.le_max_right n m) _ _ _ _ h2
    rw [e1] at e2
    exact Option.some.inj e2
  unfold callL
  constructor
  · intro h
    split at h
    · rename_i hx
      injection h with h
      obtain ⟨n, hn⟩ := hx.choose_spec
      exact ⟨n, h ▸ hn⟩
    · cases h
  · rintro ⟨n, hn⟩
    have hx : ∃ r n, callN P Pr n k a H = some r := ⟨r, n, hn⟩
    rw [dif_pos hx]
    obtain ⟨m, hm⟩ := hx.choose_spec
    exact congrArg some (uniq hm hn)
theorem callN_le (n : Nat) : (callN P Pr n).Le (callL P Pr) := fun _ _ _ _ h => callL_iff.2 ⟨n, h⟩
theorem exec_le (n N : Nat) : (exec P Pr n N).Le (codeL P Pr N) := fun _ _ _ h => codeL_iff.2 ⟨n, h⟩

/-! What is told without fuel is told with some. -/
theorem stepV_some {o : Oper} {s : St} {r : V × St} (h : stepV P (callL P Pr) o s = some r) : ∃ n, stepV P (callN P Pr n) o s = some r := by
  obtain ⟨dst, op, type, pos, after, guard⟩ := o
  cases op <;> simp only [stepV] at h ⊢ <;> try exact ⟨0, h⟩
  case call c =>
    cases hc : c.callee with
    | value f | invoke f _ =>
      rw [hc] at h
      simp only at h ⊢
      cases hv : calleeV P s.T c with
      | none => rw [hv] at h; cases h
      | some q =>
        rw [hv] at h
        simp only [Option.bind_some] at h ⊢
        obtain ⟨p, hp, e⟩ := Option.map_eq_some_iff.1 h
        obtain ⟨n, hn⟩ := callL_iff.1 hp
        exact ⟨n, by rw [hn, ← e]; rfl⟩
    | _ => rw [hc] at h; exact ⟨0, h⟩
theorem stepA_some {N : Nat} {o : Oper} {s : St} {r : V × St} (h : stepA P (callL P Pr) N o s = some r) : ∃ n, stepA P (callN P Pr n) N o s = some r := by
  unfold stepA at h ⊢
  split at h
  · rename_i e; exact ⟨0, by rw [if_pos e]; exact h⟩
  · rename_i e; obtain ⟨n, hn⟩ := stepV_some h; exact ⟨n, by rw [if_neg e]; exact hn⟩
theorem opsV_some {N : Nat} {all : List Oper} : ∀ {rest : List Oper} {s s' : St}, opsV P (callL P Pr) N all rest s = some s' → ∃ n, opsV P (callN P Pr n) N all rest s = some s'
  | [], s, s', h => ⟨0, h⟩
  | o :: rest, s, s', h => by
    simp only [opsV] at h ⊢
    cases hw : wantedV all o s.T with
    | none => rw [hw] at h; cases h
    | some w =>
      rw [hw] at h
      simp only [Option.bind_some] at h ⊢
      cases w with
      | true =>
        simp only [if_true] at h ⊢
        cases hst : stepA P (callL P Pr) N o s with
        | none => rw [hst] at h; cases h
        | some q =>
          obtain ⟨n, hn⟩ := stepA_some hst
          rw [hst] at h
          simp only [Option.bind_some] at h
          cases hset : setO N q.2 o.dst q.1 with
          | none => rw [hset] at h; cases h
          | some s2 =>
            rw [hset] at h
            obtain ⟨m, hm⟩ := opsV_some h
            refine ⟨max n m, ?_⟩
            rw [stepA_mono (callN_up (Nat.le_max_left n m)) hn]
            simp only [Option.bind_some]
            rw [hset]
            exact opsV_mono (callN_up (Nat.le_max_right n m)) hm
      | false =>
        simp only [Bool.false_eq_true, if_false] at h ⊢
        cases hset : setO N s o.dst (.tup []) with
        | none => rw [hset] at h; cases h
        | some s2 =>
          rw [hset] at h
          obtain ⟨m, hm⟩ := opsV_some h
          exact ⟨m, hm⟩
theorem traceV_some {N : Nat} {all : List Oper} : ∀ {rest : List Oper} {s : St} {r : List St × St}, traceV P (callL P Pr) N all rest s = some r → ∃ n, traceV P (callN P Pr n) N all rest s = some r
  | [], s, r, h => ⟨0, h⟩
  | o :: rest, s, r, h => by
    simp only [traceV] at h ⊢
    cases hw : wantedV all o s.T with
    | none => rw [hw] at h; cases h
    | some w =>
      rw [hw] at h
      simp only [Option.bind_some] at h ⊢
      generalize hq : (if w = true then (stepV P (callL P Pr) o s).bind fun q => setO N q.2 o.dst q.1 else setO N s o.dst (.tup [])) = q at h
      cases q with
      | none => cases h
      | some s2 =>
        simp only [Option.bind_some] at h
        obtain ⟨p, hp, e⟩ := Option.map_eq_some_iff.1 h
        obtain ⟨m, hm⟩ := traceV_some hp
        cases w with
        | true =>
          simp only [if_true] at hq ⊢
          cases hst : stepV P (callL P Pr) o s with
          | none => rw [hst] at hq; cases hq
          | some q =>
            obtain ⟨n, hn⟩ := stepV_some hst
            rw [hst] at hq
            simp only [Option.bind_some] at hq
            refine ⟨max n m, ?_⟩
            rw [stepV_mono (callN_up (Nat.le_max_left n m)) hn]
            simp only [Option.bind_some]
            rw [hq]
            simp only [Option.bind_some]
            rw [traceV_mono (callN_up (Nat.le_max_right n m)) hm, ← e]
            rfl
        | false =>
          simp only [Bool.false_eq_true, if_false] at hq ⊢
          refine ⟨m, ?_⟩
          rw [hq]
          simp only [Option.bind_some]
          rw [hm, ← e]
          rfl
theorem codeF_some {N : Nat} {c : Code} {s : St} {r : Ex × St} (h : codeF P (callL P Pr) N (codeL P Pr N) c s = some r) : ∃ n, codeF P (callN P Pr n) N (exec P Pr n N) c s = some r := by
  unfold codeF at h ⊢
  split at h
  · exact ⟨0, h⟩
  · rename_i id ops draw
    split at h
    · rename_i hd
      split at h
      · rename_i hok
        cases ht : traceV P (callL P Pr) N ops.toList ops.toList s with
        | none => rw [ht] at h; cases h
        | some q =>
          obtain ⟨n, hn⟩ := traceV_some ht
          rw [ht] at h
          refine ⟨n, ?_⟩
          rw [if_pos hd, if_pos hok, hn]
          exact h
      · cases h
    · rename_i hd
      obtain ⟨q, hq, e⟩ := Option.map_eq_some_iff.1 h
      obtain ⟨n, hn⟩ := opsV_some hq
      refine ⟨n, ?_⟩
      rw [if_neg hd, hn, ← e]
      rfl
  · rename_i a b
    cases h1 : codeL P Pr N a s with
    | none => rw [h1] at h; cases h
    | some q =>
      obtain ⟨n, hn⟩ := codeL_iff.1 h1
      rw [h1] at h
      simp only [Option.bind_some] at h
      obtain ⟨e, s1⟩ := q
      cases e with
      | nor =>
        obtain ⟨m, hm⟩ := codeL_iff.1 h
        refine ⟨max n m, ?_⟩
        rw [exec_up (Nat.le_max_left n m) _ _ _ hn]
        exact exec_up (Nat.le_max_right n m) _ _ _ hm
      | exit id => exact ⟨n, by rw [hn]; exact h⟩
      | ret => exact ⟨n, by rw [hn]; exact h⟩
  · split at h
    · obtain ⟨n, hn⟩ := codeL_iff.1 h; exact ⟨n, hn⟩
    · obtain ⟨n, hn⟩ := codeL_iff.1 h; exact ⟨n, hn⟩
    · cases h
  · obtain ⟨q, hq, e⟩ := Option.map_eq_some_iff.1 h
    obtain ⟨n, hn⟩ := codeL_iff.1 hq
    exact ⟨n, by rw [hn, ← e]; rfl⟩
  · rename_i b
    cases h1 : codeL P Pr N b s with
    | none => rw [h1] at h; cases h
    | some q =>
      obtain ⟨n, hn⟩ := codeL_iff.1 h1
      rw [h1] at h
      simp only [Option.bind_some] at h
      obtain ⟨e, s1⟩ := q
      cases e with
      | nor =>
        obtain ⟨m, hm⟩ := codeL_iff.1 h
        refine ⟨max n m, ?_⟩
        rw [exec_up (Nat.le_max_left n m) _ _ _ hn]
        exact exec_up (Nat.le_max_right n m) _ _ _ hm
      | exit id => exact ⟨n, by rw [hn]; exact h⟩
      | ret => exact ⟨n, by rw [hn]; exact h⟩
  · exact ⟨0, h⟩
  · exact ⟨0, h⟩
  · split at h
    · split at h
      · cases h
      · rename_i hc
        obtain ⟨q, hq, h2⟩ := Option.bind_eq_some_iff.1 h
        obtain ⟨n, hn⟩ := callL_iff.1 hq
        refine ⟨n, ?_⟩
        rw [if_neg hc, hn]
        exact h2
    · cases h
  · cases h
/-- Code, step by step. -/
theorem codeL_eq (N : Nat) (c : Code) (s : St) : codeL P Pr N c s = codeF P (callL P Pr) N (codeL P Pr N) c s := by
  cases h : codeF P (callL P Pr) N (codeL P Pr N) c s with
  | some r =>
    obtain ⟨n, hn⟩ := codeF_some h
    exact codeL_iff.2 ⟨n + 1, hn⟩
  | none =>
    cases h2 : codeL P Pr N c s with
    | none => rfl
    | some r =>
      obtain ⟨n, hn⟩ := codeL_iff.1 h2
      cases n with
      | zero => cases hn
      | succ n =>
        have := codeF_mono (callN_le n) (exec_le n N) (hn : codeF P (callN P Pr n) N (exec P Pr n N) c s = some r)
        rw [h] at this
        cases this

theorem roundV_some {a : List V} {H : Hp} {r : V × Hp} (hr : roundV (codeL P Pr) a H = some r) : ∃ n, roundV (exec P Pr n) a H = some r := by
  unfold roundV at hr ⊢
  split at hr
  · obtain ⟨L, hL, hr⟩ := Option.bind_eq_some_iff.1 hr
    simp only
    rw [hL]
    simp only [Option.bind_some]
    split at hr
    · rename_i h0
      simp only [if_pos h0]
      obtain ⟨T, hT, hr⟩ := Option.bind_eq_some_iff.1 hr
      rw [hT]
      simp only [Option.bind_some]
      obtain ⟨q, hq, hr⟩ := Option.bind_eq_some_iff.1 hr
      obtain ⟨n, hn⟩ := codeL_iff.1 hq
      split at hr
      · rename_i hq1
        obtain ⟨L1, h1, hr⟩ := Option.bind_eq_some_iff.1 hr
        split at hr
        · rename_i h2
          obtain ⟨p, hp, hr⟩ := Option.bind_eq_some_iff.1 hr
          obtain ⟨m, hm⟩ := codeL_iff.1 hp
          refine ⟨max n m, ?_⟩
          rw [exec_up (Nat.le_max_left n m) _ _ _ hn]
          simp only [Option.bind_some]
          rw [hq1]
          simp only
          rw [h1]
          simp only [Option.bind_some]
          rw [if_pos h2, exec_up (Nat.le_max_right n m) _ _ _ hm]
          exact hr
        · cases hr
      · cases hr
    · cases hr
  · cases hr
theorem callD_some {k : Nat} {a : List V} {H H' : Hp} (h : callD P Pr (codeL P Pr) k a H = some H') : ∃ n, callD P Pr (exec P Pr n) k a H = some H' := by
  unfold callD at h ⊢
  split at h
  · rename_i h0; exact ⟨0, by rw [if_pos h0]; exact h⟩
  rename_i h0
  simp only [if_neg h0]
  split at h
  · exact ⟨0, h⟩
  · cases hf : P.funcs[k]? with
    | none => rw [hf] at h; cases h
    | some fn =>
      rw [hf] at h
      simp only [Option.bind_some] at h ⊢
      cases hb : fn.body with
      | none => rw [hb] at h; cases h
      | some c =>
        rw [hb] at h
        simp only [Option.bind_some] at h ⊢
        cases h1 : codeL P Pr (max a.length fn.ntmps) c ⟨a, [], H⟩ with
        | none => rw [h1] at h; cases h
        | some q =>
          obtain ⟨n, hn⟩ := codeL_iff.1 h1
          rw [h1] at h
          exact ⟨n, by rw [hn]; exact h⟩
theorem defersV_some : ∀ {D : List (Nat × List V)} {H H' : Hp}, defersV P Pr (codeL P Pr) D H = some H' → ∃ n, defersV P Pr (exec P Pr n) D H = some H'
  | [], H, H', h => ⟨0, h⟩
  | d :: D, H, H', h => by
    simp only [defersV] at h ⊢
    cases h1 : callD P Pr (codeL P Pr) d.1 d.2 H with
    | none => rw [h1] at h; cases h
    | some q =>
      obtain ⟨n, hn⟩ := callD_some h1
      rw [h1] at h
      obtain ⟨m, hm⟩ := defersV_some h
      refine ⟨max n m, ?_⟩
      rw [callD_mono (fun N => exec_up (Nat.le_max_left n m)) hn]
      exact defersV_mono (fun N => exec_up (Nat.le_max_right n m)) hm
theorem callF_some {k : Nat} {a : List V} {H : Hp} {r : V × Hp} (h : callF P Pr (codeL P Pr) k a H = some r) : ∃ n, callF P Pr (exec P Pr n) k a H = some r := by
  unfold callF at h ⊢
  split at h
  · rename_i h0; simp only [if_pos h0]; exact roundV_some h
  rename_i h0
  simp only [if_neg h0]
  split at h
  · exact ⟨0, h⟩
  · cases hf : P.funcs[k]? with
    | none => rw [hf] at h; cases h
    | some fn =>
      rw [hf] at h
      simp only [Option.bind_some] at h ⊢
      cases hb : fn.body with
      | none => rw [hb] at h; cases h
      | some c =>
        rw [hb] at h
        simp only [Option.bind_some] at h ⊢
        cases h1 : codeL P Pr (max a.length fn.ntmps) c ⟨a, [], H⟩ with
        | none => rw [h1] at h; cases h
        | some q =>
          obtain ⟨n, hn⟩ := codeL_iff.1 h1
          obtain ⟨e, s⟩ := q
          rw [h1] at h
          simp only [Option.bind_some] at h
          have key : ((defersV P Pr (codeL P Pr) s.D s.H).bind fun H' => (resultsV P fn H' s.T).map fun v => Pr.gc k H (v, H')) = some r → ∃ m, n ≤ m ∧ ((defersV P Pr (exec P Pr m) s.D s.H).bind fun H' => (resultsV P fn H' s.T).map fun v => Pr.gc k H (v, H')) = some r := by
            intro h
            cases h2 : defersV P Pr (codeL P Pr) s.D s.H with
            | none => rw [h2] at h; cases h
            | some q =>
              obtain ⟨m, hm⟩ := defersV_some h2
              rw [h2] at h
              exact ⟨max n m, Nat.le_max_left _ _, by rw [defersV_mono (fun N => exec_up (Nat.le_max_right n m)) hm]; exact h⟩
          cases e with
          | exit id => cases h
          | nor =>
            obtain ⟨m, h3, h4⟩ := key h
            exact ⟨m, by rw [exec_up h3 _ _ _ hn]; exact h4⟩
          | ret =>
            obtain ⟨m, h3, h4⟩ := key h
            exact ⟨m, by rw [exec_up h3 _ _ _ hn]; exact h4⟩
/-- A call, entered. -/
theorem callL_eq (k : Nat) (a : List V) (H : Hp) : callL P Pr k a H = callF P Pr (codeL P Pr) k a H := by
  cases h : callF P Pr (codeL P Pr) k a H with
  | some r =>
    obtain ⟨n, hn⟩ := callF_some h
    exact callL_iff.2 ⟨n + 1, hn⟩
  | none =>
    cases h2 : callL P Pr k a H with
    | none => rfl
    | some r =>
      obtain ⟨n, hn⟩ := callL_iff.1 h2
      cases n with
      | zero => cases hn
      | succ n =>
        have := callF_mono (fun N => exec_le n N) _ _ _ _ (hn : callF P Pr (exec P Pr n) k a H = some r)
        rw [h] at this
        cases this
end
end Go.An
/-
  What the statements of this seat ask last: whether the program does at one place what the document gives. It is so. No statement of the seat stands here.
-/
namespace Go.Proofs.YtldhiplfiheicaaDoor
open Go Go.An

abbrev orc0 : Orc := ⟨fun _ _ _ => false, fun _ _ => false, fun _ => false⟩
set_option maxRecDepth 100000 in
theorem known_eval : (@callN Tryd.prog orc0 prims 400 5 [] []).map (·.1) = some (.bool true) := by kernel_rfl
def primsK : Prims := withV prims 5 (.bool true)
set_option maxRecDepth 100000 in
set_option maxRecDepth 100000 in
theorem primsK_ok : PrOk Tryd.prog primsK := @withV_ok orc0 _ _ _ mixed noNum prims_ok prims_ok _ _ _ rfl known_eval
/-- The same, with the new rows of a call kept apart. -/
noncomputable def pr : Prims := withV primsG 5 (.bool true)
set_option maxRecDepth 100000 in
set_option maxRecDepth 100000 in
theorem pr_ok : PrOk Tryd.prog pr := @withV_ok orc0 _ _ _ mixed noNum prims_ok primsG_ok _ _ _ rfl known_eval
theorem known_call (H : Hp) : callL Tryd.prog pr 5 [] H = some (.bool true, H) := by
  rw [callL_eq]; rfl
end Go.Proofs.YtldhiplfiheicaaDoor
