/-
  The abstract machine, part U: what the arguments of a call are to it. No statement of the seat stands here.
-/
import Derived.Test.YtdpdlobaabcjjaaAmT
import GoSem.ClaimChange
import GoSem.ClaimJoined
import Derived.ProofKit
import Derived.SizedLaws
import Derived.OpenShut
import Derived.ChangeArms
namespace Go.Am
open Go

theorem mapM_get {α β : Type} {f : α → Option β} : ∀ {l : List α} {ys : List β}, l.mapM f = some ys → ys.length = l.length ∧ ∀ (i : Nat) (x : α), l[i]? = some x → ∃ y, ys[i]? = some y ∧ f x = some y
  | [], ys, h => by simp at h; subst h; exact ⟨rfl, fun i x h => by simp at h⟩
  | a :: l, ys, h => by
    rw [List.mapM_cons] at h
    simp only [Option.pure_def, Option.bind_eq_bind] at h
    cases h1 : f a with
    | none => rw [h1] at h; cases h
    | some b =>
      rw [h1] at h
      simp only [Option.bind_some] at h
      cases h2 : l.mapM f with
      | none => rw [h2] at h; cases h
      | some bs =>
        rw [h2] at h
        simp only [Option.bind_some, Option.some.injEq] at h
        subst h
        obtain ⟨e1, e2⟩ := mapM_get h2
        refine ⟨by simp [e1], fun i x hx => ?_⟩
        cases i with
        | zero => simp at hx; subst hx; exact ⟨b, rfl, h1⟩
        | succ i => simpa using e2 i x (by simpa using hx)

/-- A value of a type as the machine has it: its cells; what it leads to lies in rows that came in. -/
def RdT (P : Program) (H : Hp) : Nat → TypeId → List V → Prop
  | 0, _, _ => False
  | f + 1, t, xs => match P.underlying t with
    | some .bool => ∃ b, xs = [.bool b]
    | some (.int k) => ∃ n, xs = [.int k n] ∧ (Lit.int k n).wf = true
    | some .string => ∃ s, xs = [.str s] ∧ s.length ≤ reachBytes
    | some (.slice e) => xs = [.nilslice] ∨ ∃ (id : Nat) (xss : List (List V)), xs = [.slice id 0 0 xss.length (P.cellsOf e) .unk] ∧ getRow H id 0 = some (xss.flatten, false) ∧ xss.length * P.bytesOf e ≤ reachBytes ∧ xss.length ≤ maxLen ∧ ∀ x ∈ xss, x.length = P.cellsOf e ∧ RdT P H f e x
    | some (.struct fs) => ∃ (xss : List (List V)), xs = xss.flatten ∧ xss.length = fs.size ∧ ∀ (i : Nat) (fld : Field) (x : List V), fs[i]? = some fld → xss[i]? = some x → x.length = P.cellsOf fld.type ∧ RdT P H f fld.type x
    | some (.array n e) => ∃ (xss : List (List V)), xs = xss.flatten ∧ xss.length = n ∧ ∀ x ∈ xss, x.length = P.cellsOf e ∧ RdT P H f e x
    | _ => False

/-- The types that are covered; fields lie one behind the other. -/
def tiles (P : Program) : List Field → Nat → Option Nat
  | [], n => some n
  | f :: fs, n => if f.offset = n then tiles P fs (n + P.cellsOf f.type) else none
def plainT (P : Program) : Nat → TypeId → Bool
  | 0, _ => false
  | f + 1, t => match P.underlying t with
    | some .bool | some (.int _) | some .string => true
    | some (.slice e) => decide (0 < P.cellsOf e) && plainT P f e
    | some (.struct fs) => (tiles P fs.toList 0 == some (P.cellsOf t)) && fs.toList.all fun x => plainT P f x.type
    | some (.array n e) => (n * P.cellsOf e == P.cellsOf t) && plainT P f e
    | _ => false

section
variable {P : Program} {b0 : Nat} {ρ : Ren} {W : World}

theorem RdT.mono {H H2 : Hp} (hk : ∀ (id : Nat) (b : AB), H[id]? = some b → H2[id]? = some b) : ∀ (f : Nat) {t : TypeId} {xs : List V}, RdT P H f t xs → RdT P H2 f t xs
  | 0, _, _, h => h
  | f + 1, t, xs, h => by
    unfold RdT at h ⊢
    split at h
    · exact h
    · exact h
    · exact h
    · rcases h with h | ⟨id, xss, h1, h2, h3, h4, h5⟩
      · exact .inl h
      · exact .inr ⟨id, xss, h1, getRow_keep h2 (hk id), h3, h4, fun x hx => ⟨(h5 x hx).1, RdT.mono hk f (h5 x hx).2⟩⟩
    · obtain ⟨xss, h1, h2, h3⟩ := h
      exact ⟨xss, h1, h2, fun i fld x hi hx => ⟨(h3 i fld x hi hx).1, RdT.mono hk f (h3 i fld x hi hx).2⟩⟩
    · obtain ⟨xss, h1, h2, h3⟩ := h
      exact ⟨xss, h1, h2, fun x hx => ⟨(h3 x hx).1, RdT.mono hk f (h3 x hx).2⟩⟩
    · exact h

/-- A row that came in. -/
theorem Rel.share {H : Hp} (h : Rel P b0 ρ H W) {cs : List V} {l : Loc} {C : Array Value} {te : TypeId} {fr : Nat × Nat} (ho : l.own = false) (hC : W.heap[l.blk]? = some (.cells C te fr)) (hlt : l.blk < b0) (hc : CellsRel ρ cs C l.base) :
    Rel P b0 (renAdd ρ H.length 0 l) (H ++ [.row 0 cs false]) W ∧ ρ.Le (renAdd ρ H.length 0 l) := by
  have hle : ρ.Le (renAdd ρ H.length 0 l) := renAdd_le (.inl (h.fresh _ _ (Nat.le_refl _)))
  have hg : ∀ i, (H ++ [AB.row 0 cs false])[i]? = if i = H.length then some (.row 0 cs false) else H[i]? := by
    intro i
    rw [List.getElem?_append]
    split
    · rw [if_neg (by omega)]
    · by_cases e : i = H.length
      · subst e; simp
      · rw [if_neg e, List.getElem?_eq_none (by simp; omega), List.getElem?_eq_none (by omega)]
  have hold : ∀ {i g}, i ≠ H.length → renAdd ρ H.length 0 l i g = ρ i g := fun hi => if_neg fun e => hi e.1
  refine ⟨⟨fun id b hb hne => ?_, fun id g hb => ?_, fun i j bi bj li lj hij hi hj hli hlj ho1 ho2 => ?_, fun id g hid => ?_, fun id b g hb hlt' => ?_, h.size⟩, hle⟩
  · rw [hg] at hb
    split at hb
    · rename_i e
      injection hb with hb
      subst hb e
      exact ⟨l, renAdd_same _ _ _ _, ho, C, te, fr, hC, hc.mono hle, (fun e => by cases e), fun _ => hlt⟩
    · rename_i e
      obtain ⟨l', hl', hk⟩ := h.blk id b hb hne
      exact ⟨l', (hold e).trans hl', hk.mono hle⟩
  · rw [hg] at hb
    split at hb
    · cases hb
    · rename_i e; rw [hold e]; exact h.hole id g hb
  · rw [hg] at hi hj
    have no : ∀ {i bi li}, i = H.length → (if i = H.length then some (AB.row 0 cs false) else H[i]?) = some bi → renAdd ρ H.length 0 l i bi.gen = some li → li.own = true → False := by
      intro i bi li e hb hl hown
      subst e
      rw [if_pos rfl] at hb
      injection hb with hb
      subst hb
      rw [show (AB.row 0 cs false).gen = 0 from rfl, renAdd_same] at hl
      injection hl with hl
      subst hl
      rw [ho] at hown
      cases hown
    by_cases e1 : i = H.length
    · exact (no e1 hi hli ho1).elim
    · by_cases e2 : j = H.length
      · exact (no e2 hj hlj ho2).elim
      · rw [if_neg e1] at hi; rw [if_neg e2] at hj; rw [hold e1] at hli; rw [hold e2] at hlj
        exact h.inj i j bi bj li lj hij hi hj hli hlj ho1 ho2
  · simp only [List.length_append, List.length_singleton] at hid
    rw [hold (by omega)]
    exact h.fresh id g (by omega)
  · rw [hg] at hb
    split at hb
    · rename_i e
      injection hb with hb
      subst hb e
      have hlt'' : 0 < g := hlt'
      rw [renAdd, if_neg fun e => by omega]
      exact h.fresh _ g (Nat.le_refl _)
    · rename_i e; rw [hold e]; exact h.gen id b g hb hlt'

/-- Rows that came in, all of them. -/
def AllShared (H : Hp) : Prop := ∀ b ∈ H, ∃ cs, b = .row 0 cs false
def Hex (b0 : Nat) (W : World) (cs : List Value) : Prop := ∀ a n c, Value.slice (some a) n c ∈ cs → ∃ k C te fr, k < b0 ∧ W.heap[k]? = some (.cells C te fr)

/-- One reading made the machine's. -/
def Abs (P : Program) (b0 : Nat) (W : World) (f : Nat) (t : TypeId) (cs : List Value) : Prop :=
  ∀ ρ H, Rel P b0 ρ H W → ∃ (ρ' : Ren) (H' : Hp) (xs : List V), ρ.Le ρ' ∧ Rel P b0 ρ' (H ++ H') W ∧ AllShared H' ∧ VL (VC ρ') xs cs ∧ RdT P (H ++ H') f t xs
theorem app_keep (H H' : Hp) : ∀ (id : Nat) (b : AB), H[id]? = some b → (H ++ H')[id]? = some b := fun id b h => by
  rw [List.getElem?_append_left (List.getElem?_eq_some_iff.1 h).1, h]
theorem abs_many {f : Nat} : ∀ (L : List (TypeId × List Value)), (∀ p ∈ L, Abs P b0 W f p.1 p.2) → ∀ ρ H, Rel P b0 ρ H W → ∃ (ρ' : Ren) (H' : Hp) (xss : List (List V)), ρ.Le ρ' ∧ Rel P b0 ρ' (H ++ H') W ∧ AllShared H' ∧ xss.length = L.length ∧
    ∀ (i : Nat) (p : TypeId × List Value), L[i]? = some p → ∃ x, xss[i]? = some x ∧ VL (VC ρ') x p.2 ∧ RdT P (H ++ H') f p.1 x
  | [], _, ρ, H, h => ⟨ρ, [], [], Ren.Le.refl _, by simpa using h, (fun b hb => by cases hb), rfl, fun i p h => by simp at h⟩
  | p :: L, hA, ρ, H, h => by
    obtain ⟨ρ1, H1, xs, h1, h2, h3, h4, h5⟩ := hA p (by simp) ρ H h
    obtain ⟨ρ2, H2, xss, k1, k2, k3, k4, k5⟩ := abs_many L (fun q hq => hA q (by simp [hq])) ρ1 (H ++ H1) h2
    rw [List.append_assoc] at k2
    refine ⟨ρ2, H1 ++ H2, xs :: xss, h1.trans k1, k2, fun b hb => ?_, by simp [k4], fun i q hq => ?_⟩
    · rcases List.mem_append.1 hb with hb | hb
      · exact h3 b hb
      · exact k3 b hb
    · cases i with
      | zero =>
        simp at hq
        subst hq
        refine ⟨xs, rfl, h4.imp fun _ _ => VC.mono k1, ?_⟩
        rw [← List.append_assoc]
        exact h5.mono (app_keep _ _)
      | succ i =>
        obtain ⟨x, hx, r1, r2⟩ := k5 i q (by simpa using hq)
        rw [List.append_assoc] at r2
        exact ⟨x, by simpa using hx, r1, r2⟩

theorem VL.flat {R : V → Value → Prop} : ∀ {xss : List (List V)} {css : List (List Value)}, xss.length = css.length → (∀ (i : Nat) (x : List V) (c : List Value), xss[i]? = some x → css[i]? = some c → VL R x c) → VL R xss.flatten css.flatten
  | [], [], _, _ => trivial
  | x :: xss, c :: css, h, hh => by
    simp only [List.flatten_cons]
    exact (hh 0 x c rfl rfl).append (VL.flat (by simpa using h) fun i y d hy hd => hh (i + 1) y d (by simpa using hy) (by simpa using hd))
  | [], _ :: _, h, _ => by simp at h
  | _ :: _, [], h, _ => by simp at h

/-- Fields that lie one behind the other. -/
theorem tiles_cut : ∀ (fs : List Field) (n m : Nat) (cs : List Value), tiles P fs n = some m → cs.length = m → n ≤ cs.length → (fs.map fun f => (cs.drop f.offset).take (P.cellsOf f.type)).flatten = cs.drop n ∧ ∀ f ∈ fs, f.offset + P.cellsOf f.type ≤ cs.length
  | [], n, m, cs, h, hm, hn => by
    simp only [tiles, Option.some.injEq] at h
    subst h
    simp only [List.map_nil, List.flatten_nil]
    refine ⟨?_, fun f hf => by cases hf⟩
    rw [List.drop_eq_nil_of_le (by omega)]
  | f :: fs, n, m, cs, h, hm, hn => by
    simp only [tiles] at h
    split at h
    · rename_i e
      have hmono : ∀ (fs : List Field) (n m : Nat), tiles P fs n = some m → n ≤ m := by
        intro fs
        induction fs with
        | nil => intro n m h; simp only [tiles, Option.some.injEq] at h; omega
        | cons g fs ih =>
          intro n m h
          simp only [tiles] at h
          split at h
          · have := ih _ _ h; omega
          · cases h
      have hle := hmono _ _ _ h
      obtain ⟨h1, h2⟩ := tiles_cut fs _ m cs h hm (by omega)
      simp only [List.map_cons, List.flatten_cons, h1]
      subst e
      refine ⟨?_, fun g hg => ?_⟩
      · rw [← List.drop_drop, List.take_append_drop]
      · rcases List.mem_cons.1 hg with rfl | hg
        · omega
        · exact h2 g hg
    · cases h
theorem blocks_cut (z : Nat) (cs : List Value) : ∀ (n k : Nat), cs.length = (k + n) * z → ((List.range' k n).map fun i => (cs.drop (i * z)).take z).flatten = cs.drop (k * z)
  | 0, k, h => by simp only [List.range'_zero, List.map_nil, List.flatten_nil]; rw [List.drop_eq_nil_of_le (by rw [h]; simp)]
  | n + 1, k, h => by
    rw [List.range'_succ, List.map_cons, List.flatten_cons, blocks_cut z cs n (k + 1) (by rw [h]; congr 1; omega)]
    rw [Nat.add_mul, Nat.one_mul, ← List.drop_drop, List.take_append_drop]
end
end Go.Am
