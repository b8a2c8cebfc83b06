/-
  The abstract machine, part X: a lock, met by its contract. No statement of the seat stands here.
-/
import Derived.Test.YtdpdlobaabcjjaaAmGc
import Derived.Conc.MuLone
namespace Go.Am
open Go Go.Conc.Locks

/-- A lock's word is turned from one number to another one. -/
def wordV (x y : Int) : List V → Hp → Option (V × Hp)
  | [.ptr id g off], H => (getRow H id g).bind fun r => match r.1[off]? with
    | some (.int .i32 n) => if n = x ∧ r.2 = true then some (.tup [], H.set id (.row g (setAt r.1 off [.int .i32 y]) true)) else none
    | _ => none
  | _, _ => none
def muPr (L : MuLink) (gc : Hp → V × Hp → V × Hp := fun _ r => r) : Prims :=
  ⟨fun k => if k = L.lock then some (wordV 0 1) else if k = L.unlock then some (wordV 1 0) else none,
   fun k => if k = L.unlock then some fun a H => (wordV 1 0 a H).map (·.2) else none, gc⟩

section
variable {P : Program} {b0 : Nat} {ρ : Ren} {H H' : Hp} {W : World}

theorem word_sim {x y : Int} {args : List V} {v : V} (h : wordV x y args H = some (v, H')) (hR : Rel P b0 ρ H W) {us : Array Value} (ha : VL (VR ρ) args us.toList) :
    ∃ a : Addr, us = #[.pointer (some a)] ∧ W.cell? a = some (.int .i32 x) ∧ W.frozen? a = false ∧ v = .tup [] ∧ Step P b0 ρ ρ H H' W (W.setCell a (.int .i32 y)) := by
  unfold wordV at h
  split at h
  · rename_i id g off
    cases hg : getRow H id g with
    | none => rw [hg] at h; cases h
    | some r =>
      rw [hg] at h
      simp only [Option.bind_some] at h
      split at h
      · rename_i n hr
        split at h
        · rename_i hc
          obtain ⟨rfl, ho⟩ := hc
          simp only [Option.some.injEq, Prod.mk.injEq] at h
          obtain ⟨rfl, rfl⟩ := h
          obtain ⟨l, hl, hu⟩ : ∃ l, ρ id g = some l ∧ us = #[.pointer (some ⟨l.blk, l.base + off, none⟩)] := by
            obtain ⟨us, rfl⟩ : ∃ l, us = List.toArray l := ⟨us.toList, by simp⟩
            match us, ha with
            | [u], ha =>
              obtain ⟨l, hl, hu⟩ := ha.1
              exact ⟨l, hl, by rw [hu]⟩
          obtain ⟨hid, hlo, hlb, C, t, fr, hC, hcr, hfr, hCs, hlt⟩ := row_own hR hg ho hl
          obtain ⟨u', hu', hv', _⟩ := hcr off _ hr
          obtain rfl : u' = .int .i32 n := hv'
          have hb : l.base + off < C.size := (Array.getElem?_eq_some_iff.1 hu').1
          have hoff : off < r.1.length := (List.getElem?_eq_some_iff.1 hr).1
          refine ⟨_, hu, ?_, ?_, rfl, ?_⟩
          · simpa [World.cell?, hC] using hu'
          · unfold World.frozen?
            rw [hC]
            have := hfr.at (l.base + off) hb
            simp only [Bool.and_eq_false_iff, decide_eq_false_iff_not]
            omega
          · rw [setCell_eq_setRow W l.blk (l.base + off) C t fr _ hC]
            have hs := hcr.set (vs := [.int .i32 y]) (us := [.int .i32 y]) (off := off) ⟨rfl, trivial⟩ (by simp [Value.oneCell']) hoff (by omega)
            have e : (C.toList.take (l.base + off) ++ [Value.int .i32 y] ++ C.toList.drop (l.base + off + 1)).toArray = C.setIfInBounds (l.base + off) (.int .i32 y) := by
              apply Array.ext'
              rw [Array.toList_setIfInBounds]
              rw [List.set_eq_take_append_cons_drop]
              simp [hb]
            simp only [List.length_singleton] at hs
            rw [e] at hs
            exact hR.put hid rfl hl hs (by simp [hCs]) (by rw [setAt_length _ _ _ hoff]; exact hlt)
        · cases h
      · cases h
  · cases h

theorem muPr_ok {L : MuLink} (hl : MuLib P L) {gc : Hp → V × Hp → V × Hp} (hgc : GcOk P gc) : PrOk P (muPr L gc) := by
  have ent : ∀ (k : Nat) (fn : Func) (W : World) (us : Array Value), P.funcs[k]? = some fn → fn.body.isSome = true → fn.name ≠ "runtime.NumGoroutine" → (callFunc k us).run P W = .ok (.enter k us) W := by
    intro k fn W us hf hb hn
    obtain ⟨c, hc⟩ := Option.isSome_iff_exists.1 hb
    exact callFunc_enter hf hc hn us
  have elock : ∀ W us, (callFunc L.lock us).run P W = .ok (.enter L.lock us) W := fun W us => ent _ _ W us hl.f_lock rfl (by simp [lockFn])
  have eunlock : ∀ W us, (callFunc L.unlock us).run P W = .ok (.enter L.unlock us) W := fun W us => ent _ _ W us hl.f_unlock rfl (by simp [unlockFn])
  refine ⟨fun k p hk args H v H' h b0 ρ W us hR ha => ?_, fun k p hk args H H' h b0 ρ W us hR ha => ?_, hgc⟩
  · simp only [muPr] at hk
    split at hk
    · rename_i e
      injection hk with hk
      subst hk e
      obtain ⟨a, rfl, hc, hz, rfl, hst⟩ := word_sim h hR ha
      exact .inl ⟨_, _, elock W _, (MuLone.lock_free hl a W hc hz).mono fun e W' ⟨he, hw⟩ => ⟨.tuple #[], ρ, he, ⟨_, rfl, trivial⟩, by rw [hw]; exact hst⟩⟩
    · split at hk
      · rename_i e
        injection hk with hk
        subst hk e
        obtain ⟨a, rfl, hc, hz, rfl, hst⟩ := word_sim h hR ha
        exact .inl ⟨_, _, eunlock W _, (MuLone.unlock_held hl a W hc hz).mono fun e W' ⟨he, hw⟩ => ⟨.tuple #[], ρ, he, ⟨_, rfl, trivial⟩, by rw [hw]; exact hst⟩⟩
      · cases hk
  · simp only [muPr] at hk
    split at hk
    · rename_i e
      injection hk with hk
      subst hk e
      obtain ⟨⟨v, H1⟩, h1, rfl⟩ := Option.map_eq_some_iff.1 h
      obtain ⟨a, rfl, hc, hz, rfl, hst⟩ := word_sim h1 hR ha
      exact ⟨eunlock W _, (MuLone.unlock_deferred hl a .returning W hc hz).mono fun e u' W' ⟨hu, he, hw⟩ => ⟨hu, .tuple #[], ρ, he, by rw [hw]; exact hst⟩⟩
    · cases hk
end
end Go.Am
