/-
  Into which pieces bytes are cut: the plain law, and copying bytes. No statement of the seat stands here.
-/
import Derived.Test.YtdpdlobaabcjjabFragA
namespace Go.Proofs.Ytdpdlobaabcjjab
open Go Go.Am
set_option maxRecDepth 4000
set_option linter.unusedSimpArgs false
set_option linter.unusedVariables false

/-- Bytes copied. -/
theorem fn38 (H : Hp) (s : V) (l : List UInt8) (hs : Sl H s 1 (l.map byC)) (hn : l ≠ []) (hlen : l.length ≤ 4000) :
    ∃ v H2, callL Try.prog pr 38 [s] H = some (v, H2) ∧ Own H2 v 1 (l.map byC).flatten ∧ (∃ G, H2 = H ++ G) ∧ ∀ id, At v id → H.length ≤ id := by
  obtain ⟨c1, c2, c3⟩ := byC_cells l
  have hl : (l.map byC).length = l.length := List.length_map _
  have hn' : l.map byC ≠ [] := by simpa using hn
  refine own1_of (run38 (Nat.le_of_ble_eq_true rfl) ?_) c2
  have e1 := app_empty (by_ := 1) hs c1 hn' (by omega) (by omega) (by omega)
  have hne : l.length ≠ 0 := fun e => hn (List.length_eq_zero_iff.1 e)
  obtain ⟨_, ⟨rfl, h2⟩ | ⟨id, g, off, cp, cs, own, rfl, _⟩⟩ := id hs
  · exact absurd h2 hn'
  · simp (disch := omega) only [c38, r38_0, r38_1, r38_3, rs38, ↓reduceIte, go_sem, Nat.reduceLT, Nat.reduceEqDiff, Nat.reduceAdd, Nat.reduceMul, Nat.reduceLeDiff, Int.reduceLT, Int.reduceLE, Int.reduceEq, Int.reduceNeg, Int.reduceToNat, e1]
    refine ⟨.inr ⟨H.length, 1, (l.map byC).length, rfl, by omega, by omega, by simp⟩, fun id hid => ?_, ?_⟩
    · rw [List.getElem?_append_left hid]
    · rintro id' ⟨g', o, n, z, cp', e'⟩
      injection e' with e1
      omega

/-- Pieces of one whole, in a list that grows. -/
def Cuts (H : Hp) (v : V) (id time : Int) (qs : List (Int × Bool × List UInt8)) : Prop :=
  ∃ ps : List Pc, Own H v 5 (ps.map pcC).flatten ∧ ps.map (fun p => (p.id, p.at_, p.more, p.data, p.time)) = qs.map (fun q => (id, q.1, q.2.1, q.2.2, time)) ∧ ∀ p ∈ ps, Nice p.d ∧ Sl H p.d 1 (p.data.map byC) ∧ ∀ i, At p.d i → ¬ At v i
theorem cuts_nil (H : Hp) (id time : Int) : Cuts H .nilslice id time [] := ⟨[], own_nil _ _, rfl, by simp⟩
theorem Cuts.app {H L : Hp} {v : V} {id time : Int} {qs : List (Int × Bool × List UInt8)} (h : Cuts H v id time qs) : Cuts (H ++ L) v id time qs := by
  obtain ⟨ps, h1, h2, h3⟩ := h
  exact ⟨ps, h1.app, h2, fun p hp => ⟨(h3 p hp).1, (h3 p hp).2.1.app, (h3 p hp).2.2⟩⟩
theorem Cuts.push {H : Hp} {v : V} {id time : Int} {qs : List (Int × Bool × List UInt8)} (h : Cuts H v id time qs) (at_ : Int) (more : Bool) (d : V) (data : List UInt8) (hd : Nice d) (hs : Sl H d 1 (data.map byC)) (hsep : ∀ i, At d i → ¬ At v i) (hb : qs.length ≤ 300) :
    ∃ v' H', appOf 5 56 (H ++ [.row 0 (pcC ⟨id, at_, more, d, data, time⟩) true]) v (.slice H.length 0 0 1 5 .full) = some (v', H') ∧ Cuts H' v' id time (qs ++ [(at_, more, data)]) ∧ (∀ i, i < H.length → ¬ At v i → H'[i]? = H[i]?) ∧ H.length ≤ H'.length ∧ ∀ i, At v' i → At v i ∨ H.length ≤ i := by
  obtain ⟨ps, h1, h2, h3⟩ := h
  have hz : ∀ x ∈ ps.map pcC, x.length = 5 := by
    intro x hx
    obtain ⟨p, _, rfl⟩ := List.mem_map.1 hx
    rfl
  have hl : ps.length = qs.length := by simpa using congrArg List.length h2
  have hfl := flat_len hz
  rw [List.length_map] at hfl
  obtain ⟨v', H', e1, o1, f1, le1, at1⟩ := h1.push (by_ := 56) (ys := pcC ⟨id, at_, more, d, data, time⟩) rfl (by simp [pcC, hd.cell, go_sem]) (by omega) (by omega) (by omega)
  refine ⟨v', H', e1, ⟨ps ++ [⟨id, at_, more, d, data, time⟩], ?_, ?_, fun p hp => ?_⟩, f1, le1, at1⟩
  · rw [List.map_append, List.flatten_append]
    simpa using o1
  · rw [List.map_append, List.map_append, h2]; rfl
  · have key : ∀ p : Pc, Nice p.d → Sl H p.d 1 (p.data.map byC) → (∀ i, At p.d i → ¬ At v i) → Nice p.d ∧ Sl H' p.d 1 (p.data.map byC) ∧ ∀ i, At p.d i → ¬ At v' i := by
      intro p k1 k2 k3
      refine ⟨k1, k2.move fun i hi => f1 i (k2.at_lt hi) (k3 i hi), fun i hi hv => ?_⟩
      rcases at1 i hv with h | h
      · exact k3 i hi h
      · have := k2.at_lt hi; omega
    rcases List.mem_append.1 hp with hp | hp
    · exact key p (h3 p hp).1 (h3 p hp).2.1 (h3 p hp).2.2
    · rw [List.mem_singleton.1 hp]
      exact key ⟨id, at_, more, d, data, time⟩ hd hs hsep
theorem cuts_one (H : Hp) (id time : Int) : Cuts (H ++ [.row 0 (pcC ⟨id, 0, false, .nilslice, [], time⟩) true]) (.slice H.length 0 0 1 5 .full) id time [(0, false, [])] :=
  ⟨[⟨id, 0, false, .nilslice, [], time⟩], .inr ⟨H.length, 0, 1, rfl, rfl, by omega, by simp⟩, rfl, fun p hp => by
    rw [List.mem_singleton.1 hp]
    exact ⟨nice_nil, ⟨by simp, .inl ⟨rfl, rfl⟩⟩, by rintro i ⟨_, _, _, _, _, e⟩; cases e⟩⟩
theorem Cuts.nt {H : Hp} {v : V} {id time : Int} {qs : List (Int × Bool × List UInt8)} (h : Cuts H v id time qs) : v.isTup = false := by
  obtain ⟨ps, h1, _⟩ := h
  exact h1.nt
/-- Such pieces, as a function answers them. -/
def RetCuts (H : Hp) (id time : Int) (qs : List (Int × Bool × List UInt8)) (e : Int) (v : V) (H' : Hp) : Prop := ∃ out, v = .tup [out, .int .i64 e] ∧ Cuts H' out id time qs ∧ (∀ i, i < H.length → H'[i]? = H[i]?) ∧ ∀ i, At out i → H.length ≤ i
theorem cuts_of {H : Hp} {k : Nat} {cl : CallT} {args : List V} {id time e : Int} {qs : List (Int × Bool × List UInt8)} (h : ∃ v' H', RetCuts H id time qs e v' H' ∧ cl k args H = some (gcC H (v', H'))) :
    ∃ v H2, cl k args H = some (.tup [v, .int .i64 e], H2) ∧ Cuts H2 v id time qs ∧ (∃ G, H2 = H ++ G) := by
  obtain ⟨v', H', ⟨out, rfl, ⟨ps, h1, h2, h3⟩, h4, h5⟩, h6⟩ := h
  obtain ⟨v2, H2, k1, k2, k3, k4, k5⟩ := own_gc2 h1 h4 h5 (ws := [.int .i64 e]) rfl
  refine ⟨v2, H2, by rw [h6, k1], ⟨ps, k2, h2, fun p hp => ?_⟩, k3⟩
  rcases k5 with ⟨rfl, rfl⟩ | hleaf
  · exact h3 p hp
  · have hpl : p.d.leaf = true := by
      rw [List.all_eq_true] at hleaf
      exact hleaf p.d (List.mem_flatten.2 ⟨pcC p, List.mem_map.2 ⟨p, hp, rfl⟩, by simp [pcC]⟩)
    obtain ⟨g1, ⟨g2, ⟨e1, e2⟩ | ⟨i, g, off, cp, cs, own, e1, _⟩⟩, _⟩ := h3 p hp
    · refine ⟨g1, ⟨g2, .inl ⟨e1, e2⟩⟩, ?_⟩
      rintro i ⟨_, _, _, _, _, e3⟩
      rw [e1] at e3; cases e3
    · rw [e1] at hpl; cases hpl

/-! The plain law. -/
def cutP (B : List UInt8) (z j : Nat) : Int × Bool × List UInt8 := (((j * z : Nat) : Int), decide (j * z + z < B.length), (B.drop (j * z)).take z)
def qsAt (B : List UInt8) (z j : Nat) : List (Int × Bool × List UInt8) := if j = 0 then [(0, false, [])] else (List.range j).map (cutP B z)
def cutN (B : List UInt8) (z : Nat) : Nat := (B.length + z - 1) / z
theorem cutN_eq {B : List UInt8} {z j : Nat} (hz : 0 < z) (h1 : B.length ≤ j * z) (h2 : j = 0 ∨ (j - 1) * z < B.length) : j = cutN B z := by
  unfold cutN
  refine (Nat.div_eq_of_lt_le ?_ ?_).symm
  · rcases h2 with rfl | h2
    · simp
    · cases j with
      | zero => simp
      | succ j => rw [Nat.add_sub_cancel] at h2; rw [Nat.succ_mul]; omega
  · rw [Nat.succ_mul]; omega
theorem qsAt_next (B : List UInt8) (z j : Nat) : qsAt B z (j + 1) = (if j = 0 then [] else qsAt B z j) ++ [cutP B z j] := by
  unfold qsAt
  rw [if_neg (by omega), List.range_succ, List.map_append]
  by_cases h : j = 0
  · subst h; simp
  · simp [h]
theorem qsAt_len (B : List UInt8) (z j : Nat) : (qsAt B z j).length ≤ j + 1 := by
  unfold qsAt
  split <;> simp
def zeroPc (id time : Int) : Pc := ⟨id, 0, false, .nilslice, [], time⟩
def cutE (B : List UInt8) (id z time : Int) : Int := if z < 1 ∨ 4000 < z then 1 else if 4000 < B.length ∨ 200 < ((B.length : Int) + z - 1) / z then 3 else if isPieceB (zeroPc id time) = true then 0 else 1
def cutQ (B : List UInt8) (id z time : Int) : List (Int × Bool × List UInt8) := if cutE B id z time = 0 then qsAt B z.toNat (cutN B z.toNat) else []
theorem zero_ok {id time : Int} (hi : Inx id) (ht : Inx time) : PcOk (zeroPc id time) :=
  ⟨given_nil, fun _ => m25, by simp [zeroPc], hi, ⟨by simp [zeroPc], by simp [zeroPc]⟩, ht⟩
end Go.Proofs.Ytdpdlobaabcjjab
