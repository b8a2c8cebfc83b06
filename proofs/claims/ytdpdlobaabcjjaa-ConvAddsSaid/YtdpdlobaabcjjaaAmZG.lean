/-
  The abstract machine, part ZG: one element of a row, read and written in place. No statement of the seat stands here.
-/
import Derived.Test.YtdpdlobaabcjjaaAmZF
namespace Go.Am
open Go

section
variable {P : Program} {H : Hp} {id g : Nat} {pre mid post : List V} {o : Bool}
theorem foc_row (hid : id < H.length) : getRow (H.set id (.row g (pre ++ mid ++ post) o)) id g = some (pre ++ mid ++ post, o) := by
  unfold getRow
  rw [List.getElem?_set_self hid]
  simp
theorem foc_load {t : TypeId} (hg : aggT P t = some false) (hid : id < H.length) {j : Nat} (hj : j + 1 ≤ mid.length) : loadV P t (H.set id (.row g (pre ++ mid ++ post) o)) (.ptr id g (pre.length + j)) = mid[j]? := by
  rw [loadV_ptr, foc_row hid]
  simp only [Option.bind_some, partV, hg, Bool.false_eq_true, if_false]
  rw [List.append_assoc, List.getElem?_append_right (by omega), Nat.add_sub_cancel_left, List.getElem?_append_left (by omega)]
theorem foc_load0 {t : TypeId} (hg : aggT P t = some false) (hid : id < H.length) (hj : 1 ≤ mid.length) : loadV P t (H.set id (.row g (pre ++ mid ++ post) o)) (.ptr id g pre.length) = mid[0]? := by
  have := foc_load (P := P) (H := H) (g := g) (pre := pre) (post := post) (o := o) hg hid (j := 0) (mid := mid) (by omega)
  rwa [Nat.add_zero] at this
theorem foc_agg {t : TypeId} {n : Nat} (hg : aggT P t = some true) (hz : szOf P t = some n) (hid : id < H.length) (hn : mid.length = n) : loadV P t (H.set id (.row g (pre ++ mid ++ post) o)) (.ptr id g pre.length) = some (.agg mid) := by
  rw [loadV_ptr, foc_row hid]
  simp only [Option.bind_some, partV, hg, if_true, hz]
  rw [if_pos (by simp [hn]), List.append_assoc, List.drop_left, ← hn, List.take_left]
theorem setAt_def (cs : List V) (off : Nat) (vs : List V) : setAt cs off vs = cs.take off ++ vs ++ cs.drop (off + vs.length) := rfl
theorem setAt_mid (vs : List V) {j : Nat} (hj : j + vs.length ≤ mid.length) : setAt (pre ++ mid ++ post) (pre.length + j) vs = pre ++ setAt mid j vs ++ post := by
  rw [setAt_def, setAt_def, List.append_assoc pre mid post, List.take_append, List.drop_append, List.take_of_length_le (by omega), List.drop_eq_nil_of_le (by omega), Nat.add_sub_cancel_left, List.nil_append]
  rw [show pre.length + j + vs.length - pre.length = j + vs.length by omega, List.take_append_of_le_length (by omega), List.drop_append_of_le_length (by omega)]
  simp only [List.append_assoc]
theorem foc_store {t : TypeId} {n : Nat} (hz : szOf P t = some n) (hid : id < H.length) {j : Nat} {v : V} (hn : v.cells.length = n) (hj : j + v.cells.length ≤ mid.length) (hc : v.cells.all V.isCell = true) : storeV P t (H.set id (.row g (pre ++ mid ++ post) true)) (.ptr id g (pre.length + j)) v = some (H.set id (.row g (pre ++ setAt mid j v.cells ++ post) true)) := by
  rw [storeV_ptr, foc_row hid]
  simp only [Option.bind_some]
  rw [if_pos ⟨trivial, by rw [hz, hn], by simp only [List.length_append]; omega, hc⟩, setAt_mid _ hj, List.set_set]
theorem foc_store0 {t : TypeId} {n : Nat} (hz : szOf P t = some n) (hid : id < H.length) {v : V} (hn : v.cells.length = n) (hj : v.cells.length ≤ mid.length) (hc : v.cells.all V.isCell = true) : storeV P t (H.set id (.row g (pre ++ mid ++ post) true)) (.ptr id g pre.length) v = some (H.set id (.row g (pre ++ setAt mid 0 v.cells ++ post) true)) := by
  have := foc_store (P := P) (H := H) (g := g) (pre := pre) (post := post) (mid := mid) hz hid (j := 0) hn (by omega) hc
  rwa [Nat.add_zero] at this
theorem foc_stI {t : TypeId} (hz : szOf P t = some 1) (hid : id < H.length) {j : Nat} {k : IntKind} {n : Int} (hj : j + 1 ≤ mid.length) : storeV P t (H.set id (.row g (pre ++ mid ++ post) true)) (.ptr id g (pre.length + j)) (.int k n) = some (H.set id (.row g (pre ++ setAt mid j [.int k n] ++ post) true)) :=
  foc_store hz hid rfl hj rfl
theorem foc_stI0 {t : TypeId} (hz : szOf P t = some 1) (hid : id < H.length) {k : IntKind} {n : Int} (hj : 1 ≤ mid.length) : storeV P t (H.set id (.row g (pre ++ mid ++ post) true)) (.ptr id g pre.length) (.int k n) = some (H.set id (.row g (pre ++ setAt mid 0 [.int k n] ++ post) true)) :=
  foc_store0 hz hid rfl hj rfl
theorem foc_stA {t : TypeId} {n : Nat} (hz : szOf P t = some n) (hid : id < H.length) {cs : List V} (hn : cs.length = n) (hm : mid.length = n) (hc : cs.all V.isCell = true) : storeV P t (H.set id (.row g (pre ++ mid ++ post) true)) (.ptr id g pre.length) (.agg cs) = some (H.set id (.row g (pre ++ cs ++ post) true)) := by
  rw [foc_store0 (v := .agg cs) hz hid hn (by show cs.length ≤ _; omega) hc]
  show some (H.set id (.row g (pre ++ setAt mid 0 cs ++ post) true)) = _
  rw [setAt_def, List.take_zero, List.nil_append, List.drop_eq_nil_of_le (by omega), List.append_nil]
/-- Another block is as it was. -/
theorem foc_other {t : TypeId} {b : AB} {id' g' off : Nat} (hne : id ≠ id') : loadV P t (H.set id b) (.ptr id' g' off) = loadV P t H (.ptr id' g' off) := by
  rw [loadV_ptr, loadV_ptr]
  unfold getRow
  rw [List.getElem?_set_ne hne]
theorem load_frame {H' : Hp} {t : TypeId} {id' g' off : Nat} (h : H'[id']? = H[id']?) : loadV P t H' (.ptr id' g' off) = loadV P t H (.ptr id' g' off) := by
  rw [loadV_ptr, loadV_ptr]
  unfold getRow
  rw [h]
theorem set_same {b : AB} (h : H[id]? = some b) : H.set id b = H := by
  apply List.ext_getElem?
  intro i
  rw [List.getElem?_set]
  split
  · rename_i e
    subst e
    rw [if_pos (List.getElem?_eq_some_iff.1 h).1, h]
  · rfl
/-- An element among the cells of all. -/
theorem split_at {α : Type} {enc : α → List V} {w : Nat} (hw : ∀ a, (enc a).length = w) : ∀ {xs : List α} {i : Nat} {x : α}, xs[i]? = some x → ∃ pre post, (xs.map enc).flatten = pre ++ enc x ++ post ∧ pre.length = i * w ∧ ∀ x', ((xs.set i x').map enc).flatten = pre ++ enc x' ++ post
  | [], i, x, h => by simp at h
  | y :: xs, 0, x, h => by
    simp only [List.getElem?_cons_zero, Option.some.injEq] at h
    subst h
    exact ⟨[], (xs.map enc).flatten, by simp, by simp, fun x' => by simp⟩
  | y :: xs, i + 1, x, h => by
    simp only [List.getElem?_cons_succ] at h
    obtain ⟨pre, post, h1, h2, h3⟩ := split_at hw h
    refine ⟨enc y ++ pre, post, ?_, ?_, fun x' => ?_⟩
    · simp only [List.map_cons, List.flatten_cons, h1, List.append_assoc]
    · rw [List.length_append, hw, h2, Nat.succ_mul, Nat.add_comm]
    · simp only [List.set_cons_succ, List.map_cons, List.flatten_cons, h3, List.append_assoc]
/-- A slice that grows, one element in sight. -/
theorem Own.focus {α : Type} {enc : α → List V} {w : Nat} (hw : ∀ a, (enc a).length = w) (hw0 : 0 < w) {v : V} {xs : List α} (h : Own H v w (xs.map enc).flatten) {i : Nat} {x : α} (hx : xs[i]? = some x) :
    ∃ id g pre post, v = .slice id g 0 xs.length w .full ∧ id < H.length ∧ 0 + i * w = pre.length ∧ H = H.set id (.row g (pre ++ enc x ++ post) true) ∧ (∀ x', Own (H.set id (.row g (pre ++ enc x' ++ post) true)) v w ((xs.set i x').map enc).flatten) := by
  obtain ⟨pre, post, h1, h2, h3⟩ := split_at hw hx
  have hl : (xs.map enc).flatten.length = xs.length * w := by
    rw [flat_len (sz := w)]
    · simp
    · intro y hy
      obtain ⟨a, _, rfl⟩ := List.mem_map.1 hy
      exact hw a
  rcases h with ⟨rfl, h4⟩ | ⟨id, g, n, rfl, h4, h5, h6⟩
  · rw [h4] at h1
    have := congrArg List.length h1
    simp only [List.length_nil, List.length_append, hw] at this
    omega
  · have hn : n = xs.length := Nat.eq_of_mul_eq_mul_right hw0 (h4.trans hl)
    subst hn
    have hid : id < H.length := (List.getElem?_eq_some_iff.1 h6).1
    refine ⟨id, g, pre, post, rfl, hid, by omega, ?_, fun x' => .inr ⟨id, g, xs.length, rfl, ?_, h5, ?_⟩⟩
    · rw [← h1, set_same h6]
    · rw [h3, ← hl, h1]
      simp only [List.length_append, hw]
    · rw [List.getElem?_set_self hid, h3]
theorem own_new {n sz : Nat} {cs : List V} (h1 : n * sz = cs.length) (h2 : 0 < n) : Own (H ++ [.row 0 cs true]) (.slice H.length 0 0 n sz .full) sz cs :=
  .inr ⟨H.length, 0, n, rfl, h1, h2, by simp⟩
/-- A slice written out. -/
theorem bs_gen {t e : TypeId} {sz len : Nat} {zv : V} (hu : P.underlying t = some (.slice e)) (hz : szOf P e = some sz) (hv : zeroV P e = some zv) (hl : zv.cells.length = sz) (hs : 0 < sz) (hs2 : len * sz ≤ 2 ^ 24) (ps : List (Nat × V)) : buildSliceV P t len ps H = (fillV (fun i => some (i * sz, sz)) (repeatV zv.cells len) ps).bind fun cs => if cs.all V.isCell = true then some (.slice H.length 0 0 len sz .full, H ++ [.row 0 cs true]) else none := by
  unfold buildSliceV
  simp only [hu, hz, hv, Option.bind_some]
  rw [if_pos ⟨hl, hs, hs2⟩]
@[go_sem] theorem repeatV_0 (z : List V) : repeatV z 0 = [] := rfl
@[go_sem] theorem repeatV_S (z : List V) (n : Nat) : repeatV z (n + 1) = z ++ repeatV z n := rfl
end
end Go.Am
