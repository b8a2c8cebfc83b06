/-
  The abstract machine, part ZF: slices cut, copied, turned to texts. No statement of the seat stands here.
-/
import Derived.Test.YtdpdlobaabcjjaaAmZE
namespace Go.Am
open Go

section
variable {P : Program} {H : Hp}
theorem Sl.src {v : V} {sz : Nat} {xs : List (List V)} (h : Sl H v sz xs) : srcCells H v = some (xs.flatten, xs.length) := by
  obtain ⟨hs, ⟨rfl, rfl⟩ | ⟨id, g, off, cp, cs, own, rfl, hr, hl, hf⟩⟩ := h
  · rfl
  · simp only [srcCells, hr, Option.bind_some]
    rw [if_pos hl, hf]
/-- A part of a slice. -/
theorem Sl.sub {v : V} {sz : Nat} {xs : List (List V)} (h : Sl H v sz xs) {t : TypeId} (ht : sliceT P t sz = true) {k e : Nat} (h1 : k ≤ e) (h2 : e ≤ xs.length) :
    ∃ v', (∀ (H' : Hp) (j j' : IntKind), sliceV P t H' v (some (.int j k)) (some (.int j' e)) = some v') ∧ Sl H v' sz ((xs.drop k).take (e - k)) ∧ ∀ id, At v' id → At v id := by
  obtain ⟨hs, h⟩ := h
  have hs' : ∀ x ∈ (xs.drop k).take (e - k), x.length = sz := fun x hx => hs x (List.mem_of_mem_drop (List.mem_of_mem_take hx))
  unfold sliceT at ht
  split at ht
  · rename_i el hu
    simp only [beq_iff_eq] at ht
    rcases h with ⟨rfl, rfl⟩ | ⟨id, g, off, cp, cs, own, rfl, hr, hl, hf⟩
    · refine ⟨.nilslice, fun H' j j' => ?_, ⟨by simp, .inl ⟨rfl, by simp⟩⟩, fun id h => h⟩
      simp only [List.length_nil] at h2
      obtain rfl : e = 0 := by omega
      obtain rfl : k = 0 := by omega
      simp [sliceV, hu, ht, boundV]
    · refine ⟨.slice id g (off + k * sz) (e - k) sz (cutCap cp k), fun H' j j' => ?_, ⟨hs', .inr ⟨id, g, off + k * sz, cutCap cp k, cs, own, ?_, hr, ?_, ?_⟩⟩, ?_⟩
      · simp only [sliceV, hu, boundV, Option.bind_some, ht]
        rw [if_pos ⟨trivial, by omega, by omega, by omega⟩]
        simp
      · rw [List.length_take, List.length_drop, Nat.min_eq_left (by omega)]
      · rw [List.length_take, List.length_drop, Nat.min_eq_left (by omega), Nat.add_assoc, ← Nat.add_mul]
        have : (k + (e - k)) * sz ≤ xs.length * sz := Nat.mul_le_mul_right _ (by omega)
        omega
      · rw [List.length_take, List.length_drop, Nat.min_eq_left (by omega)]
        have hle : k * sz + (e - k) * sz ≤ xs.length * sz := by
          rw [← Nat.add_mul]; exact Nat.mul_le_mul_right _ (by omega)
        have e1 : (cs.drop (off + k * sz)).take ((e - k) * sz) = (xs.flatten.drop (k * sz)).take ((e - k) * sz) := by
          rw [← hf, List.drop_take, List.take_take, List.drop_drop, Nat.min_eq_left (by omega)]
        rw [e1]
        clear e1 hle hl hf hr hs' ht hu
        have flat_drop : ∀ (k : Nat) (ys : List (List V)), (∀ x ∈ ys, x.length = sz) → ys.flatten.drop (k * sz) = (ys.drop k).flatten := by
          intro k
          induction k with
          | zero => intro ys _; simp
          | succ k ih =>
            intro ys hy
            cases ys with
            | nil => simp
            | cons y ys =>
              rw [List.flatten_cons, Nat.succ_mul, Nat.add_comm, ← List.drop_drop, ← hy y (by simp), List.drop_left, List.drop_succ_cons, hy y (by simp)]
              exact ih ys fun x hx => hy x (by simp [hx])
        have flat_take : ∀ (k : Nat) (ys : List (List V)), (∀ x ∈ ys, x.length = sz) → ys.flatten.take (k * sz) = (ys.take k).flatten := by
          intro k
          induction k with
          | zero => intro ys _; simp
          | succ k ih =>
            intro ys hy
            cases ys with
            | nil => simp
            | cons y ys =>
              rw [List.flatten_cons, Nat.succ_mul, Nat.add_comm, ← hy y (by simp), List.take_length_add_append, List.take_succ_cons, List.flatten_cons, hy y (by simp)]
              rw [ih ys fun x hx => hy x (by simp [hx])]
        rw [flat_drop k xs hs, flat_take (e - k) _ fun x hx => hs x (List.mem_of_mem_drop hx)]
      · rintro id' ⟨g', o, n, z, cp', e'⟩
        injection e' with e1
        subst e1
        exact ⟨_, _, _, _, _, rfl⟩
  · cases ht
/-- Bytes as a text. -/
def strT (P : Program) (s d : TypeId) : Bool := match P.underlying s, P.underlying d with
  | some (.slice e), some .string => (match P.underlying e with | some (.int .u8) => true | _ => false)
  | _, _ => false
theorem bytesOf_byC : ∀ (l : List UInt8), bytesOf (l.map byC).flatten = some l
  | [] => rfl
  | b :: l => by
    simp only [List.map_cons, List.flatten_cons, byC, List.cons_append, List.nil_append, bytesOf, byteOf]
    rw [show (l.map byC).flatten = (l.map byC).flatten from rfl, bytesOf_byC l]
    simp
theorem Sl.str {v : V} {l : List UInt8} (h : Sl H v 1 (l.map byC)) {s d : TypeId} (ht : strT P s d = true) : convV P s d H v = some (.str l, H) := by
  unfold strT at ht
  split at ht
  · rename_i e hu hd
    split at ht
    · rename_i he
      obtain ⟨hs, ⟨rfl, h2⟩ | ⟨id, g, off, cp, cs, own, rfl, hr, hl, hf⟩⟩ := h
      · obtain rfl : l = [] := by simpa using h2
        simp [convV, hu, hd, he]
      · simp only [List.length_map, Nat.mul_one] at hl hf
        simp only [convV, hu, hd, he, List.length_map, hr, Option.bind_some]
        rw [if_pos ⟨trivial, hl⟩, hf, bytesOf_byC]
        rfl
    · cases ht
  · cases ht
theorem byC_cells (l : List UInt8) : (l.map byC).flatten.all V.isCell = true ∧ (l.map byC).flatten.all V.leaf = true ∧ (l.map byC).flatten.length = l.length := by
  induction l with
  | nil => exact ⟨rfl, rfl, rfl⟩
  | cons b l ih =>
    obtain ⟨h1, h2, h3⟩ := ih
    simp only [List.map_cons, List.flatten_cons, List.all_append, List.length_append, h1, h2, h3, List.length_cons]
    refine ⟨rfl, rfl, ?_⟩
    simp [byC, Nat.add_comm]
/-- No element at all, written out. -/
theorem bs_zero {t e : TypeId} {sz : Nat} {zv : V} (hu : P.underlying t = some (.slice e)) (hz : szOf P e = some sz) (hv : zeroV P e = some zv) (hl : zv.cells.length = sz) (hs : 0 < sz) : buildSliceV P t 0 [] H = some (.slice H.length 0 0 0 sz .full, H ++ [.row 0 [] true]) := by
  unfold buildSliceV
  simp only [hu, hz, hv, Option.bind_some]
  rw [if_pos ⟨hl, hs, by omega⟩]
  rfl
/-- All of a list laid behind nothing. -/
theorem app_nil' {x : V} {sz by_ : Nat} {xs : List (List V)} (h : Sl H x sz xs) (hc : xs.flatten.all V.isCell = true) (hn : xs ≠ []) (h1 : xs.length * by_ ≤ 2 ^ 40) (h2 : xs.length ≤ 2 ^ 40) : appOf sz by_ H .nilslice x = some (.slice H.length 0 0 xs.length sz .full, H ++ [.row 0 xs.flatten true]) := by
  unfold appOf
  rw [h.src]
  simp only [Option.bind_some]
  have : xs.length ≠ 0 := fun e => hn (List.length_eq_zero_iff.1 e)
  rw [if_pos ⟨flat_len h.1, hc⟩, if_neg this, if_pos ⟨h1, h2⟩]
theorem app_empty {x : V} {sz by_ : Nat} {xs : List (List V)} (h : Sl H x sz xs) (hc : xs.flatten.all V.isCell = true) (hn : xs ≠ []) (h0 : 0 < sz) (h1 : xs.length * by_ ≤ 2 ^ 40) (h2 : xs.length ≤ 2 ^ 40) : appOf sz by_ (H ++ [.row 0 [] true]) (.slice H.length 0 0 0 sz .full) x = some (.slice H.length 1 0 xs.length sz .full, H ++ [.row 1 xs.flatten true]) := by
  unfold appOf
  rw [h.app.src]
  simp only [Option.bind_some, getRow_last]
  have h3 : xs.length ≠ 0 := fun e => hn (List.length_eq_zero_iff.1 e)
  have h4 : 0 < xs.length * sz := Nat.mul_pos (by omega) h0
  rw [if_pos ⟨flat_len h.1, hc⟩, if_pos ⟨trivial, by simpa using h1, by simpa using h2, by simp⟩, if_neg h3]
  simp only [if_true]
  rw [if_neg (by simp only [List.length_nil, Nat.zero_add]; omega), if_pos (by simp)]
  simp
/-- What is kept of a call's new rows, if a slice of values that lead somewhere is told: all of it; else the row. -/
theorem own_gc2 {H' : Hp} {v : V} {sz : Nat} {cs : List V} (ho : Own H' v sz cs) (hpre : ∀ id, id < H.length → H'[id]? = H[id]?) (hfr : ∀ id, At v id → H.length ≤ id) {ws : List V} (hw : ws.all V.leaf = true) :
    ∃ v2 H2, gcC H (.tup (v :: ws), H') = (.tup (v2 :: ws), H2) ∧ Own H2 v2 sz cs ∧ (∃ G, H2 = H ++ G) ∧ (∀ id, At v2 id → H.length ≤ id) ∧ ((H2 = H' ∧ v2 = v) ∨ cs.all V.leaf = true) := by
  by_cases hl : cs.all V.leaf = true
  · obtain ⟨v2, H2, h1, _, h2, h3, h4⟩ := own_gc ho hpre hfr hl hw
    exact ⟨v2, H2, h1, h2, h3, h4, .inr hl⟩
  · obtain ⟨G, hG⟩ := pre_of hpre
    rcases ho with ⟨rfl, rfl⟩ | ⟨id, g, n, rfl, h1, h2, h3⟩
    · exact absurd rfl hl
    · obtain ⟨h4, _, _⟩ := leaf_refs hw
      have hid : H.length ≤ id := hfr id ⟨_, _, _, _, _, rfl⟩
      have hL : fresh H.length (refR (.tup (.slice id g 0 n sz .full :: ws))) = [(id, g)] := by
        simp only [refR, List.flatMap_cons, h4, List.append_nil]
        exact fresh_of hid
      have hk : keepRow H H' (id, g) = none := by
        unfold keepRow
        rw [if_pos hid]
        simp only [h3]
        rw [if_neg (by simp [hl])]
      refine ⟨.slice id g 0 n sz .full, H', ?_, .inr ⟨id, g, n, rfl, h1, h2, h3⟩, ⟨G, hG⟩, hfr, .inl ⟨rfl, rfl⟩⟩
      unfold gcC
      split
      · simp only [hL, mapO, hk, Option.bind_none]
      · rfl
structure Nice (d : V) : Prop where
  cell : d.isCell = true
  tup : d.isTup = false
  self : eqC d d = true
  cells : d.cells = [d]
theorem nice_nil : Nice .nilslice := ⟨rfl, rfl, rfl, rfl⟩
theorem nice_slice (a b c d e : Nat) : Nice (.slice a b c d e .full) := ⟨rfl, rfl, by simp [eqC, eqBase], rfl⟩
theorem Sl.at_lt {v : V} {sz : Nat} {xs : List (List V)} (h : Sl H v sz xs) {i : Nat} (ha : At v i) : i < H.length := by
  obtain ⟨g', o, n, z, cp', rfl⟩ := ha
  obtain ⟨_, ⟨h2, _⟩ | ⟨id, g, off, cp, cs, own, e, hr, _⟩⟩ := h
  · cases h2
  · injection e with e1
    subst e1
    exact getRow_lt hr
theorem Sl.move {H' : Hp} {v : V} {sz : Nat} {xs : List (List V)} (h : Sl H v sz xs) (hf : ∀ i, At v i → H'[i]? = H[i]?) : Sl H' v sz xs := by
  obtain ⟨hs, h⟩ := h
  refine ⟨hs, h.imp (fun h => h) ?_⟩
  rintro ⟨id, g, off, cp, cs, own, rfl, hr, r⟩
  exact ⟨id, g, off, cp, cs, own, rfl, row_frame hr (hf id ⟨_, _, _, _, _, rfl⟩), r⟩
/-! A row whose place is told otherwise. -/
theorem len_snoc (l : Hp) (a b : AB) : (l ++ [a]).length = (l ++ [b]).length := by simp
@[go_sem] theorem load_at {id : Nat} (t : TypeId) (g off : Nat) (cs : List V) (o : Bool) (h : id = H.length) : loadV P t (H ++ [.row g cs o]) (.ptr id g off) = partV P t cs off := by
  subst h; exact load_last ..
@[go_sem] theorem store_at {id : Nat} (t : TypeId) (g off : Nat) (cs : List V) (v : V) (h : id = H.length) : storeV P t (H ++ [.row g cs true]) (.ptr id g off) v = if szOf P t = some v.cells.length ∧ off + v.cells.length ≤ cs.length ∧ v.cells.all V.isCell = true then some (H ++ [.row g (setAt cs off v.cells) true]) else none := by
  subst h; exact store_last ..
/-! Is it nil? -/
def isSlT (P : Program) (t : TypeId) : Bool := match P.underlying t with
  | some (.slice _) => true
  | _ => false
def isPtT (P : Program) (t : TypeId) : Bool := match P.underlying t with
  | some (.pointer _) => true
  | _ => false
def isMpT (P : Program) (t : TypeId) : Bool := match P.underlying t with
  | some (.map _ _) => true
  | _ => false
theorem sl_nil {t : TypeId} (h : isSlT P t = true) (a b c d e : Nat) (cp : Cap) : binV P .eql t (.slice a b c d e cp) .nilslice = some (.bool false) ∧ binV P .neq t (.slice a b c d e cp) .nilslice = some (.bool true) ∧ binV P .eql t .nilslice .nilslice = some (.bool true) ∧ binV P .neq t .nilslice .nilslice = some (.bool false) := by
  unfold isSlT at h
  split at h
  · rename_i hu; simp [binV, eqV, hu]
  · cases h
theorem pt_nil {t : TypeId} (h : isPtT P t = true) (a b c : Nat) : binV P .eql t (.ptr a b c) .nilptr = some (.bool false) ∧ binV P .neq t (.ptr a b c) .nilptr = some (.bool true) ∧ binV P .eql t .nilptr .nilptr = some (.bool true) ∧ binV P .neq t .nilptr .nilptr = some (.bool false) := by
  unfold isPtT at h
  split at h
  · rename_i hu; simp [binV, eqV, hu]
  · cases h
theorem mp_nil {t : TypeId} (h : isMpT P t = true) (a : Nat) : binV P .eql t (.map a) .nilmap = some (.bool false) ∧ binV P .neq t (.map a) .nilmap = some (.bool true) ∧ binV P .eql t .nilmap .nilmap = some (.bool true) ∧ binV P .neq t .nilmap .nilmap = some (.bool false) := by
  unfold isMpT at h
  split at h
  · rename_i hu; simp [binV, eqV, hu]
  · cases h
end
end Go.Am
