/-
  The abstract machine, part ZD: types, rows, slices and their operations, as simp steps through them. No statement of the seat stands here.
-/
import Derived.Test.YtdpdlobaabcjjaaAmZC
import Derived.KernelRfl
namespace Go.Am
open Go

section
variable {P : Program} {H : Hp}

/-! Structs. -/
def offsOk (P : Program) (s : TypeId) (offs : List Nat) : Bool :=
  match P.underlying s with
  | some (.struct fs) => fs.toList.map (·.offset) == offs && fs.toList.all (fun f => match szOf P f.type with | some n => n != 0 | none => false)
  | _ => false
def fieldAt (offs : List Nat) (id g off i : Nat) : Option V := (offs[i]?).map fun o => .ptr id g (off + o)
theorem fieldAt_eq {s : TypeId} {offs : List Nat} (h : offsOk P s offs = true) (id g off i : Nat) : fieldAddrV P s (.ptr id g off) i = fieldAt offs id g off i := by
  unfold offsOk at h
  unfold fieldAddrV fieldAt
  split at h
  · rename_i fs hu
    simp only [Bool.and_eq_true, beq_iff_eq, List.all_eq_true] at h
    obtain ⟨rfl, h⟩ := h
    simp only [hu, List.getElem?_map, Array.getElem?_toList]
    cases hf : fs[i]? with
    | none => rfl
    | some f =>
      simp only [Option.bind_some, Option.map_some]
      have := h f (Array.mem_toList_iff.2 (Array.mem_of_getElem? hf))
      split at this
      · rename_i n hn
        rw [hn]
        simp only [Option.bind_some]
        rw [if_neg (by simpa using this)]
      · cases this
  · cases h
def fieldsOk (P : Program) (s : TypeId) (fl : List (Nat × Nat)) : Bool :=
  match P.underlying s with
  | some (.struct fs) => fs.toList.map (fun f => (f.type, f.offset)) == fl
  | _ => false
def fieldOf (P : Program) (fl : List (Nat × Nat)) (cs : List V) (i : Nat) : Option V := (fl[i]?).bind fun p => partV P p.1 cs p.2
theorem fieldOf_eq {s : TypeId} {fl : List (Nat × Nat)} (h : fieldsOk P s fl = true) (cs : List V) (i : Nat) : fieldV P s (.agg cs) i = fieldOf P fl cs i := by
  unfold fieldsOk at h
  unfold fieldV fieldOf
  split at h
  · rename_i fs hu
    simp only [beq_iff_eq] at h
    subst h
    simp only [hu, List.getElem?_map, Array.getElem?_toList]
    cases fs[i]? <;> rfl
  · cases h
def placesOf (P : Program) (t : TypeId) : Option (List (Nat × Nat)) :=
  match P.underlying t with
  | some (.struct fields) => fields.toList.mapM fun f => (P.info? f.type).map fun i => (f.offset, i.size)
  | _ => none
def buildOf (z : List V) (places : List (Nat × Nat)) (ps : List (Nat × V)) : Option V := (fillV (fun i => places[i]?) z ps).map V.agg
theorem buildOf_eq {t : TypeId} {z : List V} {places : List (Nat × Nat)} (hz : zeroV P t = some (.agg z)) (hp : placesOf P t = some places) (ps : List (Nat × V)) : buildV P t ps = buildOf z places ps := by
  unfold buildV buildOf
  unfold placesOf at hp
  rw [hz]
  split at hp
  · rename_i fs hu
    simp only [hu, Option.bind_some]
    rw [hp]
    rfl
  · cases hp
@[go_sem] theorem fieldAt_0 (o : Nat) (os : List Nat) (id g off : Nat) : fieldAt (o :: os) id g off 0 = some (.ptr id g (off + o)) := rfl
@[go_sem] theorem fieldAt_S (o : Nat) (os : List Nat) (id g off i : Nat) : fieldAt (o :: os) id g off (i + 1) = fieldAt os id g off i := by simp [fieldAt]
@[go_sem] theorem fieldOf_0 (p : Nat × Nat) (fl : List (Nat × Nat)) (cs : List V) : fieldOf P (p :: fl) cs 0 = partV P p.1 cs p.2 := rfl
@[go_sem] theorem fieldOf_S (p : Nat × Nat) (fl : List (Nat × Nat)) (cs : List V) (i : Nat) : fieldOf P (p :: fl) cs (i + 1) = fieldOf P fl cs i := by simp [fieldOf]
@[go_sem] theorem buildOf_def (z : List V) (places : List (Nat × Nat)) (ps : List (Nat × V)) : buildOf z places ps = (fillV (fun i => places[i]?) z ps).map V.agg := rfl
@[go_sem] theorem fillV_nil (f : Nat → Option (Nat × Nat)) (cs : List V) : fillV f cs [] = some cs := rfl
/-- One part more, laid in; first-order, so that nothing is stepped into too early. -/
def fillK (p : Option (Nat × Nat)) (f : Nat → Option (Nat × Nat)) (cs : List V) (v : V) (rest : List (Nat × V)) : Option (List V) := p.bind fun p => if v.cells.all V.isCell = true ∧ v.cells.length = p.2 ∧ p.1 + v.cells.length ≤ cs.length then fillV f (setAt cs p.1 v.cells) rest else none
@[go_sem] theorem fillV_cons (f : Nat → Option (Nat × Nat)) (cs : List V) (i : Nat) (v : V) (rest : List (Nat × V)) : fillV f cs ((i, v) :: rest) = fillK (f i) f cs v rest := rfl
@[go_sem] theorem fillK_some (o n : Nat) (f : Nat → Option (Nat × Nat)) (cs : List V) (v : V) (rest : List (Nat × V)) : fillK (some (o, n)) f cs v rest = if v.cells.all V.isCell = true ∧ v.cells.length = n ∧ o + v.cells.length ≤ cs.length then fillV f (setAt cs o v.cells) rest else none := rfl
@[go_sem] theorem getE_0 {α : Type} (a : α) (l : List α) : (a :: l)[0]? = some a := rfl
@[go_sem] theorem getE_S {α : Type} (a : α) (l : List α) (i : Nat) : (a :: l)[i + 1]? = l[i]? := rfl
@[go_sem] theorem len_nil' {α : Type} : ([] : List α).length = 0 := rfl
@[go_sem] theorem len_cons' {α : Type} (a : α) (l : List α) : (a :: l).length = l.length + 1 := rfl
@[go_sem] theorem setAt_0 (c v : V) (cs : List V) : setAt (c :: cs) 0 [v] = v :: cs := rfl
@[go_sem] theorem setAt_S (c : V) (cs vs : List V) (i : Nat) : setAt (c :: cs) (i + 1) vs = c :: setAt cs i vs := by
  simp [setAt, Nat.add_right_comm]
@[go_sem] theorem setAt_0c (c v w : V) (cs vs : List V) : setAt (c :: cs) 0 (v :: w :: vs) = v :: setAt cs 0 (w :: vs) := by
  simp [setAt]

/-! Rows. -/
@[go_sem] theorem newRow_eq (cs : List V) : newRowV cs H = if cs.all V.isCell = true then some (.ptr H.length 0 0, H ++ [.row 0 cs true]) else none := rfl
theorem getRow_last (g : Nat) (cs : List V) (o : Bool) : getRow (H ++ [.row g cs o]) H.length g = some (cs, o) := by simp [getRow]
theorem getRow_lt {id g : Nat} {r : List V × Bool} (h : getRow H id g = some r) : id < H.length := by
  unfold getRow at h
  cases hb : H[id]? with
  | none => rw [hb] at h; cases h
  | some b => exact (List.getElem?_eq_some_iff.1 hb).1
theorem getRow_app {L : Hp} {id g : Nat} (h : id < H.length) : getRow (H ++ L) id g = getRow H id g := by
  unfold getRow
  rw [List.getElem?_append_left h]
theorem loadV_ptr (t : TypeId) (id g off : Nat) : loadV P t H (.ptr id g off) = (getRow H id g).bind fun r => partV P t r.1 off := rfl
def partK (b : Option Bool) (z : Option Nat) (cs : List V) (off : Nat) : Option V := b.bind fun b => if b then z.bind fun n => if off + n ≤ cs.length then some (.agg ((cs.drop off).take n)) else none else cs[off]?
@[go_sem] theorem partV_cons (t : TypeId) (c : V) (cs : List V) (off : Nat) : partV P t (c :: cs) off = partK (aggT P t) (szOf P t) (c :: cs) off := rfl
@[go_sem] theorem partK_f (z : Option Nat) (cs : List V) (off : Nat) : partK (some false) z cs off = cs[off]? := rfl
@[go_sem] theorem partK_t (n : Nat) (cs : List V) (off : Nat) : partK (some true) (some n) cs off = if off + n ≤ cs.length then some (.agg ((cs.drop off).take n)) else none := rfl
@[go_sem] theorem drop_0 (l : List V) : l.drop 0 = l := rfl
@[go_sem] theorem drop_S (a : V) (l : List V) (i : Nat) : (a :: l).drop (i + 1) = l.drop i := rfl
@[go_sem] theorem take_0 (l : List V) : l.take 0 = [] := rfl
@[go_sem] theorem take_S (a : V) (l : List V) (i : Nat) : (a :: l).take (i + 1) = a :: l.take i := rfl
theorem storeV_ptr (t : TypeId) (id g off : Nat) (v : V) : storeV P t H (.ptr id g off) v = (getRow H id g).bind fun r => if r.2 = true ∧ szOf P t = some v.cells.length ∧ off + v.cells.length ≤ r.1.length ∧ v.cells.all V.isCell = true then some (H.set id (.row g (setAt r.1 off v.cells) true)) else none := rfl
theorem set_last (b b' : AB) : (H ++ [b]).set H.length b' = H ++ [b'] := by simp
@[go_sem] theorem load_last (t : TypeId) (g off : Nat) (cs : List V) (o : Bool) : loadV P t (H ++ [.row g cs o]) (.ptr H.length g off) = partV P t cs off := by
  rw [loadV_ptr, getRow_last]; rfl
@[go_sem] theorem load_app {L : Hp} (t : TypeId) {id g off : Nat} (h : id < H.length) : loadV P t (H ++ L) (.ptr id g off) = loadV P t H (.ptr id g off) := by
  rw [loadV_ptr, getRow_app h]; rfl
@[go_sem] theorem store_last (t : TypeId) (g off : Nat) (cs : List V) (v : V) : storeV P t (H ++ [.row g cs true]) (.ptr H.length g off) v = if szOf P t = some v.cells.length ∧ off + v.cells.length ≤ cs.length ∧ v.cells.all V.isCell = true then some (H ++ [.row g (setAt cs off v.cells) true]) else none := by
  rw [storeV_ptr, getRow_last]
  simp only [Option.bind_some, true_and, set_last]
@[go_sem] theorem store_app {L : Hp} (t : TypeId) {id g off : Nat} {v : V} (h : id < H.length) : storeV P t (H ++ L) (.ptr id g off) v = (storeV P t H (.ptr id g off) v).map (· ++ L) := by
  rw [storeV_ptr, storeV_ptr, getRow_app h]
  cases getRow H id g with
  | none => rfl
  | some r =>
    simp only [Option.bind_some]
    split
    · simp [List.set_append_left, h]
    · rfl
theorem lt_app {L : Hp} {id : Nat} (h : id < H.length) : id < (H ++ L).length := by rw [List.length_append]; omega
theorem lt_new (b : AB) : H.length < (H ++ [b]).length := by simp

/-! A list of elements of one size, as cells. -/
theorem flat_len {xs : List (List V)} {sz : Nat} (h : ∀ x ∈ xs, x.length = sz) : xs.flatten.length = xs.length * sz := by
  induction xs with
  | nil => simp
  | cons x xs ih =>
    rw [List.flatten_cons, List.length_append, ih fun y hy => h y (by simp [hy]), h x (by simp), List.length_cons, Nat.succ_mul, Nat.add_comm]
theorem flat_at {xs : List (List V)} {sz : Nat} (h : ∀ x ∈ xs, x.length = sz) : ∀ {i : Nat} {x : List V}, xs[i]? = some x → (xs.flatten.drop (i * sz)).take sz = x ∧ i * sz + sz ≤ xs.flatten.length ∧ ∀ j, j < sz → xs.flatten[i * sz + j]? = x[j]? := by
  induction xs with
  | nil => intro i x hx; simp at hx
  | cons y xs ih =>
    intro i x hx
    have hy := h y (by simp)
    cases i with
    | zero =>
      simp only [List.getElem?_cons_zero, Option.some.injEq] at hx
      subst hx
      refine ⟨?_, ?_, fun j hj => ?_⟩
      · rw [Nat.zero_mul, List.drop_zero, List.flatten_cons, ← hy, List.take_left]
      · rw [List.flatten_cons, List.length_append, hy]; omega
      · rw [Nat.zero_mul, Nat.zero_add, List.flatten_cons, List.getElem?_append_left (by omega)]
    | succ i =>
      simp only [List.getElem?_cons_succ] at hx
      obtain ⟨h1, h2, h3⟩ := ih (fun z hz => h z (by simp [hz])) hx
      refine ⟨?_, ?_, fun j hj => ?_⟩
      · rw [List.flatten_cons, List.drop_append, List.drop_eq_nil_of_le (by rw [hy, Nat.succ_mul]; omega), List.nil_append, hy, show (i + 1) * sz - sz = i * sz by rw [Nat.succ_mul]; omega]
        exact h1
      · rw [List.flatten_cons, List.length_append, hy, Nat.succ_mul]; omega
      · rw [List.flatten_cons, List.getElem?_append_right (by rw [hy, Nat.succ_mul]; omega), hy, show (i + 1) * sz + j - sz = i * sz + j by rw [Nat.succ_mul]; omega]
        exact h3 j hj
/-- An element of an array is read: as a whole, or a part of one cell. -/
theorem part_agg {xs : List (List V)} {sz i : Nat} {t : TypeId} {x : List V} (h : ∀ x ∈ xs, x.length = sz) (hg : aggT P t = some true) (hz : szOf P t = some sz) (hx : xs[i]? = some x) : partV P t xs.flatten (i * sz) = some (.agg x) := by
  obtain ⟨h1, h2, _⟩ := flat_at h hx
  unfold partV
  simp only [hg, Option.bind_some, if_true, hz]
  rw [if_pos h2, h1]
theorem part_cell {xs : List (List V)} {sz i j : Nat} {t : TypeId} {x : List V} (h : ∀ x ∈ xs, x.length = sz) (hg : aggT P t = some false) (hx : xs[i]? = some x) (hj : j < sz) : partV P t xs.flatten (i * sz + j) = x[j]? := by
  obtain ⟨_, _, h3⟩ := flat_at h hx
  unfold partV
  simp only [hg, Option.bind_some, Bool.false_eq_true, if_false]
  exact h3 j hj
theorem part_whole {x : List V} {t : TypeId} (hg : aggT P t = some true) (hz : szOf P t = some x.length) : partV P t x 0 = some (.agg x) := by
  unfold partV
  simp only [hg, Option.bind_some, if_true, hz]
  rw [if_pos (by omega), List.drop_zero, List.take_length]
/-- Elements of one cell. -/
theorem part_one {cs : List V} {i : Nat} {t : TypeId} (hg : aggT P t = some false) : partV P t cs i = cs[i]? := by
  unfold partV
  simp only [hg, Option.bind_some, Bool.false_eq_true, if_false]

/-! Slices. -/
def sliceT (P : Program) (t : TypeId) (sz : Nat) : Bool := match P.underlying t with
  | some (.slice e) => szOf P e == some sz
  | _ => false
theorem ia_slice {t : TypeId} {sz : Nat} (h : sliceT P t sz = true) {id g off n : Nat} {cp : Cap} {k : IntKind} {j : Int} (hj : 0 ≤ j ∧ j < n) : indexAddrV P t (.slice id g off n sz cp) (.int k j) = some (.ptr id g (off + j.toNat * sz)) := by
  unfold sliceT at h
  unfold indexAddrV
  split at h
  · rename_i e hu
    simp only [beq_iff_eq] at h
    simp only [hu]
    rw [if_pos ⟨h, hj.1, hj.2⟩]
  · cases h
def arrT (P : Program) (t : TypeId) (len sz : Nat) : Bool := match P.underlying t with
  | some (.array n e) => n == len && szOf P e == some sz
  | _ => false
theorem ia_arr {t : TypeId} {len sz : Nat} (h : arrT P t len sz = true) {id g off : Nat} {k : IntKind} {j : Int} (hj : 0 ≤ j ∧ j < len) : indexAddrV P t (.ptr id g off) (.int k j) = some (.ptr id g (off + j.toNat * sz)) := by
  unfold arrT at h
  unfold indexAddrV
  split at h
  · rename_i n e hu
    simp only [Bool.and_eq_true, beq_iff_eq] at h
    obtain ⟨rfl, h⟩ := h
    simp only [hu, h, Option.bind_some]
    rw [if_pos hj]
  · cases h
theorem len_slice {t : TypeId} {sz : Nat} (h : sliceT P t sz = true) (id g off n z : Nat) (cp : Cap) : lenV P t H (.slice id g off n z cp) = some (.int .i64 n) := by
  unfold sliceT at h
  unfold lenV
  split at h
  · rename_i e hu; simp only [hu]
  · cases h
theorem len_nilslice {t : TypeId} {sz : Nat} (h : sliceT P t sz = true) : lenV P t H .nilslice = some (.int .i64 0) := by
  unfold sliceT at h
  unfold lenV
  split at h
  · rename_i e hu; simp only [hu]
  · cases h
@[go_sem] theorem bu_len (t : TypeId) (ts : List TypeId) (x : V) : builtinV P .len (List.toArray (t :: ts)) [x] H = (lenV P t H x).map fun v => (v, H) := by
  unfold builtinV
  rfl
@[go_sem] theorem bu_min (ts : Array TypeId) (k k' : IntKind) (x y : Int) : builtinV P .min ts [.int k x, .int k' y] H = some (.int k (if y < x then y else x), H) := by
  unfold builtinV; rfl
@[go_sem] theorem bu_max (ts : Array TypeId) (k k' : IntKind) (x y : Int) : builtinV P .max ts [.int k x, .int k' y] H = some (.int k (if y > x then y else x), H) := by
  unfold builtinV; rfl
def appT (P : Program) (t t1 : TypeId) (sz by_ : Nat) : Bool := match P.underlying t, P.underlying t1 with
  | some (.slice e), some d => (match d with | .int _ => false | _ => true) && szOf P e == some sz && bytesOf' P e == some by_ && (match zeroV P e with | some z => z.cells.length == sz | none => false) && decide (0 < sz)
  | _, _ => false
/-- append, its types settled. -/
def appOf (sz by_ : Nat) (H : Hp) (s x : V) : Option (V × Hp) :=
  (srcCells H x).bind fun (ys, m) =>
    if ys.length = m * sz ∧ ys.all V.isCell = true then
      match s with
      | .nilslice => if m = 0 then some (.nilslice, H) else if m * by_ ≤ 2 ^ 40 ∧ m ≤ 2 ^ 40 then some (.slice H.length 0 0 m sz .full, H ++ [.row 0 ys true]) else none
      | .slice id g off n sz' cp => (getRow H id g).bind fun r =>
        if sz' = sz ∧ (n + m) * by_ ≤ 2 ^ 40 ∧ n + m ≤ 2 ^ 40 ∧ off + n * sz ≤ r.1.length then
          if m = 0 then some (s, H) else
          match cp with
          | .ex c => if c = n then some (.slice H.length 0 0 (n + m) sz .full, H ++ [.row 0 ((r.1.drop off).take (n * sz) ++ ys) true]) else none
          | .full =>
            if r.2 = true then
              if off + (n + m) * sz ≤ r.1.length then some (.slice id g off (n + m) sz .full, H.set id (.row g (setAt r.1 (off + n * sz) ys) true))
              else if off + n * sz = r.1.length then some (.slice id (g + 1) 0 (n + m) sz .full, H.set id (.row (g + 1) (r.1.drop off ++ ys) true))
              else none
            else none
          | .unk => none
        else none
      | _ => none
    else none
theorem app_eq {t t1 : TypeId} {sz by_ : Nat} (h : appT P t t1 sz by_ = true) (s x : V) : builtinV P .append #[t, t1] [s, x] H = appOf sz by_ H s x := by
  unfold appT at h
  split at h
  · rename_i e d hu hd
    simp only [Bool.and_eq_true, beq_iff_eq, decide_eq_true_eq] at h
    obtain ⟨⟨⟨⟨h1, h2⟩, h3⟩, h4⟩, h5⟩ := h
    have e1 : builtinV P .append #[t, t1] [s, x] H = appendV P t H s x := by
      unfold builtinV
      simp only [hd]
      cases d <;> first | rfl | simp at h1
    rw [e1]
    unfold appendV appOf
    simp only [hu, h2, h3, Option.bind_some]
    split at h4
    · rename_i z hz
      simp only [beq_iff_eq] at h4
      simp only [hz, Option.bind_some, h4, h5, true_and]
      rfl
    · cases h4
  · cases h

/-- A slice that is read: of so many elements, each of so many cells. -/
def Sl (H : Hp) (v : V) (sz : Nat) (xs : List (List V)) : Prop :=
  (∀ x ∈ xs, x.length = sz) ∧ ((v = .nilslice ∧ xs = []) ∨ ∃ id g off cp cs own, v = .slice id g off xs.length sz cp ∧ getRow H id g = some (cs, own) ∧ off + xs.length * sz ≤ cs.length ∧ (cs.drop off).take (xs.length * sz) = xs.flatten)
def vid : V → Nat
  | .slice id _ _ _ _ _ => id
  | _ => 0
def vgen : V → Nat
  | .slice _ g _ _ _ _ => g
  | _ => 0
def voff : V → Nat
  | .slice _ _ o _ _ _ => o
  | _ => 0
theorem Sl.len {v : V} {sz : Nat} {xs : List (List V)} (h : Sl H v sz xs) {t : TypeId} {z : Nat} (ht : sliceT P t z = true) {H' : Hp} : lenV P t H' v = some (.int .i64 xs.length) := by
  obtain ⟨_, ⟨rfl, rfl⟩ | ⟨id, g, off, cp, cs, own, rfl, _⟩⟩ := h
  · exact len_nilslice ht
  · exact len_slice ht ..
theorem Sl.idx {v : V} {sz : Nat} {xs : List (List V)} (h : Sl H v sz xs) {t : TypeId} (ht : sliceT P t sz = true) {k : IntKind} {i : Nat} (hi : i < xs.length) : indexAddrV P t v (.int k i) = some (.ptr (vid v) (vgen v) (voff v + i * sz)) := by
  obtain ⟨_, ⟨rfl, rfl⟩ | ⟨id, g, off, cp, cs, own, rfl, _⟩⟩ := h
  · simp at hi
  · exact ia_slice ht ⟨by omega, by omega⟩
theorem Sl.lt {v : V} {sz : Nat} {xs : List (List V)} (h : Sl H v sz xs) {i : Nat} (hi : i < xs.length) : vid v < H.length := by
  obtain ⟨_, ⟨rfl, rfl⟩ | ⟨id, g, off, cp, cs, own, rfl, hr, _⟩⟩ := h
  · simp at hi
  · exact getRow_lt hr
theorem Sl.at_ {v : V} {sz : Nat} {xs : List (List V)} (h : Sl H v sz xs) {i : Nat} {x : List V} (hx : xs[i]? = some x) : ∃ cs own, getRow H (vid v) (vgen v) = some (cs, own) ∧ voff v + i * sz + sz ≤ cs.length ∧ (cs.drop (voff v + i * sz)).take sz = x ∧ ∀ j, j < sz → cs[voff v + i * sz + j]? = x[j]? := by
  obtain ⟨hs, ⟨rfl, rfl⟩ | ⟨id, g, off, cp, cs, own, rfl, hr, hl, hf⟩⟩ := h
  · simp at hx
  · obtain ⟨h1, h2, h3⟩ := flat_at hs hx
    have hi : i < xs.length := (List.getElem?_eq_some_iff.1 hx).1
    have hle : (i + 1) * sz ≤ xs.length * sz := Nat.mul_le_mul_right sz hi
    rw [Nat.succ_mul] at hle
    refine ⟨cs, own, hr, by simp only [voff]; omega, ?_, fun j hj => ?_⟩
    · rw [← h1, ← hf, List.drop_take, List.take_take, List.drop_drop, Nat.min_eq_left (by omega)]
      rfl
    · rw [← h3 j hj, ← hf, List.getElem?_take_of_lt (by omega), List.getElem?_drop]
      congr 1
      simp only [voff]; omega
theorem Sl.agg {v : V} {sz : Nat} {xs : List (List V)} (h : Sl H v sz xs) {t : TypeId} (hg : aggT P t = some true) (hz : szOf P t = some sz) {i : Nat} {x : List V} (hx : xs[i]? = some x) : loadV P t H (.ptr (vid v) (vgen v) (voff v + i * sz)) = some (.agg x) := by
  obtain ⟨cs, own, h1, h2, h3, _⟩ := h.at_ hx
  rw [loadV_ptr, h1]
  simp only [Option.bind_some, partV, hg, hz, if_true]
  rw [if_pos h2, h3]
theorem Sl.cell {v : V} {sz : Nat} {xs : List (List V)} (h : Sl H v sz xs) {t : TypeId} (hg : aggT P t = some false) {i j : Nat} {x : List V} (hx : xs[i]? = some x) (hj : j < sz) : loadV P t H (.ptr (vid v) (vgen v) (voff v + i * sz + j)) = x[j]? := by
  obtain ⟨cs, own, h1, _, _, h4⟩ := h.at_ hx
  rw [loadV_ptr, h1]
  simp only [Option.bind_some, partV, hg, Bool.false_eq_true, if_false]
  exact h4 j hj
theorem Sl.cell0 {v : V} {sz : Nat} {xs : List (List V)} (h : Sl H v sz xs) {t : TypeId} (hg : aggT P t = some false) {i : Nat} {x : List V} (hx : xs[i]? = some x) (hj : 0 < sz) : loadV P t H (.ptr (vid v) (vgen v) (voff v + i * sz)) = x[0]? := h.cell (j := 0) hg hx hj
theorem Sl.frame {H' : Hp} {v : V} {sz : Nat} {xs : List (List V)} (h : Sl H v sz xs) (hf : vid v < H.length → H'[vid v]? = H[vid v]?) : Sl H' v sz xs := by
  obtain ⟨hs, h⟩ := h
  refine ⟨hs, h.imp id ?_⟩
  rintro ⟨id, g, off, cp, cs, own, rfl, hr, r⟩
  refine ⟨id, g, off, cp, cs, own, rfl, ?_, r⟩
  have := hf (getRow_lt hr)
  unfold getRow at hr ⊢
  simp only [vid] at this
  rw [this]
  exact hr
theorem Sl.app {L : Hp} {v : V} {sz : Nat} {xs : List (List V)} (h : Sl H v sz xs) : Sl (H ++ L) v sz xs := h.frame fun hl => List.getElem?_append_left hl

/-- A slice that grows: nothing yet, or the whole of a row. -/
def Own (H : Hp) (v : V) (sz : Nat) (cs : List V) : Prop :=
  (v = .nilslice ∧ cs = []) ∨ ∃ id g n, v = .slice id g 0 n sz .full ∧ n * sz = cs.length ∧ 0 < n ∧ H[id]? = some (.row g cs true)
/-- Whose row it is. -/
def At (v : V) (id : Nat) : Prop := ∃ g o n sz cp, v = .slice id g o n sz cp
theorem own_nil (H : Hp) (sz : Nat) : Own H .nilslice sz [] := .inl ⟨rfl, rfl⟩
theorem Own.frame {H' : Hp} {v : V} {sz : Nat} {cs : List V} (h : Own H v sz cs) (hf : ∀ id, At v id → H'[id]? = H[id]?) : Own H' v sz cs := by
  rcases h with h | ⟨id, g, n, rfl, h1, h2, h3⟩
  · exact .inl h
  · exact .inr ⟨id, g, n, rfl, h1, h2, (hf id ⟨g, 0, n, sz, .full, rfl⟩).trans h3⟩
theorem Own.lt {v : V} {sz : Nat} {cs : List V} (h : Own H v sz cs) {id : Nat} (ha : At v id) : id < H.length := by
  obtain ⟨g, o, n, z, cp, rfl⟩ := ha
  rcases h with ⟨h, _⟩ | ⟨id', g', n', e, _, _, h3⟩
  · cases h
  · injection e with e1; subst e1
    exact (List.getElem?_eq_some_iff.1 h3).1
/-- One element more. -/
theorem Own.push {v : V} {sz by_ : Nat} {cs ys : List V} (h : Own H v sz cs) (hy : ys.length = sz) (hc : ys.all V.isCell = true) (hsz : 0 < sz) (hb : (cs.length + 1) * by_ ≤ 2 ^ 40) (hb2 : cs.length + 1 ≤ 2 ^ 40) :
    ∃ v' H', appOf sz by_ (H ++ [.row 0 ys true]) v (.slice H.length 0 0 1 sz .full) = some (v', H') ∧ Own H' v' sz (cs ++ ys) ∧ (∀ id, id < H.length → ¬ At v id → H'[id]? = H[id]?) ∧ H.length ≤ H'.length ∧ (∀ id, At v' id → At v id ∨ H.length ≤ id) := by
  have hs : srcCells (H ++ [.row 0 ys true]) (.slice H.length 0 0 1 sz .full) = some (ys, 1) := by
    simp [srcCells, getRow, hy]
    exact List.take_of_length_le (by omega)
  unfold appOf
  rw [hs]
  simp only [Option.bind_some]
  rw [if_pos ⟨by omega, hc⟩]
  rcases h with ⟨rfl, rfl⟩ | ⟨id, g, n, rfl, h1, h2, h3⟩
  · simp only [List.length_nil, Nat.zero_add] at hb hb2
    refine ⟨_, (H ++ [AB.row 0 ys true]) ++ [.row 0 ys true], ?_, .inr ⟨(H ++ [AB.row 0 ys true]).length, 0, 1, rfl, by simp [hy], by omega, ?_⟩, ?_, ?_, ?_⟩
    · simp only
      rw [if_neg (by omega), if_pos ⟨by omega, by omega⟩]
    · simp
    · intro id hid _
      rw [List.append_assoc, List.getElem?_append_left hid]
    · simp
    · rintro id ⟨g, o, n, z, cp, e⟩
      injection e with e1
      right; subst e1; simp
  · have hid : id < H.length := (List.getElem?_eq_some_iff.1 h3).1
    have hle : n * 1 ≤ n * sz := Nat.mul_le_mul_left n hsz
    have hnb : (n + 1) * by_ ≤ (cs.length + 1) * by_ := Nat.mul_le_mul_right _ (by omega)
    have hr : getRow (H ++ [.row 0 ys true]) id g = some (cs, true) := by
      rw [getRow_app hid]
      simp [getRow, h3]
    refine ⟨_, (H ++ [AB.row 0 ys true]).set id (.row (g + 1) (cs ++ ys) true), ?_, .inr ⟨id, g + 1, n + 1, rfl, by rw [List.length_append, hy, Nat.succ_mul, h1], by omega, ?_⟩, ?_, ?_, ?_⟩
    · simp only
      rw [hr]
      simp only [Option.bind_some]
      rw [if_pos ⟨trivial, by omega, by omega, by omega⟩, if_neg (by omega), if_pos trivial, if_neg (by rw [Nat.succ_mul]; omega), if_pos (by omega)]
      simp
    · rw [List.getElem?_set_self (by simp; omega)]
    · intro id' hid' hn
      have hne : id ≠ id' := fun e => hn ⟨g, 0, n, sz, .full, by rw [e]⟩
      rw [List.getElem?_set_ne hne, List.getElem?_append_left hid']
    · simp
    · rintro id' ⟨g', o, n', z, cp, e⟩
      injection e with e1
      subst e1
      exact .inl ⟨g, 0, n, sz, .full, rfl⟩
theorem Own.sl {v : V} {sz : Nat} {xs : List (List V)} (h : Own H v sz xs.flatten) (hs : ∀ x ∈ xs, x.length = sz) (h0 : 0 < sz) : Sl H v sz xs := by
  refine ⟨hs, ?_⟩
  have hl := flat_len hs
  rcases h with ⟨rfl, h2⟩ | ⟨id, g, n, rfl, h1, h2, h3⟩
  · rw [h2] at hl
    simp only [List.length_nil] at hl
    refine .inl ⟨rfl, List.length_eq_zero_iff.1 ?_⟩
    rcases Nat.mul_eq_zero.1 hl.symm with h | h
    · exact h
    · omega
  · have hn : n = xs.length := Nat.eq_of_mul_eq_mul_right h0 (h1.trans hl)
    subst hn
    exact .inr ⟨id, g, 0, .full, xs.flatten, true, rfl, by simp [getRow, h3], by omega, by rw [List.drop_zero, List.take_of_length_le (by omega)]⟩
def bsT (P : Program) (t : TypeId) (z : List V) : Prop := ∃ e, P.underlying t = some (.slice e) ∧ szOf P e = some z.length ∧ ∃ zv, zeroV P e = some zv ∧ zv.cells = z
/-- A slice of one element, written out. -/
theorem bs_one {t e : TypeId} {sz : Nat} {zv : V} (hu : P.underlying t = some (.slice e)) (hz : szOf P e = some sz) (hv : zeroV P e = some zv) (hl : zv.cells.length = sz) (hs : 0 < sz) (hs2 : sz ≤ 2 ^ 24) (v : V) (hc : v.cells.all V.isCell = true) (hn : v.cells.length = sz) : buildSliceV P t 1 [(0, v)] H = some (.slice H.length 0 0 1 sz .full, H ++ [.row 0 v.cells true]) := by
  unfold buildSliceV
  simp only [hu, hz, hv, Option.bind_some]
  rw [if_pos ⟨hl, hs, by omega⟩]
  simp only [fillV, Option.bind_some, Nat.zero_mul, Nat.zero_add]
  rw [if_pos ⟨hc, hn, by simp [repeatV, hl, hn]⟩]
  simp only [Option.bind_some]
  have e1 : setAt (repeatV zv.cells 1) 0 v.cells = v.cells := by
    simp [setAt, repeatV, hn, hl]
  rw [e1, if_pos hc]
theorem bs_if {t e : TypeId} {sz : Nat} {zv : V} (hu : P.underlying t = some (.slice e)) (hz : szOf P e = some sz) (hv : zeroV P e = some zv) (hl : zv.cells.length = sz) (hs : 0 < sz) (hs2 : sz ≤ 2 ^ 24) (v : V) : buildSliceV P t 1 [(0, v)] H = if v.cells.all V.isCell = true ∧ v.cells.length = sz then some (.slice H.length 0 0 1 sz .full, H ++ [.row 0 v.cells true]) else none := by
  split
  · rename_i h; exact bs_one hu hz hv hl hs hs2 v h.1 h.2
  · rename_i h
    unfold buildSliceV
    simp only [hu, hz, hv, Option.bind_some]
    rw [if_pos ⟨hl, hs, by omega⟩]
    simp only [fillV, Option.bind_some, Nat.zero_mul, Nat.zero_add]
    rw [if_neg fun h2 => h ⟨h2.1, h2.2.1⟩]
    rfl
theorem pre_of {H' : Hp} (h : ∀ id, id < H.length → H'[id]? = H[id]?) : ∃ G, H' = H ++ G := by
  refine ⟨H'.drop H.length, ?_⟩
  apply List.ext_getElem?
  intro i
  rw [List.getElem?_append]
  split
  · exact h i (by assumption)
  · rw [List.getElem?_drop]; congr 1; omega
theorem callL_some {Pr : Prims} {k : Nat} {a : List V} {H' : Hp} {v : V} (h : callL P Pr k a H = some (v, H')) : ∃ n H', callN P Pr n k a H = some (v, H') := by
  obtain ⟨n, hn⟩ := callL_iff.1 h
  exact ⟨n, H', hn⟩
/-- A list of numbers as an argument. -/
def intC (n : Int) : List V := [.int .i64 n]
theorem arg_ints {m : Nat} {t e : TypeId} {x : V} (hu : P.underlying t = some (.slice e)) (he : P.underlying e = some (.int .i64)) (hc : P.cellsOf e = 1) (h : ArgT P H (m + 2) t x) : ∃ l : List Int, Sl H x 1 (l.map intC) ∧ l.length ≤ maxLen ∧ ∀ n ∈ l, -9223372036854775808 ≤ n ∧ n ≤ 9223372036854775807 := by
  rcases arg_slice (m := m + 1) hu h with rfl | ⟨id, xss, rfl, h1, hbytes, h2, h3⟩
  · exact ⟨[], ⟨by simp, .inl ⟨rfl, rfl⟩⟩, by simp, by simp⟩
  · clear h hbytes
    have : ∃ l : List Int, xss = l.map intC ∧ ∀ n ∈ l, -9223372036854775808 ≤ n ∧ n ≤ 9223372036854775807 := by
      clear h1 h2
      induction xss with
      | nil => exact ⟨[], rfl, by simp⟩
      | cons x xss ih =>
        obtain ⟨l, rfl, hl⟩ := ih fun y hy => h3 y (by simp [hy])
        obtain ⟨n, e, hw⟩ := rd_int (m := m) he (h3 x (by simp)).2
        refine ⟨n :: l, by rw [e]; rfl, fun k hk => ?_⟩
        rcases List.mem_cons.1 hk with rfl | hk
        · simpa [Lit.wf, IntKind.min, IntKind.max, IntKind.signed, IntKind.bits] using hw
        · exact hl k hk
    obtain ⟨l, rfl, hl⟩ := this
    rw [List.length_map] at h2
    refine ⟨l, ⟨by simp [intC], .inr ⟨id, 0, 0, .unk, _, false, by rw [hc], h1, ?_, ?_⟩⟩, h2, hl⟩
    · rw [flat_len (sz := 1) (by simp [intC])]; omega
    · rw [List.drop_zero, List.take_of_length_le]
      rw [flat_len (sz := 1) (by simp [intC])]; omega
/-- A function that tells something plain: what it has made is gone. -/
theorem flat_of {k : Nat} {cl : CallT} {args : List V} {v : V} (h : ∃ v' H', (v' = v ∧ ∃ G, H' = H ++ G) ∧ cl k args H = some (gcC H (v', H'))) (hf : fineR v = true) (hr : refR v = []) : cl k args H = some (v, H) := by
  obtain ⟨v', H', ⟨rfl, G, rfl⟩, h2⟩ := h
  rw [h2, gc_old (by simp) hf (by simp [hr])]
end
end Go.Am
