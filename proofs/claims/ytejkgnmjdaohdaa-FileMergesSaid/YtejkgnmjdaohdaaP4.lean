/-
  Texts of this seat, laid together. No statement of the seat stands here.
-/
import Derived.KernelRfl
import Derived.Test.YtejkgnmjdaohdaaP3
set_option linter.unusedSectionVars false
namespace Go.An
open Go
section
variable [Orc]
variable {P : Program} {H : Hp}
def offsOk (P : Program) (s : TypeId) (offs : List Nat) : Bool :=
 match P.underlying s with
 | some (.struct fs) => fs.toList.map (·.offset) == offs && fs.toList.all (fun f => match szOf P f.type with | some n => n != 0 | none => false)
 | _ => false
def fieldAt (offs : List Nat) (id g off i : Nat) : Option V := (offs[i]?).map fun o => .ptr id g (off + o)
theorem fieldAt_eq {s : TypeId} {offs : List Nat} (h : offsOk P s offs = true) (id g off i : Nat) : fieldAddrV P s (.ptr id g off) i = fieldAt offs id g off i := by
 unfold offsOk at h
 unfold fieldAddrV fieldAt
 split at h
 ·rename_i fs hu
  simp only [Bool.and_eq_true, beq_iff_eq, List.all_eq_true] at h
  obtain ⟨rfl, h⟩ := h
  simp only [hu, List.getElem?_map, Array.getElem?_toList]
  cases hf : fs[i]? with
  | none => rfl
  | some f =>
   simp only [Option.bind_some, Option.map_some]
   have := h f (Array.mem_toList_iff.2 (Array.mem_of_getElem? hf))
   split at this
   ·rename_i n hn
    rw [hn]
    simp only [Option.bind_some]
    rw [if_neg (by simpa using this)]
   ·cases this
 ·cases h
def fieldsOk (P : Program) (s : TypeId) (fl : List (Nat × Nat)) : Bool :=
 match P.underlying s with
 | some (.struct fs) => fs.toList.map (fun f => (f.type, f.offset)) == fl
 | _ => false
def fieldOf (P : Program) (fl : List (Nat × Nat)) (cs : List V) (i : Nat) : Option V := (fl[i]?).bind fun p => partV P p.1 cs p.2
theorem fieldOf_eq {s : TypeId} {fl : List (Nat × Nat)} (h : fieldsOk P s fl = true) (cs : List V) (i : Nat) : fieldV P s (.agg cs) i = fieldOf P fl cs i := by
 unfold fieldsOk at h
 unfold fieldV fieldOf
 split at h
 ·rename_i fs hu
  simp only [beq_iff_eq] at h
  subst h
  simp only [hu, List.getElem?_map, Array.getElem?_toList]
  cases fs[i]? <;> rfl
 ·cases h
def placesOf (P : Program) (t : TypeId) : Option (List (Nat × Nat)) :=
 match P.underlying t with
 | some (.struct fields) => fields.toList.mapM fun f => (P.info? f.type).map fun i => (f.offset, i.size)
 | _ => none
def buildOf (z : List V) (places : List (Nat × Nat)) (ps : List (Nat × V)) : Option V := (fillV (fun i => places[i]?) z ps).map V.agg
theorem buildOf_eq {t : TypeId} {z : List V} {places : List (Nat × Nat)} (hz : zeroV P t = some (.agg z)) (hp : placesOf P t = some places) (ps : List (Nat × V)) : buildV P t ps = buildOf z places ps := by
 unfold buildV buildOf
 unfold placesOf at hp
 rw [hz]
 split at hp
 ·rename_i fs hu
  simp only [hu, Option.bind_some]
  rw [hp]
  rfl
 ·cases hp
@[go_sem] theorem fieldAt_0 (o : Nat) (os : List Nat) (id g off : Nat) : fieldAt (o :: os) id g off 0 = some (.ptr id g (off + o)) := rfl
@[go_sem] theorem fieldAt_S (o : Nat) (os : List Nat) (id g off i : Nat) : fieldAt (o :: os) id g off (i + 1) = fieldAt os id g off i := by simp [fieldAt]
@[go_sem] theorem fieldOf_0 (p : Nat × Nat) (fl : List (Nat × Nat)) (cs : List V) : fieldOf P (p :: fl) cs 0 = partV P p.1 cs p.2 := rfl
@[go_sem] theorem fieldOf_S (p : Nat × Nat) (fl : List (Nat × Nat)) (cs : List V) (i : Nat) : fieldOf P (p :: fl) cs (i + 1) = fieldOf P fl cs i := by simp [fieldOf]
@[go_sem] theorem buildOf_def (z : List V) (places : List (Nat × Nat)) (ps : List (Nat × V)) : buildOf z places ps = (fillV (fun i => places[i]?) z ps).map V.agg := rfl
@[go_sem] theorem fillV_nil (f : Nat → Option (Nat × Nat)) (cs : List V) : fillV f cs [] = some cs := rfl
def fillK (p : Option (Nat × Nat)) (f : Nat → Option (Nat × Nat)) (cs : List V) (v : V) (rest : List (Nat × V)) : Option (List V) := p.bind fun p => if v.cells.all V.isCell = true ∧ v.cells.length = p.2 ∧ p.1 + v.cells.length ≤ cs.length then fillV f (setAt cs p.1 v.cells) rest else none
@[go_sem] theorem fillV_cons (f : Nat → Option (Nat × Nat)) (cs : List V) (i : Nat) (v : V) (rest : List (Nat × V)) : fillV f cs ((i, v) :: rest) = fillK (f i) f cs v rest := rfl
@[go_sem] theorem fillK_some (o n : Nat) (f : Nat → Option (Nat × Nat)) (cs : List V) (v : V) (rest : List (Nat × V)) : fillK (some (o, n)) f cs v rest = if v.cells.all V.isCell = true ∧ v.cells.length = n ∧ o + v.cells.length ≤ cs.length then fillV f (setAt cs o v.cells) rest else none := rfl
@[go_sem] theorem getE_0 {α : Type} (a : α) (l : List α) : (a :: l)[0]? = some a := rfl
@[go_sem] theorem getE_S {α : Type} (a : α) (l : List α) (i : Nat) : (a :: l)[i + 1]? = l[i]? := rfl
@[go_sem] theorem len_nil' {α : Type} : ([] : List α).length = 0 := rfl
@[go_sem] theorem len_cons' {α : Type} (a : α) (l : List α) : (a :: l).length = l.length + 1 := rfl
@[go_sem] theorem setAt_0 (c v : V) (cs : List V) : setAt (c :: cs) 0 [v] = v :: cs := rfl
@[go_sem] theorem setAt_S (c : V) (cs vs : List V) (i : Nat) : setAt (c :: cs) (i + 1) vs = c :: setAt cs i vs := by
 simp [setAt, Nat.add_right_comm]
@[go_sem] theorem setAt_0c (c v w : V) (cs vs : List V) : setAt (c :: cs) 0 (v :: w :: vs) = v :: setAt cs 0 (w :: vs) := by
 simp [setAt]
@[go_sem] theorem newRow_eq (cs : List V) : newRowV cs H = if cs.all V.isCell = true then some (.ptr H.length 0 0, H ++ [.row 0 cs true]) else none := rfl
theorem getRow_last (g : Nat) (cs : List V) (o : Bool) : getRow (H ++ [.row g cs o]) H.length g = some (cs, o) := by simp [getRow]
theorem getRow_lt {id g : Nat} {r : List V × Bool} (h : getRow H id g = some r) : id < H.length := by
 unfold getRow at h
 cases hb : H[id]? with
 | none => rw [hb] at h; cases h
 | some b => exact (List.getElem?_eq_some_iff.1 hb).1
theorem getRow_app {L : Hp} {id g : Nat} (h : id < H.length) : getRow (H ++ L) id g = getRow H id g := by
 unfold getRow
 rw [List.getElem?_append_left h]
theorem loadV_ptr (t : TypeId) (id g off : Nat) : loadV P t H (.ptr id g off) = (getRow H id g).bind fun r => partV P t r.1 off := rfl
def partK (b : Option Bool) (z : Option Nat) (cs : List V) (off : Nat) : Option V := b.bind fun b => if b then z.bind fun n => if off + n ≤ cs.length then some (.agg ((cs.drop off).take n)) else none else cs[off]?
@[go_sem] theorem partV_cons (t : TypeId) (c : V) (cs : List V) (off : Nat) : partV P t (c :: cs) off = partK (aggT P t) (szOf P t) (c :: cs) off := rfl
@[go_sem] theorem partK_f (z : Option Nat) (cs : List V) (off : Nat) : partK (some false) z cs off = cs[off]? := rfl
@[go_sem] theorem partK_t (n : Nat) (cs : List V) (off : Nat) : partK (some true) (some n) cs off = if off + n ≤ cs.length then some (.agg ((cs.drop off).take n)) else none := rfl
@[go_sem] theorem drop_0 (l : List V) : l.drop 0 = l := rfl
@[go_sem] theorem drop_S (a : V) (l : List V) (i : Nat) : (a :: l).drop (i + 1) = l.drop i := rfl
@[go_sem] theorem take_0 (l : List V) : l.take 0 = [] := rfl
@[go_sem] theorem take_S (a : V) (l : List V) (i : Nat) : (a :: l).take (i + 1) = a :: l.take i := rfl
theorem storeV_ptr (t : TypeId) (id g off : Nat) (v : V) : storeV P t H (.ptr id g off) v = (getRow H id g).bind fun r => if r.2 = true ∧ szOf P t = some v.cells.length ∧ off + v.cells.length ≤ r.1.length ∧ v.cells.all V.isCell = true then some (H.set id (.row g (setAt r.1 off v.cells) true)) else none := rfl
theorem set_last (b b' : AB) : (H ++ [b]).set H.length b' = H ++ [b'] := by simp
@[go_sem] theorem load_last (t : TypeId) (g off : Nat) (cs : List V) (o : Bool) : loadV P t (H ++ [.row g cs o]) (.ptr H.length g off) = partV P t cs off := by
 rw [loadV_ptr, getRow_last]; rfl
@[go_sem] theorem load_app {L : Hp} (t : TypeId) {id g off : Nat} (h : id < H.length) : loadV P t (H ++ L) (.ptr id g off) = loadV P t H (.ptr id g off) := by
 rw [loadV_ptr, getRow_app h]; rfl
@[go_sem] theorem store_last (t : TypeId) (g off : Nat) (cs : List V) (v : V) : storeV P t (H ++ [.row g cs true]) (.ptr H.length g off) v = if szOf P t = some v.cells.length ∧ off + v.cells.length ≤ cs.length ∧ v.cells.all V.isCell = true then some (H ++ [.row g (setAt cs off v.cells) true]) else none := by
 rw [storeV_ptr, getRow_last]
 simp only [Option.bind_some, true_and, set_last]
@[go_sem] theorem store_app {L : Hp} (t : TypeId) {id g off : Nat} {v : V} (h : id < H.length) : storeV P t (H ++ L) (.ptr id g off) v = (storeV P t H (.ptr id g off) v).map (· ++ L) := by
 rw [storeV_ptr, storeV_ptr, getRow_app h]
 cases getRow H id g with
 | none => rfl
 | some r =>
  simp only [Option.bind_some]
  split
  ·simp [List.set_append_left, h]
  ·rfl
theorem lt_app {L : Hp} {id : Nat} (h : id < H.length) : id < (H ++ L).length := by rw [List.length_append]; omega
theorem lt_new (b : AB) : H.length < (H ++ [b]).length := by simp
theorem flat_len {xs : List (List V)} {sz : Nat} (h : ∀ x ∈ xs, x.length = sz) : xs.flatten.length = xs.length * sz := by
 induction xs with
 | nil => simp
 | cons x xs ih =>
  rw [List.flatten_cons, List.length_append, ih fun y hy => h y (by simp [hy]), h x (by simp), List.length_cons, Nat.succ_mul, Nat.add_comm]
theorem flat_at {xs : List (List V)} {sz : Nat} (h : ∀ x ∈ xs, x.length = sz) : ∀ {i : Nat} {x : List V}, xs[i]? = some x → (xs.flatten.drop (i * sz)).take sz = x ∧ i * sz + sz ≤ xs.flatten.length ∧ ∀ j, j < sz → xs.flatten[i * sz + j]? = x[j]? := by
 induction xs with
 | nil => intro i x hx; simp at hx
 | cons y xs ih =>
  intro i x hx
  have hy := h y (by simp)
  cases i with
  | zero =>
   simp only [List.getElem?_cons_zero, Option.some.injEq] at hx
   subst hx
   refine ⟨?_, ?_, fun j hj => ?_⟩
   ·rw [Nat.zero_mul, List.drop_zero, List.flatten_cons, ← hy, List.take_left]
   ·rw [List.flatten_cons, List.length_append, hy]; omega
   ·rw [Nat.zero_mul, Nat.zero_add, List.flatten_cons, List.getElem?_append_left (by omega)]
  | succ i =>
   simp only [List.getElem?_cons_succ] at hx
   obtain ⟨h1, h2, h3⟩ := ih (fun z hz => h z (by simp [hz])) hx
   refine ⟨?_, ?_, fun j hj => ?_⟩
   ·rw [List.flatten_cons, List.drop_append, List.drop_eq_nil_of_le (by rw [hy, Nat.succ_mul]; omega), List.nil_append, hy, show (i + 1) * sz - sz = i * sz by rw [Nat.succ_mul]; omega]
    exact h1
   ·rw [List.flatten_cons, List.length_append, hy, Nat.succ_mul]; omega
   ·rw [List.flatten_cons, List.getElem?_append_right (by rw [hy, Nat.succ_mul]; omega), hy, show (i + 1) * sz + j - sz = i * sz + j by rw [Nat.succ_mul]; omega]
    exact h3 j hj
theorem part_agg {xs : List (List V)} {sz i : Nat} {t : TypeId} {x : List V} (h : ∀ x ∈ xs, x.length = sz) (hg : aggT P t = some true) (hz : szOf P t = some sz) (hx : xs[i]? = some x) : partV P t xs.flatten (i * sz) = some (.agg x) := by
 obtain ⟨h1, h2, _⟩ := flat_at h hx
 unfold partV
 simp only [hg, Option.bind_some, if_true, hz]
 rw [if_pos h2, h1]
theorem part_cell {xs : List (List V)} {sz i j : Nat} {t : TypeId} {x : List V} (h : ∀ x ∈ xs, x.length = sz) (hg : aggT P t = some false) (hx : xs[i]? = some x) (hj : j < sz) : partV P t xs.flatten (i * sz + j) = x[j]? := by
 obtain ⟨_, _, h3⟩ := flat_at h hx
 unfold partV
 simp only [hg, Option.bind_some, Bool.false_eq_true, if_false]
 exact h3 j hj
theorem part_whole {x : List V} {t : TypeId} (hg : aggT P t = some true) (hz : szOf P t = some x.length) : partV P t x 0 = some (.agg x) := by
 unfold partV
 simp only [hg, Option.bind_some, if_true, hz]
 rw [if_pos (by omega), List.drop_zero, List.take_length]
theorem part_one {cs : List V} {i : Nat} {t : TypeId} (hg : aggT P t = some false) : partV P t cs i = cs[i]? := by
 unfold partV
 simp only [hg, Option.bind_some, Bool.false_eq_true, if_false]
def sliceT (P : Program) (t : TypeId) (sz : Nat) : Bool := match P.underlying t with
 | some (.slice e) => szOf P e == some sz
 | _ => false
theorem ia_slice {t : TypeId} {sz : Nat} (h : sliceT P t sz = true) {id g off n : Nat} {cp : Cap} {k : IntKind} {j : Int} (hj : 0 ≤ j ∧ j < n) : indexAddrV P t (.slice id g off n sz cp) (.int k j) = some (.ptr id g (off + j.toNat * sz)) := by
 unfold sliceT at h
 unfold indexAddrV
 split at h
 ·rename_i e hu
  simp only [beq_iff_eq] at h
  simp only [hu]
  rw [if_pos ⟨h, hj.1, hj.2⟩]
 ·cases h
def arrT (P : Program) (t : TypeId) (len sz : Nat) : Bool := match P.underlying t with
 | some (.array n e) => n == len && szOf P e == some sz
 | _ => false
theorem ia_arr {t : TypeId} {len sz : Nat} (h : arrT P t len sz = true) {id g off : Nat} {k : IntKind} {j : Int} (hj : 0 ≤ j ∧ j < len) : indexAddrV P t (.ptr id g off) (.int k j) = some (.ptr id g (off + j.toNat * sz)) := by
 unfold arrT at h
 unfold indexAddrV
 split at h
 ·rename_i n e hu
  simp only [Bool.and_eq_true, beq_iff_eq] at h
  obtain ⟨rfl, h⟩ := h
  simp only [hu, h, Option.bind_some]
  rw [if_pos hj]
 ·cases h
theorem len_slice {t : TypeId} {sz : Nat} (h : sliceT P t sz = true) (id g off n z : Nat) (cp : Cap) : lenV P t H (.slice id g off n z cp) = some (.int .i64 n) := by
 unfold sliceT at h
 unfold lenV
 split at h
 ·rename_i e hu; simp only [hu]
 ·cases h
theorem len_nilslice {t : TypeId} {sz : Nat} (h : sliceT P t sz = true) : lenV P t H .nilslice = some (.int .i64 0) := by
 unfold sliceT at h
 unfold lenV
 split at h
 ·rename_i e hu; simp only [hu]
 ·cases h
@[go_sem] theorem bu_len (t : TypeId) (ts : List TypeId) (x : V) : builtinV P .len (List.toArray (t :: ts)) [x] H = (lenV P t H x.dem1).map fun v => (v, H) := by
 unfold builtinV
 rfl
@[go_sem] theorem bu_cap (t : TypeId) (ts : List TypeId) (x : V) : builtinV P .cap (List.toArray (t :: ts)) [x] H = (capV P t x.dem1).map fun v => (v, H) := by
 unfold builtinV
 rfl
@[go_sem] theorem bu_min (ts : Array TypeId) (k k' : IntKind) (x y : Int) : builtinV P .min ts [.int k x, .int k' y] H = some (.int k (if y < x then y else x), H) := by
 unfold builtinV; rfl
@[go_sem] theorem bu_max (ts : Array TypeId) (k k' : IntKind) (x y : Int) : builtinV P .max ts [.int k x, .int k' y] H = some (.int k (if y > x then y else x), H) := by
 unfold builtinV; rfl
def appT (P : Program) (t t1 : TypeId) (sz by_ : Nat) : Bool := match P.underlying t, P.underlying t1 with
 | some (.slice e), some d => (match d with | .int _ => false | _ => true) && szOf P e == some sz && bytesOf' P e == some by_ && (match zeroV P e with | some z => z.cells.length == sz | none => false) && decide (0 < sz)
 | _, _ => false
def appOf (sz by_ : Nat) (H : Hp) (s x : V) : Option (V × Hp) :=
 (srcCells H x).bind fun (ys, m) =>
  if ys.length = m * sz ∧ ys.all V.isCell = true then
   match s with
   | .isl cs n k => if m = 0 then some (.isl cs n k, H) else none
   | .osl id cs n k => if m = 0 then some (.osl id cs n k, H) else
    if (n = 0 ∨ k = sz) ∧ tokAt H id = some cs.length ∧ immL ys = true ∧ (n + m) * by_ ≤ 2 ^ 40 ∧ n + m ≤ 2 ^ 40 then some (.osl id (cs ++ ys) (n + m) sz, H.set id (.tok (cs.length + ys.length))) else none
   | .nilslice => if m = 0 then some (.nilslice, H) else if m * by_ ≤ 2 ^ 40 ∧ m ≤ 2 ^ 40 then some (.slice H.length 0 0 m sz .full, H ++ [.row 0 ys true]) else none
   | .slice id g off n sz' cp => (getRow H id g).bind fun r =>
    if sz' = sz ∧ (n + m) * by_ ≤ 2 ^ 40 ∧ n + m ≤ 2 ^ 40 ∧ off + n * sz ≤ r.1.length then
     if m = 0 then some (s, H) else
     match cp with
     | .ex c => if c = n then some (.slice H.length 0 0 (n + m) sz .full, H ++ [.row 0 ((r.1.drop off).take (n * sz) ++ ys) true]) else none
     | .full =>
      if r.2 = true then
       if off + (n + m) * sz ≤ r.1.length then some (.slice id g off (n + m) sz .full, H.set id (.row g (setAt r.1 (off + n * sz) ys) true))
       else if off + n * sz = r.1.length then some (.slice id (g + 1) 0 (n + m) sz .full, H.set id (.row (g + 1) (r.1.drop off ++ ys) true))
       else none
      else none
     | .unk => none
    else none
   | _ => none
  else none
theorem app_eq {t t1 : TypeId} {sz by_ : Nat} (h : appT P t t1 sz by_ = true) (s x : V) : builtinV P .append #[t, t1] [s, x] H = appOf sz by_ H s x.dem1 := by
 unfold appT at h
 split at h
 ·rename_i e d hu hd
  simp only [Bool.and_eq_true, beq_iff_eq, decide_eq_true_eq] at h
  obtain ⟨⟨⟨⟨h1, h2⟩, h3⟩, h4⟩, h5⟩ := h
  have e1 : builtinV P .append #[t, t1] [s, x] H = appendV P t H s x.dem1 := by
   unfold builtinV
   simp only [hd]
   cases d <;> first | rfl | simp at h1
  rw [e1]
  unfold appendV appOf
  simp only [hu, h2, h3, Option.bind_some]
  split at h4
  ·rename_i z hz
   simp only [beq_iff_eq] at h4
   simp only [hz, Option.bind_some, h4, h5, true_and]
   rfl
  ·cases h4
 ·cases h
def Sl (H : Hp) (v : V) (sz : Nat) (xs : List (List V)) : Prop :=
 (∀ x ∈ xs, x.length = sz) ∧ ((v = .nilslice ∧ xs = []) ∨ ∃ id g off cp cs own, v = .slice id g off xs.length sz cp ∧ getRow H id g = some (cs, own) ∧ off + xs.length * sz ≤ cs.length ∧ (cs.drop off).take (xs.length * sz) = xs.flatten)
def vid : V → Nat
 | .slice id _ _ _ _ _ => id
 | _ => 0
def vgen : V → Nat
 | .slice _ g _ _ _ _ => g
 | _ => 0
def voff : V → Nat
 | .slice _ _ o _ _ _ => o
 | _ => 0
theorem Sl.len {v : V} {sz : Nat} {xs : List (List V)} (h : Sl H v sz xs) {t : TypeId} {z : Nat} (ht : sliceT P t z = true) {H' : Hp} : lenV P t H' v = some (.int .i64 xs.length) := by
 obtain ⟨_, ⟨rfl, rfl⟩ | ⟨id, g, off, cp, cs, own, rfl, _⟩⟩ := h
 ·exact len_nilslice ht
 ·exact len_slice ht ..
theorem Sl.idx {v : V} {sz : Nat} {xs : List (List V)} (h : Sl H v sz xs) {t : TypeId} (ht : sliceT P t sz = true) {k : IntKind} {i : Nat} (hi : i < xs.length) : indexAddrV P t v (.int k i) = some (.ptr (vid v) (vgen v) (voff v + i * sz)) := by
 obtain ⟨_, ⟨rfl, rfl⟩ | ⟨id, g, off, cp, cs, own, rfl, _⟩⟩ := h
 ·simp at hi
 ·exact ia_slice ht ⟨by omega, by omega⟩
theorem Sl.lt {v : V} {sz : Nat} {xs : List (List V)} (h : Sl H v sz xs) {i : Nat} (hi : i < xs.length) : vid v < H.length := by
 obtain ⟨_, ⟨rfl, rfl⟩ | ⟨id, g, off, cp, cs, own, rfl, hr, _⟩⟩ := h
 ·simp at hi
 ·exact getRow_lt hr
theorem Sl.at_ {v : V} {sz : Nat} {xs : List (List V)} (h : Sl H v sz xs) {i : Nat} {x : List V} (hx : xs[i]? = some x) : ∃ cs own, getRow H (vid v) (vgen v) = some (cs, own) ∧ voff v + i * sz + sz ≤ cs.length ∧ (cs.drop (voff v + i * sz)).take sz = x ∧ ∀ j, j < sz → cs[voff v + i * sz + j]? = x[j]? := by
 obtain ⟨hs, ⟨rfl, rfl⟩ | ⟨id, g, off, cp, cs, own, rfl, hr, hl, hf⟩⟩ := h
 ·simp at hx
 ·obtain ⟨h1, h2, h3⟩ := flat_at hs hx
  have hi : i < xs.length := (List.getElem?_eq_some_iff.1 hx).1
  have hle : (i + 1) * sz ≤ xs.length * sz := Nat.mul_le_mul_right sz hi
  rw [Nat.succ_mul] at hle
  refine ⟨cs, own, hr, by simp only [voff]; omega, ?_, fun j hj => ?_⟩
  ·rw [← h1, ← hf, List.drop_take, List.take_take, List.drop_drop, Nat.min_eq_left (by omega)]
   rfl
  ·rw [← h3 j hj, ← hf, List.getElem?_take_of_lt (by omega), List.getElem?_drop]
   congr 1
   simp only [voff]; omega
theorem Sl.agg {v : V} {sz : Nat} {xs : List (List V)} (h : Sl H v sz xs) {t : TypeId} (hg : aggT P t = some true) (hz : szOf P t = some sz) {i : Nat} {x : List V} (hx : xs[i]? = some x) : loadV P t H (.ptr (vid v) (vgen v) (voff v + i * sz)) = some (.agg x) := by
 obtain ⟨cs, own, h1, h2, h3, _⟩ := h.at_ hx
 rw [loadV_ptr, h1]
 simp only [Option.bind_some, partV, hg, hz, if_true]
 rw [if_pos h2, h3]
theorem Sl.cell {v : V} {sz : Nat} {xs : List (List V)} (h : Sl H v sz xs) {t : TypeId} (hg : aggT P t = some false) {i j : Nat} {x : List V} (hx : xs[i]? = some x) (hj : j < sz) : loadV P t H (.ptr (vid v) (vgen v) (voff v + i * sz + j)) = x[j]? := by
 obtain ⟨cs, own, h1, _, _, h4⟩ := h.at_ hx
 rw [loadV_ptr, h1]
 simp only [Option.bind_some, partV, hg, Bool.false_eq_true, if_false]
 exact h4 j hj
theorem Sl.cell0 {v : V} {sz : Nat} {xs : List (List V)} (h : Sl H v sz xs) {t : TypeId} (hg : aggT P t = some false) {i : Nat} {x : List V} (hx : xs[i]? = some x) (hj : 0 < sz) : loadV P t H (.ptr (vid v) (vgen v) (voff v + i * sz)) = x[0]? := h.cell (j := 0) hg hx hj
theorem Sl.frame {H' : Hp} {v : V} {sz : Nat} {xs : List (List V)} (h : Sl H v sz xs) (hf : vid v < H.length → H'[vid v]? = H[vid v]?) : Sl H' v sz xs := by
 obtain ⟨hs, h⟩ := h
 refine ⟨hs, h.imp id ?_⟩
 rintro ⟨id, g, off, cp, cs, own, rfl, hr, r⟩
 refine ⟨id, g, off, cp, cs, own, rfl, ?_, r⟩
 have := hf (getRow_lt hr)
 unfold getRow at hr ⊢
 simp only [vid] at this
 rw [this]
 exact hr
theorem Sl.app {L : Hp} {v : V} {sz : Nat} {xs : List (List V)} (h : Sl H v sz xs) : Sl (H ++ L) v sz xs := h.frame fun hl => List.getElem?_append_left hl
def Own (H : Hp) (v : V) (sz : Nat) (cs : List V) : Prop :=
 (v = .nilslice ∧ cs = []) ∨ ∃ id g n, v = .slice id g 0 n sz .full ∧ n * sz = cs.length ∧ 0 < n ∧ H[id]? = some (.row g cs true)
def At (v : V) (id : Nat) : Prop := ∃ g o n sz cp, v = .slice id g o n sz cp
theorem own_nil (H : Hp) (sz : Nat) : Own H .nilslice sz [] := .inl ⟨rfl, rfl⟩
theorem Own.frame {H' : Hp} {v : V} {sz : Nat} {cs : List V} (h : Own H v sz cs) (hf : ∀ id, At v id → H'[id]? = H[id]?) : Own H' v sz cs := by
 rcases h with h | ⟨id, g, n, rfl, h1, h2, h3⟩
 ·exact .inl h
 ·exact .inr ⟨id, g, n, rfl, h1, h2, (hf id ⟨g, 0, n, sz, .full, rfl⟩).trans h3⟩
theorem Own.lt {v : V} {sz : Nat} {cs : List V} (h : Own H v sz cs) {id : Nat} (ha : At v id) : id < H.length := by
 obtain ⟨g, o, n, z, cp, rfl⟩ := ha
 rcases h with ⟨h, _⟩ | ⟨id', g', n', e, _, _, h3⟩
 ·cases h
 ·injection e with e1; subst e1
  exact (List.getElem?_eq_some_iff.1 h3).1
theorem Own.push {v : V} {sz by_ : Nat} {cs ys : List V} (h : Own H v sz cs) (hy : ys.length = sz) (hc : ys.all V.isCell = true) (hsz : 0 < sz) (hb : (cs.length + 1) * by_ ≤ 2 ^ 40) (hb2 : cs.length + 1 ≤ 2 ^ 40) :
  ∃ v' H', appOf sz by_ (H ++ [.row 0 ys true]) v (.slice H.length 0 0 1 sz .full) = some (v', H') ∧ Own H' v' sz (cs ++ ys) ∧ (∀ id, id < H.length → ¬ At v id → H'[id]? = H[id]?) ∧ H.length ≤ H'.length ∧ (∀ id, At v' id → At v id ∨ H.length ≤ id) := by
 have hs : srcCells (H ++ [.row 0 ys true]) (.slice H.length 0 0 1 sz .full) = some (ys, 1) := by
  simp [srcCells, getRow, hy]
  exact List.take_of_length_le (by omega)
 unfold appOf
 rw [hs]
 simp only [Option.bind_some]
 rw [if_pos ⟨by omega, hc⟩]
 rcases h with ⟨rfl, rfl⟩ | ⟨id, g, n, rfl, h1, h2, h3⟩
 ·simp only [List.length_nil, Nat.zero_add] at hb hb2
  refine ⟨_, (H ++ [AB.row 0 ys true]) ++ [.row 0 ys true], ?_, .inr ⟨(H ++ [AB.row 0 ys true]).length, 0, 1, rfl, by simp [hy], by omega, ?_⟩, ?_, ?_, ?_⟩
  ·simp only
   rw [if_neg (by omega), if_pos ⟨by omega, by omega⟩]
  ·simp
  ·intro id hid _
   rw [List.append_assoc, List.getElem?_append_left hid]
  ·simp
  ·rintro id ⟨g, o, n, z, cp, e⟩
   injection e with e1
   right; subst e1; simp
 ·have hid : id < H.length := (List.getElem?_eq_some_iff.1 h3).1
  have hle : n * 1 ≤ n * sz := Nat.mul_le_mul_left n hsz
  have hnb : (n + 1) * by_ ≤ (cs.length + 1) * by_ := Nat.mul_le_mul_right _ (by omega)
  have hr : getRow (H ++ [.row 0 ys true]) id g = some (cs, true) := by
   rw [getRow_app hid]
   simp [getRow, h3]
  refine ⟨_, (H ++ [AB.row 0 ys true]).set id (.row (g + 1) (cs ++ ys) true), ?_, .inr ⟨id, g + 1, n + 1, rfl, by rw [List.length_append, hy, Nat.succ_mul, h1], by omega, ?_⟩, ?_, ?_, ?_⟩
  ·simp only
   rw [hr]
   simp only [Option.bind_some]
   rw [if_pos ⟨trivial, by omega, by omega, by omega⟩, if_neg (by omega), if_pos trivial, if_neg (by rw [Nat.succ_mul]; omega), if_pos (by omega)]
   simp
  ·rw [List.getElem?_set_self (by simp; omega)]
  ·intro id' hid' hn
   have hne : id ≠ id' := fun e => hn ⟨g, 0, n, sz, .full, by rw [e]⟩
   rw [List.getElem?_set_ne hne, List.getElem?_append_left hid']
  ·simp
  ·rintro id' ⟨g', o, n', z, cp, e⟩
   injection e with e1
   subst e1
   exact .inl ⟨g, 0, n, sz, .full, rfl⟩
theorem Own.sl {v : V} {sz : Nat} {xs : List (List V)} (h : Own H v sz xs.flatten) (hs : ∀ x ∈ xs, x.length = sz) (h0 : 0 < sz) : Sl H v sz xs := by
 refine ⟨hs, ?_⟩
 have hl := flat_len hs
 rcases h with ⟨rfl, h2⟩ | ⟨id, g, n, rfl, h1, h2, h3⟩
 ·rw [h2] at hl
  simp only [List.length_nil] at hl
  refine .inl ⟨rfl, List.length_eq_zero_iff.1 ?_⟩
  rcases Nat.mul_eq_zero.1 hl.symm with h | h
  ·exact h
  ·omega
 ·have hn : n = xs.length := Nat.eq_of_mul_eq_mul_right h0 (h1.trans hl)
  subst hn
  exact .inr ⟨id, g, 0, .full, xs.flatten, true, rfl, by simp [getRow, h3], by omega, by rw [List.drop_zero, List.take_of_length_le (by omega)]⟩
def bsT (P : Program) (t : TypeId) (z : List V) : Prop := ∃ e, P.underlying t = some (.slice e) ∧ szOf P e = some z.length ∧ ∃ zv, zeroV P e = some zv ∧ zv.cells = z
theorem bs_one {t e : TypeId} {sz : Nat} {zv : V} (hu : P.underlying t = some (.slice e)) (hz : szOf P e = some sz) (hv : zeroV P e = some zv) (hl : zv.cells.length = sz) (hs : 0 < sz) (hs2 : sz ≤ 2 ^ 24) (v : V) (hc : v.cells.all V.isCell = true) (hn : v.cells.length = sz) : buildSliceV P t 1 [(0, v)] H = some (.slice H.length 0 0 1 sz .full, H ++ [.row 0 v.cells true]) := by
 unfold buildSliceV
 simp only [hu, hz, hv, Option.bind_some]
 rw [if_pos ⟨hl, hs, by omega⟩]
 simp only [fillV, Option.bind_some, Nat.zero_mul, Nat.zero_add]
 rw [if_pos ⟨hc, hn, by simp [repeatV, hl, hn]⟩]
 simp only [Option.bind_some]
 have e1 : setAt (repeatV zv.cells 1) 0 v.cells = v.cells := by
  simp [setAt, repeatV, hn, hl]
 rw [e1, if_pos hc]
theorem bs_if {t e : TypeId} {sz : Nat} {zv : V} (hu : P.underlying t = some (.slice e)) (hz : szOf P e = some sz) (hv : zeroV P e = some zv) (hl : zv.cells.length = sz) (hs : 0 < sz) (hs2 : sz ≤ 2 ^ 24) (v : V) : buildSliceV P t 1 [(0, v)] H = if v.cells.all V.isCell = true ∧ v.cells.length = sz then some (.slice H.length 0 0 1 sz .full, H ++ [.row 0 v.cells true]) else none := by
 split
 ·rename_i h; exact bs_one hu hz hv hl hs hs2 v h.1 h.2
 ·rename_i h
  unfold buildSliceV
  simp only [hu, hz, hv, Option.bind_some]
  rw [if_pos ⟨hl, hs, by omega⟩]
  simp only [fillV, Option.bind_some, Nat.zero_mul, Nat.zero_add]
  rw [if_neg fun h2 => h ⟨h2.1, h2.2.1⟩]
  rfl
theorem pre_of {H' : Hp} (h : ∀ id, id < H.length → H'[id]? = H[id]?) : ∃ G, H' = H ++ G := by
 refine ⟨H'.drop H.length, ?_⟩
 apply List.ext_getElem?
 intro i
 rw [List.getElem?_append]
 split
 ·exact h i (by assumption)
 ·rw [List.getElem?_drop]; congr 1; omega
theorem callL_some {Pr : Prims} {k : Nat} {a : List V} {H' : Hp} {v : V} (h : callL P Pr k a H = some (v, H')) : ∃ n H', callN P Pr n k a H = some (v, H') := by
 obtain ⟨n, hn⟩ := callL_iff.1 h
 exact ⟨n, H', hn⟩
end
end Go.An
namespace Go.An
open Go
structure Enc (α : Type) where
 f : α → List V
 w : Nat
 z : α
 len : ∀ a, (f a).length = w
 pos : 0 < w
 imm : ∀ a, immL (f a) = true
def Enc.at {α : Type} (E : Enc α) (l : List α) (i : Nat) : α := l.getD i E.z
theorem Enc.at_some {α : Type} (E : Enc α) {l : List α} {i : Nat} (h : i < l.length) : l[i]? = some (E.at l i) := by
 simp [Enc.at, List.getD, List.getElem?_eq_getElem h]
theorem Enc.at_of {α : Type} (E : Enc α) {l : List α} {i : Nat} {x : α} (h : l[i]? = some x) : E.at l i = x := by
 simp [Enc.at, List.getD, h]
theorem Enc.at_mem {α : Type} (E : Enc α) {l : List α} {i : Nat} (h : i < l.length) : E.at l i ∈ l := List.mem_of_getElem? (E.at_some h)
theorem Enc.take_at {α : Type} (E : Enc α) {l : List α} {i : Nat} (h : i < l.length) : l.take (i + 1) = l.take i ++ [E.at l i] := by
 rw [List.take_add_one, E.at_some h]; rfl
theorem Enc.drop_at {α : Type} (E : Enc α) {l : List α} {i : Nat} (h : i < l.length) : l.drop i = E.at l i :: l.drop (i + 1) := by
 rw [List.drop_eq_getElem_cons h]
 congr 1
 simp [Enc.at, List.getD, List.getElem?_eq_getElem h]
def flatE {α : Type} (E : Enc α) (l : List α) : List V := (l.map E.f).flatten
def slV {α : Type} (b : Bool) (E : Enc α) (l : List α) : V := if b = true ∧ l = [] then .nilslice else .isl (flatE E l) l.length E.w
def byE : Enc UInt8 := ⟨fun b => [.int .u8 b.toNat], 1, 0, fun _ => rfl, by omega, fun _ => rfl⟩
def inE : Enc Int := ⟨fun n => [.int .i64 n], 1, 0, fun _ => rfl, by omega, fun _ => rfl⟩
def boE : Enc Bool := ⟨fun b => [.bool b], 1, false, fun _ => rfl, by omega, fun _ => rfl⟩
def stE : Enc (List UInt8) := ⟨fun s => [.str s], 1, [], fun _ => rfl, by omega, fun _ => rfl⟩
@[go_sem] theorem byE_f (b : UInt8) : byE.f b = [.int .u8 b.toNat] := rfl
@[go_sem] theorem inE_f (b : Int) : inE.f b = [.int .i64 b] := rfl
@[go_sem] theorem boE_f (b : Bool) : boE.f b = [.bool b] := rfl
@[go_sem] theorem stE_f (b : List UInt8) : stE.f b = [.str b] := rfl
section
variable [Orc]
variable {α : Type} {E : Enc α} {l : List α} {b : Bool}
theorem flatE_len : (flatE E l).length = l.length * E.w := by
 unfold flatE
 rw [flat_len (sz := E.w)]
 ·rw [List.length_map]
 ·intro x hx
  obtain ⟨a, _, rfl⟩ := List.mem_map.1 hx
  exact E.len a
theorem flatE_imm : immL (flatE E l) = true := immL_flat fun x hx => by
 obtain ⟨a, _, rfl⟩ := List.mem_map.1 hx
 exact E.imm a
theorem slV_cases (b : Bool) (E : Enc α) (l : List α) : (slV b E l = .nilslice ∧ l = [] ∧ b = true) ∨ slV b E l = .isl (flatE E l) l.length E.w := by
 unfold slV
 split
 ·rename_i h; exact .inl ⟨rfl, h.2, h.1⟩
 ·exact .inr rfl
theorem slV_some (h : 0 < l.length) : slV b E l = .isl (flatE E l) l.length E.w := by
 unfold slV
 rw [if_neg]
 rintro ⟨_, rfl⟩
 simp at h
@[go_sem] theorem slV_cell (b : Bool) (E : Enc α) (l : List α) : (slV b E l).isCell = true := by rcases slV_cases b E l with ⟨h, _⟩ | h <;> rw [h] <;> rfl
@[go_sem] theorem slV_base (b : Bool) (E : Enc α) (l : List α) : (slV b E l).isBase = true := by rcases slV_cases b E l with ⟨h, _⟩ | h <;> rw [h] <;> rfl
@[go_sem] theorem slV_nt (b : Bool) (E : Enc α) (l : List α) : (slV b E l).isTup = false := by rcases slV_cases b E l with ⟨h, _⟩ | h <;> rw [h] <;> rfl
@[go_sem] theorem slV_cells (b : Bool) (E : Enc α) (l : List α) : (slV b E l).cells = [slV b E l] := by rcases slV_cases b E l with ⟨h, _⟩ | h <;> rw [h] <;> rfl
@[go_sem] theorem slV_imm (b : Bool) (E : Enc α) (l : List α) : (slV b E l).imm = true := by
 rcases slV_cases b E l with ⟨h, _⟩ | h <;> rw [h]
 ·rfl
 ·rw [imm_isl]; exact flatE_imm
@[go_sem] theorem slV_eqA (b : Bool) (E : Enc α) (l : List α) : eqA (slV b E l) (slV b E l) = true := by
 rcases slV_cases b E l with ⟨h, _⟩ | h <;> rw [h]
 ·rfl
 ·exact eqA_isl _ _ _
@[go_sem] theorem slV_eqC (b : Bool) (E : Enc α) (l : List α) : eqC (slV b E l) (slV b E l) = true := by
 rcases slV_cases b E l with ⟨h, _⟩ | h <;> rw [h]
 ·rfl
 ·simp [eqC, eqBase, eqIL_refl]
theorem slV_nil (E : Enc α) : slV true E ([] : List α) = .nilslice := by simp [slV]
theorem slV_emp (b : Bool) {E : Enc α} {β : Type} {F : Enc β} (h : E.w = F.w) : slV b E ([] : List α) = slV b F ([] : List β) := by simp [slV, flatE, h]
end
section
variable [Orc]
variable {P : Program} {H : Hp} {α : Type} {E : Enc α} {l : List α} {b : Bool}
theorem len_slV {t : TypeId} {z : Nat} (ht : sliceT P t z = true) (b : Bool) (E : Enc α) (l : List α) : lenV P t H (slV b E l) = some (.int .i64 l.length) := by
 unfold sliceT at ht
 split at ht
 ·rename_i e hu
  rcases slV_cases b E l with ⟨h, h2, _⟩ | h <;> rw [h]
  ·subst h2; simp [lenV, hu]
  ·simp [lenV, hu]
 ·cases ht
theorem idx_slV {t : TypeId} {n : Nat} (ht : sliceT P t n = true) {k : IntKind} {j : Int} (hw : E.w = n) (hj : 0 ≤ j ∧ j < (l.length : Int)) : indexAddrV P t (slV b E l) (.int k j) = some (.ipt (flatE E l) (j.toNat * n)) := by
 unfold sliceT at ht
 split at ht
 ·rename_i e hu
  rw [slV_some (by omega)]
  have hz : szOf P e = some n := by simpa using ht
  simp only [indexAddrV, hu]
  rw [if_pos ⟨by rw [hz, hw], E.pos, flatE_len, hj.1, hj.2⟩, hw]
 ·cases ht
theorem cut_slV {t : TypeId} {n : Nat} (ht : sliceT P t n = true) (hw : E.w = n) {k k' : IntKind} {lo hi : Int} (h : 0 ≤ lo ∧ lo ≤ hi ∧ hi ≤ (l.length : Int)) : sliceV P t H (slV b E l) (some (.int k lo)) (some (.int k' hi)) = some (slV (b && decide (l.length = 0)) E ((l.drop lo.toNat).take (hi.toNat - lo.toNat))) := by
 unfold sliceT at ht
 split at ht
 ·rename_i e hu
  have hz : szOf P e = some n := by simpa using ht
  rcases slV_cases b E l with ⟨h1, h2, h3⟩ | h1
  ·rw [h1]
   subst h2 h3
   simp only [List.length_nil, Int.natCast_zero] at h
   have e1 : lo = 0 := by omega
   have e2 : hi = 0 := by omega
   subst e1 e2
   simp [sliceV, hu, hz, boundV, slV]
  ·by_cases hb : b = true ∧ l = []
   ·obtain ⟨rfl, rfl⟩ := hb
    rw [slV_nil] at h1
    cases h1
   ·rw [h1]
    have hb' : (b && decide (l.length = 0)) = false := by
     rcases Bool.eq_false_or_eq_true b with e | e
     ·simp only [e, Bool.true_and, decide_eq_false_iff_not]
      exact fun e2 => hb ⟨e, List.length_eq_zero_iff.1 e2⟩
     ·simp [e]
    simp only [sliceV, hu, boundV, Option.bind_some, hb']
    rw [if_pos ⟨by rw [hz, hw], E.pos, flatE_len, h.1, h.2.1, h.2.2⟩]
    unfold slV
    rw [if_neg (by simp)]
    have hl : ((l.drop lo.toNat).take (hi.toNat - lo.toNat)).length = hi.toNat - lo.toNat := by
     rw [List.length_take, List.length_drop]; omega
    rw [hl]
    congr 2
    unfold flatE
    rw [List.map_take, List.map_drop]
    have key : ∀ (xs : List (List V)), (∀ x ∈ xs, x.length = E.w) → ∀ i j, ((xs.flatten.drop (i * E.w)).take (j * E.w)) = ((xs.drop i).take j).flatten := by
     intro xs
     induction xs with
     | nil => intro _ i j; simp
     | cons x xs ih =>
      intro hx i j
      have hx1 := hx x (by simp)
      cases i with
      | succ i =>
       rw [List.flatten_cons, Nat.succ_mul, Nat.add_comm, ← List.drop_drop, List.drop_left' hx1]
       simpa using ih (fun y hy => hx y (by simp [hy])) i j
      | zero =>
       cases j with
       | zero => simp
       | succ j =>
        have := ih (fun y hy => hx y (by simp [hy])) 0 j
        simp only [Nat.zero_mul, List.drop_zero] at this ⊢
        rw [List.flatten_cons, Nat.succ_mul, List.take_succ_cons, List.flatten_cons, ← this, Nat.add_comm, ← hx1, List.take_length_add_append]
    rw [key]
    intro x hx
    obtain ⟨a, _, rfl⟩ := List.mem_map.1 hx
    exact E.len a
 ·cases ht
theorem lo_slV {t : TypeId} {x : V} {hi : Option V} (ht : ∃ e, P.underlying t = some (.slice e)) : sliceV P t H x none hi = sliceV P t H x (some (.int .i64 0)) hi := by
 obtain ⟨e, hu⟩ := ht
 unfold sliceV
 simp only [hu]
 split <;> rfl
theorem hi_slV {t : TypeId} {n : Nat} (ht : sliceT P t n = true) {lo : Option V} : sliceV P t H (slV b E l) lo none = sliceV P t H (slV b E l) lo (some (.int .i64 l.length)) := by
 unfold sliceT at ht
 split at ht
 ·rename_i e hu
  rcases slV_cases b E l with ⟨h1, h2, h3⟩ | h1 <;> rw [h1]
  ·subst h2; simp [sliceV, hu, boundV]
  ·simp [sliceV, hu, boundV]
 ·cases ht
theorem src_slV (b : Bool) (E : Enc α) (l : List α) : srcCells H (slV b E l) = some (flatE E l, l.length) := by
 rcases slV_cases b E l with ⟨h1, h2, h3⟩ | h1 <;> rw [h1]
 ·subst h2; simp [srcCells, flatE]
 ·simp only [srcCells]
  rw [if_pos flatE_len]
theorem bytesOf_byE : ∀ (l : List UInt8), bytesOf (flatE byE l) = some l
 | [] => rfl
 | x :: l => by
  have := bytesOf_byE l
  simp only [flatE, List.map_cons, List.flatten_cons] at this ⊢
  show bytesOf (V.int .u8 x.toNat :: (l.map byE.f).flatten) = _
  simp only [bytesOf, byteOf, this, Option.bind_some, Option.map_some]
  simp
def strT (P : Program) (s d : TypeId) : Bool := match P.underlying s, P.underlying d with
 | some (.slice e), some .string => (match P.underlying e with | some (.int .u8) => true | _ => false)
 | _, _ => false
theorem str_slV {s d : TypeId} (ht : strT P s d = true) (b : Bool) (l : List UInt8) : convV P s d H (slV b byE l) = some (.str l, H) := by
 unfold strT at ht
 split at ht
 ·rename_i e hs hd
  split at ht
  ·rename_i he
   rcases slV_cases b byE l with ⟨h1, h2, h3⟩ | h1 <;> rw [h1]
   ·subst h2
    simp [convV, hs, hd, he]
   ·simp only [convV, hs, hd, he]
    rw [if_pos ⟨rfl, by rw [flatE_len]; exact Nat.mul_one _⟩, bytesOf_byE]
    rfl
  ·cases ht
 ·cases ht
@[go_sem] theorem load_ipt (t : TypeId) (c : V) (cs : List V) (off : Nat) : loadV P t H (.ipt (c :: cs) off) = partV P t (c :: cs) off := rfl
theorem loadV_ipt (t : TypeId) (cs : List V) (off : Nat) : loadV P t H (.ipt cs off) = partV P t cs off := rfl
theorem flatE_at {i : Nat} (hi : i < l.length) : ((flatE E l).drop (i * E.w)).take E.w = E.f (E.at l i) ∧ i * E.w + E.w ≤ (flatE E l).length ∧ ∀ j, j < E.w → (flatE E l)[i * E.w + j]? = (E.f (E.at l i))[j]? := by
 unfold flatE
 exact flat_at (sz := E.w) (fun x hx => by
  obtain ⟨a, _, rfl⟩ := List.mem_map.1 hx
  exact E.len a) (by rw [List.getElem?_map, E.at_some hi]; rfl)
theorem ld_agg {t : TypeId} {w i : Nat} (hg : aggT P t = some true) (hz : szOf P t = some w) (hw : E.w = w) (hi : i < l.length) : loadV P t H (.ipt (flatE E l) (i * w)) = some (.agg (E.f (E.at l i))) := by
 subst hw
 obtain ⟨h1, h2, _⟩ := flatE_at (E := E) hi
 rw [loadV_ipt]
 unfold partV
 rw [hg, hz]
 simp only [Option.bind_some, if_true]
 rw [if_pos h2, h1]
theorem ld_cell {t : TypeId} {w i j : Nat} (hg : aggT P t = some false) (hw : E.w = w) (hi : i < l.length) (hj : j < w) : loadV P t H (.ipt (flatE E l) (i * w + j)) = (E.f (E.at l i))[j]? := by
 subst hw
 obtain ⟨_, _, h3⟩ := flatE_at (E := E) hi
 rw [loadV_ipt]
 unfold partV
 rw [hg]
 simp only [Option.bind_some, Bool.false_eq_true, if_false]
 exact h3 j hj
theorem ld_cell0 {t : TypeId} {w i : Nat} (hg : aggT P t = some false) (hw : E.w = w) (hi : i < l.length) : loadV P t H (.ipt (flatE E l) (i * w)) = (E.f (E.at l i))[0]? := ld_cell (j := 0) hg hw hi (hw ▸ E.pos)
theorem ld_sub {t : TypeId} {w i j n : Nat} (hg : aggT P t = some true) (hz : szOf P t = some n) (hw : E.w = w) (hi : i < l.length) (hj : j + n ≤ w) : loadV P t H (.ipt (flatE E l) (i * w + j)) = some (.agg (((E.f (E.at l i)).drop j).take n)) := by
 subst hw
 obtain ⟨h1, h2, _⟩ := flatE_at (E := E) hi
 rw [loadV_ipt]
 unfold partV
 rw [hg, hz]
 simp only [Option.bind_some, if_true]
 rw [if_pos (by omega)]
 congr 2
 rw [← h1, List.drop_take, List.take_take, List.drop_drop, Nat.min_eq_left (by omega)]
def blV (n g w : Nat) (xs : List (List V)) : V := if xs = [] then .nilslice else .slice n g 0 xs.length w .full
def blH (g : Nat) (xs : List (List V)) : Hp := if xs = [] then [] else [.row g xs.flatten true]
def blG (g : Nat) (xs : List (List V)) : Nat := if xs = [] then 0 else g + 1
theorem blV_nil (n g w : Nat) : blV n g w [] = .nilslice := rfl
theorem blH_nil (g : Nat) : blH g [] = [] := rfl
@[go_sem] theorem blV_nt (n g w : Nat) (xs : List (List V)) : (blV n g w xs).isTup = false := by unfold blV; split <;> rfl
@[go_sem] theorem blV_cell (n g w : Nat) (xs : List (List V)) : (blV n g w xs).isCell = true := by unfold blV; split <;> rfl
@[go_sem] theorem blV_cells (n g w : Nat) (xs : List (List V)) : (blV n g w xs).cells = [blV n g w xs] := by unfold blV; split <;> rfl
@[go_sem] theorem blV_eqA (n g w : Nat) (xs : List (List V)) : eqA (blV n g w xs) (blV n g w xs) = true := by
 unfold blV
 split
 ·rfl
 ·exact eqA_slice ..
theorem len_blV {t : TypeId} {z : Nat} (ht : sliceT P t z = true) (n g w : Nat) (xs : List (List V)) : lenV P t H (blV n g w xs) = some (.int .i64 xs.length) := by
 unfold blV
 split
 ·rename_i h; subst h; exact len_nilslice ht
 ·exact len_slice ht ..
theorem ls_len {w : Nat} : ∀ {xs : List (List V)}, (∀ x ∈ xs, x.length = w) → xs.flatten.length = xs.length * w := flat_len
theorem enc_ls (E : Enc α) (l : List α) : ∀ x ∈ l.map E.f, x.length = E.w := fun x hx => by
 obtain ⟨a, _, rfl⟩ := List.mem_map.1 hx
 exact E.len a
theorem bl_push {n g w by_ : Nat} {ys : List α} {cs : List V} (hn : n = H.length) (hw : E.w = w) (hl : cs.length = w) (hc : cs.all V.isCell = true) (hb : (ys.length + 1) * by_ ≤ 2 ^ 40) (hb2 : ys.length + 1 ≤ 2 ^ 40) :
  appOf w by_ (H ++ blH g (ys.map E.f)) (blV n g w (ys.map E.f)) (.isl cs 1 w) = some (blV n (blG g (ys.map E.f)) w (ys.map E.f ++ [cs]), H ++ blH (blG g (ys.map E.f)) (ys.map E.f ++ [cs])) := by
 subst hw hn
 have hp := E.pos
 have hxl := ls_len (enc_ls E ys)
 rw [List.length_map] at hxl
 unfold appOf blV blH blG
 have e1 : cs.length = 1 * E.w := by omega
 simp only [srcCells, if_pos e1, Option.bind_some]
 rw [if_pos ⟨e1, hc⟩]
 by_cases h : ys.map E.f = []
 ·have h' : ys = [] := by simpa using h
  subst h'
  simp only [List.map_nil, List.length_nil, Nat.zero_add, if_true, List.nil_append, List.append_nil, reduceCtorEq, if_false] at hb hb2 ⊢
  rw [if_pos ⟨hb, hb2⟩]
  simp
 ·have hne : ¬ (ys.map E.f ++ [cs] = []) := by simp
  simp only [if_neg h, if_neg hne]
  have hr : getRow (H ++ [AB.row g (ys.map E.f).flatten true]) H.length g = some ((ys.map E.f).flatten, true) := getRow_last g _ true
  rw [hr]
  simp only [Option.bind_some, List.length_map]
  rw [if_pos ⟨trivial, hb, hb2, by omega⟩, if_neg (by omega), if_pos trivial, if_neg (by rw [hxl, Nat.add_mul]; omega), if_pos (by omega)]
  simp
theorem bl_done {n g w : Nat} {ys : List α} {a : α} : (blV n (blG g (ys.map E.f)) w (ys.map E.f ++ [E.f a]), blH (blG g (ys.map E.f)) (ys.map E.f ++ [E.f a])) = (blV n (blG g (ys.map E.f)) w ((ys ++ [a]).map E.f), blH (blG g (ys.map E.f)) ((ys ++ [a]).map E.f)) := by simp
theorem frz_same {H H' : Hp} (h : ∀ (id : Nat), id < H.length → H'[id]? = H[id]?) : mapO (frzK H H') (List.range H.length) = some H := by
 have key : ∀ (n : Nat), n ≤ H.length → mapO (frzK H H') (List.range n) = some (H.take n) := by
  have app : ∀ (l : List Nat) (k : Nat) (r : List AB) (b : AB), mapO (frzK H H') l = some r → frzK H H' k = some b → mapO (frzK H H') (l ++ [k]) = some (r ++ [b]) := by
   intro l
   induction l with
   | nil =>
    intro k r b h1 h2
    simp only [mapO, Option.some.injEq] at h1
    subst h1
    simp [mapO, h2]
   | cons x l ih =>
    intro k r b h1 h2
    simp only [mapO] at h1
    obtain ⟨y, h3, h4⟩ := Option.bind_eq_some_iff.1 h1
    obtain ⟨ys, h5, rfl⟩ := Option.map_eq_some_iff.1 h4
    simp [mapO, h3, ih k ys b h5 h2]
  intro n
  induction n with
  | zero => intro _; rfl
  | succ n ih =>
   intro hn
   rw [List.range_succ, List.take_add_one, List.getElem?_eq_getElem (by omega)]
   refine app _ _ _ _ (ih (by omega)) ?_
   unfold frzK
   rw [if_pos (h n (by omega)), List.getElem?_eq_getElem (by omega)]
 have := key H.length (Nat.le_refl _)
 rwa [List.take_length] at this
theorem gcF_of {H' : Hp} {v v' : V} (h : ∀ (id : Nat), id < H.length → H'[id]? = H[id]?) (hv : inlR H.length H' 8 v = some v') : gcF H (v, H') = (v', H) := by
 unfold gcF
 simp only [hv, frz_same h]
theorem gcF_app {G : Hp} {v v' : V} (hv : inlR H.length (H ++ G) 8 v = some v') : gcF H (v, H ++ G) = (v', H) := gcF_of (fun _ hid => List.getElem?_append_left hid) hv
theorem gcF_same {v v' : V} (hv : inlR H.length H 8 v = some v') : gcF H (v, H) = (v', H) := gcF_of (fun _ _ => rfl) hv
def finQ (x : Option V) (H : Hp) (r : V × Hp) : Prop := ∃ v, x = some v ∧ (v, H) = r
@[go_sem] theorem finQ_some (v : V) (r : V × Hp) : finQ (some v) H r = ((v, H) = r) := by simp [finQ]
theorem finQ_app {G : Hp} {v : V} {r : V × Hp} (h : finQ (inlR H.length (H ++ G) 8 v) H r) : gcF H (v, H ++ G) = r := by
 obtain ⟨v', h1, h2⟩ := h
 rw [gcF_app h1, h2]
theorem finQ_same {v : V} {r : V × Hp} (h : finQ (inlR H.length H 8 v) H r) : gcF H (v, H) = r := by
 obtain ⟨v', h1, h2⟩ := h
 rw [gcF_same h1, h2]
variable {n f : Nat} {H' : Hp}
@[go_sem] theorem inlR_tup (vs : List V) : inlR n H' f (.tup vs) = (mapO (inlA n H' f) vs).map .tup := rfl
@[go_sem] theorem inlR_int (k : IntKind) (m : Int) : inlR n H' (f + 1) (.int k m) = some (.int k m) := rfl
@[go_sem] theorem inlR_bool (m : Bool) : inlR n H' (f + 1) (.bool m) = some (.bool m) := rfl
@[go_sem] theorem inlR_str (m : List UInt8) : inlR n H' (f + 1) (.str m) = some (.str m) := rfl
@[go_sem] theorem inlR_nilptr : inlR n H' (f + 1) .nilptr = some .nilptr := rfl
@[go_sem] theorem inlR_nilslice : inlR n H' (f + 1) .nilslice = some .nilslice := rfl
@[go_sem] theorem inlR_ipt (cs : List V) (o : Nat) : inlR n H' (f + 1) (.ipt cs o) = some (.ipt cs o) := rfl
@[go_sem] theorem inlR_isl (cs : List V) (m sz : Nat) : inlR n H' (f + 1) (.isl cs m sz) = some (.isl cs m sz) := rfl
@[go_sem] theorem inlR_agg (cs : List V) : inlR n H' f (.agg cs) = (mapO (inlC n H' f) cs).map .agg := rfl
@[go_sem] theorem inlR_fn (k : Nat) (a b : List V) : inlR n H' f (.fn k a b) = (mapO (inlB n H' f) a).bind fun a' => (mapO (inlB n H' f) b).map fun b' => .fn k a' b' := rfl
@[go_sem] theorem inlR_blV (m g w : Nat) (xs : List (List V)) : inlR n H' f (blV m g w xs) = inlB n H' f (blV m g w xs) := by unfold blV; split <;> rfl
@[go_sem] theorem inlA_int (k : IntKind) (m : Int) : inlA n H' (f + 1) (.int k m) = some (.int k m) := rfl
@[go_sem] theorem inlA_bool (m : Bool) : inlA n H' (f + 1) (.bool m) = some (.bool m) := rfl
@[go_sem] theorem inlA_str (m : List UInt8) : inlA n H' (f + 1) (.str m) = some (.str m) := rfl
@[go_sem] theorem inlA_nilptr : inlA n H' (f + 1) .nilptr = some .nilptr := rfl
@[go_sem] theorem inlA_nilslice : inlA n H' (f + 1) .nilslice = some .nilslice := rfl
@[go_sem] theorem inlA_ipt (cs : List V) (o : Nat) : inlA n H' (f + 1) (.ipt cs o) = some (.ipt cs o) := rfl
@[go_sem] theorem inlA_isl (cs : List V) (m sz : Nat) : inlA n H' (f + 1) (.isl cs m sz) = some (.isl cs m sz) := rfl
@[go_sem] theorem inlA_agg (cs : List V) : inlA n H' f (.agg cs) = (mapO (inlC n H' f) cs).map .agg := rfl
@[go_sem] theorem inlA_blV (m g w : Nat) (xs : List (List V)) : inlA n H' f (blV m g w xs) = inlB n H' f (blV m g w xs) := by unfold blV; split <;> rfl
@[go_sem] theorem inlC_int (k : IntKind) (m : Int) : inlC n H' (f + 1) (.int k m) = some (.int k m) := rfl
@[go_sem] theorem inlC_bool (m : Bool) : inlC n H' (f + 1) (.bool m) = some (.bool m) := rfl
@[go_sem] theorem inlC_str (m : List UInt8) : inlC n H' (f + 1) (.str m) = some (.str m) := rfl
@[go_sem] theorem inlC_nilptr : inlC n H' (f + 1) .nilptr = some .nilptr := rfl
@[go_sem] theorem inlC_nilslice : inlC n H' (f + 1) .nilslice = some .nilslice := rfl
@[go_sem] theorem inlC_ipt (cs : List V) (o : Nat) : inlC n H' (f + 1) (.ipt cs o) = some (.ipt cs o) := rfl
@[go_sem] theorem inlC_isl (cs : List V) (m sz : Nat) : inlC n H' (f + 1) (.isl cs m sz) = some (.isl cs m sz) := rfl
@[go_sem] theorem inlC_blV (m g w : Nat) (xs : List (List V)) : inlC n H' f (blV m g w xs) = inlB n H' f (blV m g w xs) := by unfold blV; split <;> rfl
@[go_sem] theorem inlB_int (k : IntKind) (m : Int) : inlB n H' (f + 1) (.int k m) = some (.int k m) := by simp [inlB]
@[go_sem] theorem inlB_bool (m : Bool) : inlB n H' (f + 1) (.bool m) = some (.bool m) := by simp [inlB]
@[go_sem] theorem inlB_str (m : List UInt8) : inlB n H' (f + 1) (.str m) = some (.str m) := by simp [inlB]
@[go_sem] theorem inlB_ipt (cs : List V) (o : Nat) : inlB n H' (f + 1) (.ipt cs o) = some (.ipt cs o) := by simp [inlB]
@[go_sem] theorem inlB_isl (cs : List V) (m sz : Nat) : inlB n H' (f + 1) (.isl cs m sz) = some (.isl cs m sz) := by simp [inlB]
@[go_sem] theorem inlB_slV (b : Bool) (E : Enc α) (l : List α) : inlB n H' (f + 1) (slV b E l) = some (slV b E l) := by
 rcases slV_cases b E l with ⟨h, _⟩ | h <;> rw [h] <;> simp [inlB]
@[go_sem] theorem inlR_slV (b : Bool) (E : Enc α) (l : List α) : inlR n H' (f + 1) (slV b E l) = some (slV b E l) := by
 rcases slV_cases b E l with ⟨h, _⟩ | h <;> rw [h] <;> rfl
@[go_sem] theorem inlA_slV (b : Bool) (E : Enc α) (l : List α) : inlA n H' (f + 1) (slV b E l) = some (slV b E l) := by
 rcases slV_cases b E l with ⟨h, _⟩ | h <;> rw [h] <;> rfl
@[go_sem] theorem inlC_slV (b : Bool) (E : Enc α) (l : List α) : inlC n H' (f + 1) (slV b E l) = some (slV b E l) := by
 rcases slV_cases b E l with ⟨h, _⟩ | h <;> rw [h] <;> rfl
theorem inlB_imm {v : V} (h : v.imm = true) : inlB n H' (f + 1) v = some v := by
 cases v <;> simp [V.imm] at h <;> simp [inlB]
theorem mapO_imm {cs : List V} (h : immL cs = true) : mapO (inlB n H' (f + 1)) cs = some cs := by
 induction cs with
 | nil => rfl
 | cons c cs ih =>
  simp only [immL, Bool.and_eq_true] at h
  simp only [mapO, inlB_imm h.1, ih h.2, Option.bind_some, Option.map_some]
theorem inlB_row {id g len w : Nat} {cs : List V} (hn : n ≤ id) (hb : H'[id]? = some (.row g cs true)) (hl : cs.length = len * w) (hi : immL cs = true) : inlB n H' (f + 2) (.slice id g 0 len w .full) = some (.isl cs len w) := by
 have e : inlB n H' (f + 1 + 1) (.slice id g 0 len w .full) = some (.isl cs len w) := by
  rw [inlB]
  simp only [hb]
  rw [if_neg (by omega), if_pos ⟨trivial, by omega⟩]
  simp only [List.drop_zero]
  rw [← hl, List.take_length, mapO_imm hi]
  simp only [Option.bind_some, hi, if_true]
 exact e
theorem inlB_bl {m g w : Nat} {ys : List α} {G : Hp} (hm : m = H.length) (hn : n ≤ m) (hw : E.w = w) : inlB n ((H ++ blH g (ys.map E.f)) ++ G) (f + 2) (blV m g w (ys.map E.f)) = some (slV true E ys) := by
 subst hm hw
 unfold blV blH slV
 by_cases h : ys = []
 ·subst h; simp [inlB]
 ·have h' : ¬ (ys.map E.f = []) := by simpa using h
  rw [if_neg h', if_neg h', if_neg (by simp [h])]
  have := inlB_row (n := n) (H' := (H ++ [AB.row g (ys.map E.f).flatten true]) ++ G) (f := f) (id := H.length) (g := g) (len := (ys.map E.f).length) (w := E.w) (cs := (ys.map E.f).flatten) hn (by simp) (ls_len (enc_ls E ys)) (flatE_imm (E := E) (l := ys))
  rw [this, List.length_map]
  rfl
theorem inlB_bl0 {m g w : Nat} {ys : List α} (hm : m = H.length) (hn : n ≤ m) (hw : E.w = w) : inlB n (H ++ blH g (ys.map E.f)) (f + 2) (blV m g w (ys.map E.f)) = some (slV true E ys) := by
 have := inlB_bl (H := H) (f := f) (g := g) (ys := ys) (G := []) hm hn hw
 rwa [List.append_nil] at this
theorem gcM_one {md : Nat → Nat} {k : Nat} (h : md k = 1) (H : Hp) (r : V × Hp) : gcM md k H r = gcF H r := by
 unfold gcM; rw [h]; rfl
theorem gcM_zero {md : Nat → Nat} {k : Nat} (h : md k = 0) (H : Hp) (r : V × Hp) : gcM md k H r = r := by
 unfold gcM; rw [h]; rfl
theorem gcM_two {md : Nat → Nat} {k : Nat} (h : md k = 2) (H : Hp) (r : V × Hp) : gcM md k H r = gcC H r := by
 unfold gcM; rw [h]; rfl
end
end Go.An
namespace Go.An
open Go
section
variable [Orc]
variable {P : Program} {H : Hp} {α : Type} {E : Enc α} {l : List α} {b : Bool}
def fieldAtI (offs : List Nat) (cs : List V) (off i : Nat) : Option V := (offs[i]?).map fun o => .ipt cs (off + o)
theorem fieldAtI_eq {s : TypeId} {offs : List Nat} (h : offsOk P s offs = true) (cs : List V) (off i : Nat) : fieldAddrV P s (.ipt cs off) i = fieldAtI offs cs off i := by
 have h1 := fieldAt_eq h 0 0 off i
 unfold fieldAddrV fieldAt at h1
 unfold fieldAddrV fieldAtI
 cases hu : P.underlying s with
 | none => rw [hu] at h1; simp only at h1 ⊢; cases ho : offs[i]? with | none => rfl | some o => rw [ho] at h1; cases h1
 | some d =>
  rw [hu] at h1
  cases d
  case struct fields =>
   simp only at h1 ⊢
   cases hf : fields[i]? with
   | none => rw [hf] at h1; cases ho : offs[i]? with | none => rfl | some o => rw [ho] at h1; cases h1
   | some f =>
    rw [hf] at h1
    simp only [Option.bind_some] at h1 ⊢
    cases hz : szOf P f.type with
    | none => rw [hz] at h1; cases ho : offs[i]? with | none => rfl | some o => rw [ho] at h1; cases h1
    | some n =>
     rw [hz] at h1
     simp only [Option.bind_some] at h1 ⊢
     split at h1
     ·cases ho : offs[i]? with
      | none => rw [if_pos (by assumption)]; rfl
      | some o => rw [ho] at h1; cases h1
     ·cases ho : offs[i]? with
      | none => rw [ho] at h1; cases h1
      | some o =>
       rw [ho] at h1
       simp only [Option.map_some, Option.some.injEq, V.ptr.injEq, true_and] at h1
       rw [if_neg (by assumption), h1]
       rfl
  all_goals
   simp only at h1 ⊢
   cases ho : offs[i]? with
   | none => rfl
   | some o => rw [ho] at h1; cases h1
@[go_sem] theorem fieldAtI_0 (o : Nat) (os : List Nat) (cs : List V) (off : Nat) : fieldAtI (o :: os) cs off 0 = some (.ipt cs (off + o)) := rfl
@[go_sem] theorem fieldAtI_S (o : Nat) (os : List Nat) (cs : List V) (off i : Nat) : fieldAtI (o :: os) cs off (i + 1) = fieldAtI os cs off i := by simp [fieldAtI]
theorem iai_arr {t : TypeId} {len sz : Nat} (h : arrT P t len sz = true) {cs : List V} {off : Nat} {k : IntKind} {j : Int} (hj : 0 ≤ j ∧ j < len) : indexAddrV P t (.ipt cs off) (.int k j) = some (.ipt cs (off + j.toNat * sz)) := by
 have h1 := ia_arr h (id := 0) (g := 0) (off := off) (k := k) hj
 unfold indexAddrV at h1 ⊢
 cases hu : P.underlying t with
 | none => rw [hu] at h1; cases h1
 | some d =>
  rw [hu] at h1
  cases d
  case array n e =>
   simp only at h1 ⊢
   cases hz : szOf P e with
   | none => rw [hz] at h1; cases h1
   | some m =>
    rw [hz] at h1
    simp only [Option.bind_some] at h1 ⊢
    split at h1
    ·rename_i hc
     simp only [Option.some.injEq, V.ptr.injEq, true_and] at h1
     rw [if_pos hc, h1]
    ·cases h1
  all_goals (simp only at h1; cases h1)
theorem is_gen {t e : TypeId} {sz len : Nat} {zv : V} (hu : P.underlying t = some (.slice e)) (hz : szOf P e = some sz) (hv : zeroV P e = some zv) (hl : zv.cells.length = sz) (hs : 0 < sz) (hs2 : len * sz ≤ 2 ^ 24) (ps : List (Nat × V)) : immSl P t len ps = (fillV (fun i => some (i * sz, sz)) (repeatV zv.cells len) ps).bind fun cs => if immL cs = true then some (.isl cs len sz) else none := by
 unfold immSl
 simp only [hu, hz, hv, Option.bind_some]
 rw [if_pos ⟨hl, hs, hs2⟩]
theorem is_one {t e : TypeId} {sz : Nat} {zv : V} (hu : P.underlying t = some (.slice e)) (hz : szOf P e = some sz) (hv : zeroV P e = some zv) (hl : zv.cells.length = sz) (hs : 0 < sz) (hs2 : sz ≤ 2 ^ 24) (v : V) : immSl P t 1 [(0, v)] = if immL v.cells = true ∧ v.cells.length = sz then some (.isl v.cells 1 sz) else none := by
 rw [is_gen hu hz hv hl hs (by omega)]
 by_cases hc : immL v.cells = true ∧ v.cells.length = sz
 ·rw [if_pos hc]
  have hr : repeatV zv.cells 1 = zv.cells := by simp [repeatV]
  rw [hr]
  have : fillV (fun i => some (i * sz, sz)) zv.cells [(0, v)] = some v.cells := by
   simp only [fillV, Option.bind_some, Nat.zero_mul, Nat.zero_add]
   rw [if_pos ⟨immL_cells hc.1, hc.2, by omega⟩]
   unfold setAt
   simp
   omega
  rw [this]
  simp only [Option.bind_some]
  rw [if_pos hc.1]
 ·rw [if_neg hc]
  have hr : repeatV zv.cells 1 = zv.cells := by simp [repeatV]
  rw [hr]
  simp only [fillV, Option.bind_some, Nat.zero_mul, Nat.zero_add]
  split
  ·rename_i h
   have e : setAt zv.cells 0 v.cells = v.cells := by
    unfold setAt
    simp
    omega
   rw [e]
   simp only [Option.bind_some]
   rw [if_neg fun h2 => hc ⟨h2, h.2.1⟩]
  ·rfl
theorem is_zero {t e : TypeId} {sz : Nat} {zv : V} (hu : P.underlying t = some (.slice e)) (hz : szOf P e = some sz) (hv : zeroV P e = some zv) (hl : zv.cells.length = sz) (hs : 0 < sz) : immSl P t 0 [] = some (.isl [] 0 sz) := by
 rw [is_gen hu hz hv hl hs (by omega)]
 rfl
def iaT (P : Program) (t t1 : TypeId) (sz by_ : Nat) : Bool := match P.underlying t, P.underlying t1 with
 | some (.slice e), some (.slice _) => szOf P e == some sz && bytesOf' P e == some by_ && (match zeroV P e with | some z => z.cells.length == sz | none => false) && decide (0 < sz)
 | _, _ => false
theorem ia_slV {t t1 : TypeId} {sz by_ : Nat} (h : iaT P t t1 sz by_ = true) (hw : E.w = sz) (h1 : l.length * by_ ≤ 2 ^ 40) (h2 : l.length ≤ 2 ^ 40) : immApp P t t1 .nilslice (slV b E l) = some (slV true E l) := by
 unfold iaT at h
 split at h
 ·rename_i e e1 hu hu1
  simp only [Bool.and_eq_true, beq_iff_eq, decide_eq_true_eq] at h
  obtain ⟨⟨⟨g1, g2⟩, g3⟩, g4⟩ := h
  split at g3
  ·rename_i z hz
   simp only [beq_iff_eq] at g3
   unfold immApp
   simp only [hu, hu1, g1, g2, hz, Option.bind_some]
   subst hw
   rcases slV_cases b E l with ⟨k1, k2, k3⟩ | k1 <;> rw [k1]
   ·subst k2
    simp only [Option.bind_some]
    rw [if_pos ⟨g4, g3, by simp, rfl, by simp, by simp⟩]
    simp [slV]
   ·have fl := flatE_len (E := E) (l := l)
    simp only [if_pos fl, Option.bind_some]
    rw [if_pos ⟨g4, g3, fl, flatE_imm, h1, h2⟩]
    unfold slV
    by_cases h0 : l = []
    ·subst h0; simp
    ·rw [if_neg (fun e => h0 (List.length_eq_zero_iff.1 e)), if_neg (by simp [h0])]
  ·cases g3
 ·cases h
def icT (P : Program) (s d : TypeId) : Bool := match P.underlying s, P.underlying d with
 | some .string, some (.slice e) => (match P.underlying e with | some (.int .u8) => szOf P e == some 1 | _ => false)
 | _, _ => false
theorem ic_slV {s d : TypeId} (h : icT P s d = true) {m : List UInt8} (hm : m.length ≤ 2 ^ 40) : immCv P s d (.str m) = some (slV false byE m) := by
 unfold icT at h
 split at h
 ·rename_i e hs hd
  split at h
  ·rename_i he
   simp only [beq_iff_eq] at h
   unfold immCv
   simp only [hs, hd, he]
   rw [if_pos ⟨h, hm⟩]
   unfold slV
   rw [if_neg (by simp)]
   congr 2
   unfold flatE
   induction m with
   | nil => rfl
   | cons x m ih =>
    simp only [List.map_cons, List.flatten_cons]
    rw [ih (by simp only [List.length_cons] at hm; omega)]
    rfl
  ·cases h
 ·cases h
def isSlT (P : Program) (t : TypeId) : Bool := match P.underlying t with
 | some (.slice _) => true
 | _ => false
def isPtT (P : Program) (t : TypeId) : Bool := match P.underlying t with
 | some (.pointer _) => true
 | _ => false
def isMpT (P : Program) (t : TypeId) : Bool := match P.underlying t with
 | some (.map _ _) => true
 | _ => false
theorem nil_slV {t : TypeId} (h : isSlT P t = true) (b : Bool) (E : Enc α) (l : List α) : binV P .eql t (slV b E l) .nilslice = some (.bool (b && decide (l.length = 0))) ∧ binV P .neq t (slV b E l) .nilslice = some (.bool (!(b && decide (l.length = 0)))) := by
 unfold isSlT at h
 split at h
 ·rename_i e hu
  rcases slV_cases b E l with ⟨k1, k2, k3⟩ | k1
  ·rw [k1]; subst k2 k3; simp [binV, eqV, hu]
  ·have hb : (b && decide (l.length = 0)) = false := by
    cases b
    ·rfl
    ·cases l with
     | nil => rw [slV_nil] at k1; cases k1
     | cons => simp
   rw [k1, hb]; simp [binV, eqV, hu]
 ·cases h
theorem sl_nil {t : TypeId} (h : isSlT P t = true) (a b c d e : Nat) (cp : Cap) : binV P .eql t (.slice a b c d e cp) .nilslice = some (.bool false) ∧ binV P .neq t (.slice a b c d e cp) .nilslice = some (.bool true) ∧ binV P .eql t .nilslice .nilslice = some (.bool true) ∧ binV P .neq t .nilslice .nilslice = some (.bool false) := by
 unfold isSlT at h
 split at h
 ·rename_i e hu; simp [binV, eqV, hu]
 ·cases h
theorem pt_nil {t : TypeId} (h : isPtT P t = true) (a b c : Nat) : binV P .eql t (.ptr a b c) .nilptr = some (.bool false) ∧ binV P .neq t (.ptr a b c) .nilptr = some (.bool true) ∧ binV P .eql t .nilptr .nilptr = some (.bool true) ∧ binV P .neq t .nilptr .nilptr = some (.bool false) := by
 unfold isPtT at h
 split at h
 ·rename_i e hu; simp [binV, eqV, hu]
 ·cases h
theorem mp_nil {t : TypeId} (h : isMpT P t = true) (a : Nat) : binV P .eql t (.map a) .nilmap = some (.bool false) ∧ binV P .neq t (.map a) .nilmap = some (.bool true) ∧ binV P .eql t .nilmap .nilmap = some (.bool true) ∧ binV P .neq t .nilmap .nilmap = some (.bool false) := by
 unfold isMpT at h
 split at h
 ·rename_i e hu; simp [binV, eqV, hu]
 ·cases h
theorem agg_eq {t : TypeId} {ks : List CK} (hf : flatT P 8 t = some ks) (ha : aggT P t = some true) (hz : szOf P t = some ks.length) (xs ys : List V) : binV P .eql t (.agg xs) (.agg ys) = if ckOks ks xs = true ∧ ckOks ks ys = true then some (.bool (eqCells xs ys)) else none := by
 simp only [binV, eqV, hf, Option.bind_some, ha, hz, and_true]
 split <;> rfl
theorem agg_ne {t : TypeId} {ks : List CK} (hf : flatT P 8 t = some ks) (ha : aggT P t = some true) (hz : szOf P t = some ks.length) (xs ys : List V) : binV P .neq t (.agg xs) (.agg ys) = if ckOks ks xs = true ∧ ckOks ks ys = true then some (.bool (!eqCells xs ys)) else none := by
 simp only [binV, eqV, hf, Option.bind_some, ha, hz, and_true]
 split <;> rfl
@[go_sem] theorem ckOks_nil : ckOks [] [] = true := rfl
@[go_sem] theorem ckOks_cons (k : CK) (v : V) (ks : List CK) (vs : List V) : ckOks (k :: ks) (v :: vs) = (ckOk k v && ckOks ks vs) := rfl
@[go_sem] theorem ckOk_int (k : IntKind) (n : Int) : ckOk (.int k) (.int k n) = true := by simp [ckOk]
@[go_sem] theorem ckOk_str (s : List UInt8) : ckOk .str (.str s) = true := rfl
@[go_sem] theorem ckOk_bool (b : Bool) : ckOk .bool (.bool b) = true := rfl
@[go_sem] theorem eqCells_nil : eqCells [] [] = true := rfl
@[go_sem] theorem eqCells_cons (a b : V) (x y : List V) : eqCells (a :: x) (b :: y) = (eqCell a b && eqCells x y) := rfl
@[go_sem] theorem eqCell_int (k k' : IntKind) (a b : Int) : eqCell (.int k a) (.int k' b) = decide (a = b) := by simp [eqCell]; rfl
@[go_sem] theorem eqCell_bool (a b : Bool) : eqCell (.bool a) (.bool b) = (a == b) := rfl
@[go_sem] theorem eqCell_str (a b : List UInt8) : eqCell (.str a) (.str b) = decide (a = b) := by
 by_cases h : a = b <;> simp [eqCell, h]
theorem buildArr_eq {t e : TypeId} {n sz : Nat} {z : List V} (hu : P.underlying t = some (.array n e)) (he : szOf P e = some sz) (hz : zeroV P t = some (.agg z)) (ps : List (Nat × V)) : buildV P t ps = (fillV (fun i => some (i * sz, sz)) z ps).map V.agg := by
 unfold buildV
 simp only [hu, hz, Option.bind_some, V.cells, he]
theorem bs_zero {t e : TypeId} {sz : Nat} {zv : V} (hu : P.underlying t = some (.slice e)) (hz : szOf P e = some sz) (hv : zeroV P e = some zv) (hl : zv.cells.length = sz) (hs : 0 < sz) : buildSliceV P t 0 [] H = some (.slice H.length 0 0 0 sz .full, H ++ [.row 0 [] true]) := by
 unfold buildSliceV
 simp only [hu, hz, hv, Option.bind_some]
 rw [if_pos ⟨hl, hs, by omega⟩]
 rfl
theorem bs_gen {t e : TypeId} {sz len : Nat} {zv : V} (hu : P.underlying t = some (.slice e)) (hz : szOf P e = some sz) (hv : zeroV P e = some zv) (hl : zv.cells.length = sz) (hs : 0 < sz) (hs2 : len * sz ≤ 2 ^ 24) (ps : List (Nat × V)) : buildSliceV P t len ps H = (fillV (fun i => some (i * sz, sz)) (repeatV zv.cells len) ps).bind fun cs => if cs.all V.isCell = true then some (.slice H.length 0 0 len sz .full, H ++ [.row 0 cs true]) else none := by
 unfold buildSliceV
 simp only [hu, hz, hv, Option.bind_some]
 rw [if_pos ⟨hl, hs, hs2⟩]
@[go_sem] theorem repeatV_0 (z : List V) : repeatV z 0 = [] := rfl
@[go_sem] theorem repeatV_S (z : List V) (n : Nat) : repeatV z (n + 1) = z ++ repeatV z n := rfl
variable {Pr : Prims}
theorem call_eq {k n : Nat} {fn : Func} {code : Code} {c : Cc} (hp : Pr.call k = none) (hf : P.funcs[k]? = some fn) (hb : fn.body = some code) (hc : compC P n code = some c) {rs : List ResultVar} (hr : fn.results.toList = rs) {args : List V} (hn : max args.length fn.ntmps = n) {r : V × Hp}
  (h : Wp P (callL P Pr) n c args [] H (RetQ P rs fun v H' => Pr.gc k H (v, H') = r)) (hk : k ≠ Y0 := by decide) (hu : Orc.pure k = false := by rfl) : callL P Pr k args H = some r := by
 obtain ⟨v, H', h1, h2⟩ := call_of hp hf hb hc hr hn h hk hu
 rw [h2, h1]
theorem call_ex {k n : Nat} {fn : Func} {code : Code} {c : Cc} (hp : Pr.call k = none) (hf : P.funcs[k]? = some fn) (hb : fn.body = some code) (hc : compC P n code = some c) {rs : List ResultVar} (hr : fn.results.toList = rs) {args : List V} (hn : max args.length fn.ntmps = n) {R : V × Hp → Prop}
  (h : Wp P (callL P Pr) n c args [] H (RetQ P rs fun v H' => R (Pr.gc k H (v, H')))) (hk : k ≠ Y0 := by decide) (hu : Orc.pure k = false := by rfl) : ∃ r, callL P Pr k args H = some r ∧ R r := by
 obtain ⟨v, H', h1, h2⟩ := call_of hp hf hb hc hr hn h hk hu
 exact ⟨_, h2, h1⟩
theorem callB_ex {k n : Nat} {fn : Func} {code : Code} {c : Cc} (hf : P.funcs[k]? = some fn) (hb : fn.body = some code) (hc : compC P n code = some c) {rs : List ResultVar} (hr : fn.results.toList = rs) {args : List V} (hn : max args.length fn.ntmps = n) {R : V × Hp → Prop}
  (h : Wp P (callL P Pr) n c args [] H (RetQ P rs fun v H' => R (Pr.gc k H (v, H')))) : ∃ r, callB P Pr k args H = some r ∧ R r := by
 obtain ⟨v, H', h1, h2⟩ := callB_of hf hb hc hr hn h
 exact ⟨_, h2, h1⟩
def markV (a : List V) (H : Hp) : Option Hp :=
 match a with
 | [.ptr id 0 0] => match H[id]? with
  | some (.dfr true) => some (H.set id (.dfr false))
  | _ => none
 | _ => none
def dfrs (Pr : Prims) : Dfr → Hp → Option Hp
 | [], H => some H
 | d :: D, H => if d.1 = Y0 then (markV d.2 H).bind (dfrs Pr D) else (Pr.dfr d.1).bind fun p => (p d.2 H).bind (dfrs Pr D)
theorem dfrs_mark (a : List V) (D : Dfr) : dfrs Pr ((Y0, a) :: D) H = (markV a H).bind (dfrs Pr D) := if_pos rfl
theorem dfrs_fn {k : Nat} (hk : k ≠ Y0) (a : List V) (D : Dfr) : dfrs Pr ((k, a) :: D) H = (Pr.dfr k).bind fun p => (p a H).bind (dfrs Pr D) := if_neg hk
theorem dfrs_eq {code : Nat → CodeT} : ∀ {D : Dfr} {H H' : Hp}, dfrs Pr D H = some H' → defersV P Pr code D H = some H'
 | [], H, H', h => by simpa [dfrs, defersV] using h
 | d :: D, H, H', h => by
  unfold dfrs at h
  unfold defersV
  split at h
  ·rename_i hk
   obtain ⟨H1, h3, h4⟩ := Option.bind_eq_some_iff.1 h
   have : callD P Pr code d.1 d.2 H = some H1 := by
    unfold callD
    rw [if_pos hk]
    unfold markV at h3
    exact h3
   simp only [this, Option.bind_some]
   exact dfrs_eq h4
  ·rename_i hk
   obtain ⟨p, h1, h2⟩ := Option.bind_eq_some_iff.1 h
   obtain ⟨H1, h3, h4⟩ := Option.bind_eq_some_iff.1 h2
   have : callD P Pr code d.1 d.2 H = some H1 := by
    unfold callD
    rw [if_neg hk]
    simp only [h1, h3]
   simp only [this, Option.bind_some]
   exact dfrs_eq h4
def RetD (P : Program) (Pr : Prims) (rs : List ResultVar) (R : V → Hp → Prop) : Ex → Fr → Dfr → Hp → Prop
 | .exit _, _, _, _ => False
 | _, T, D, H => bindW (dfrs Pr D H) fun H' => bindW ((mapO (resV P H' T) rs).bind tupV) fun v => R v H'
@[go_sem] theorem RetD_ret (rs : List ResultVar) (K : V → Hp → Prop) (T : Fr) (D : Dfr) : RetD P Pr rs K .ret T D H = bindW (dfrs Pr D H) fun H' => bindW ((mapO (resV P H' T) rs).bind tupV) fun v => K v H' := rfl
@[go_sem] theorem RetD_nor (rs : List ResultVar) (K : V → Hp → Prop) (T : Fr) (D : Dfr) : RetD P Pr rs K .nor T D H = bindW (dfrs Pr D H) fun H' => bindW ((mapO (resV P H' T) rs).bind tupV) fun v => K v H' := rfl
@[go_sem] theorem dfrs_nil : dfrs Pr [] H = some H := rfl
theorem call_ofD {k n : Nat} {fn : Func} {code : Code} {c : Cc} (hp : Pr.call k = none) (hf : P.funcs[k]? = some fn) (hb : fn.body = some code) (hc : compC P n code = some c) {rs : List ResultVar} (hr : fn.results.toList = rs) {args : List V} (hn : max args.length fn.ntmps = n) {R : V → Hp → Prop}
  (h : Wp P (callL P Pr) n c args [] H (RetD P Pr rs R)) (hk : k ≠ Y0 := by decide) (hu : Orc.pure k = false := by rfl) : ∃ v H', R v H' ∧ callL P Pr k args H = some (Pr.gc k H (v, H')) := by
 rw [callL_B hp hk hu]
 obtain ⟨e, s', h1, h2⟩ := h
 have hrun := Big_code h1 code hc
 cases e with
 | exit id => exact h2.elim
 | nor =>
  obtain ⟨H1, hD, v, hv, hR⟩ := h2
  refine ⟨v, H1, hR, ?_⟩
  unfold callB bodyF
  simp only [hf, hb, Option.bind_some, hn, hrun, dfrs_eq hD]
  unfold resultsV
  rw [hr, hv]
  rfl
 | ret =>
  obtain ⟨H1, hD, v, hv, hR⟩ := h2
  refine ⟨v, H1, hR, ?_⟩
  unfold callB bodyF
  simp only [hf, hb, Option.bind_some, hn, hrun, dfrs_eq hD]
  unfold resultsV
  rw [hr, hv]
  rfl
theorem call_exD {k n : Nat} {fn : Func} {code : Code} {c : Cc} (hp : Pr.call k = none) (hf : P.funcs[k]? = some fn) (hb : fn.body = some code) (hc : compC P n code = some c) {rs : List ResultVar} (hr : fn.results.toList = rs) {args : List V} (hn : max args.length fn.ntmps = n) {R : V × Hp → Prop}
  (h : Wp P (callL P Pr) n c args [] H (RetD P Pr rs fun v H' => R (Pr.gc k H (v, H')))) (hk : k ≠ Y0 := by decide) (hu : Orc.pure k = false := by rfl) : ∃ r, callL P Pr k args H = some r ∧ R r := by
 obtain ⟨v, H', h1, h2⟩ := call_ofD hp hf hb hc hr hn h hk hu
 exact ⟨_, h2, h1⟩
theorem call_eqD {k n : Nat} {fn : Func} {code : Code} {c : Cc} (hp : Pr.call k = none) (hf : P.funcs[k]? = some fn) (hb : fn.body = some code) (hc : compC P n code = some c) {rs : List ResultVar} (hr : fn.results.toList = rs) {args : List V} (hn : max args.length fn.ntmps = n) {r : V × Hp}
  (h : Wp P (callL P Pr) n c args [] H (RetD P Pr rs fun v H' => Pr.gc k H (v, H') = r)) (hk : k ≠ Y0 := by decide) (hu : Orc.pure k = false := by rfl) : callL P Pr k args H = some r := by
 obtain ⟨v, H', h1, h2⟩ := call_ofD hp hf hb hc hr hn h hk hu
 rw [h2, h1]
end
end Go.An
namespace Go.An
open Go Go.RowKit
section
variable [Orc]
variable {P : Program}
def structTys (P : Program) (t : TypeId) : Option (List TypeId) := match P.underlying t with
 | some (.struct fs) => some (fs.toList.map (·.type))
 | _ => none
def RdTs (P : Program) (m : Nat) : List TypeId → List (List V) → Prop
 | [], [] => True
 | t :: ts, x :: xs => (x.length = P.cellsOf t ∧ RdT P m t x) ∧ RdTs P m ts xs
 | _, _ => False
theorem rdTs_of {m : Nat} : ∀ {fs : List Field} {xss : List (List V)}, xss.length = fs.length → (∀ (i : Nat) (fld : Field) (x : List V), fs[i]? = some fld → xss[i]? = some x → x.length = P.cellsOf fld.type ∧ RdT P m fld.type x) → RdTs P m (fs.map (·.type)) xss
 | [], [], _, _ => trivial
 | f :: fs, x :: xss, hl, h => ⟨h 0 f x rfl rfl, rdTs_of (by simpa using hl) fun i fld y h1 h2 => h (i + 1) fld y (by simpa using h1) (by simpa using h2)⟩
 | [], _ :: _, hl, _ => by simp at hl
 | _ :: _, [], hl, _ => by simp at hl
theorem rd_parts {m : Nat} {t : TypeId} {ts : List TypeId} {xs : List V} (hu : structTys P t = some ts) (h : RdT P (m + 1) t xs) : ∃ xss, xs = xss.flatten ∧ RdTs P m ts xss := by
 unfold structTys at hu
 split at hu
 ·rename_i fs hs
  injection hu with hu
  subst hu
  obtain ⟨xss, h1, h2, h3⟩ := rd_struct hs h
  exact ⟨xss, h1, rdTs_of (by simpa using h2) fun i fld x h4 h5 => h3 i fld x (by simpa using h4) h5⟩
 ·cases hu
theorem rdTs_cons {m : Nat} {t : TypeId} {ts : List TypeId} {xss : List (List V)} (h : RdTs P m (t :: ts) xss) : ∃ x l, xss = x :: l ∧ RdT P m t x ∧ RdTs P m ts l := by
 cases xss with
 | nil => exact h.elim
 | cons x l => exact ⟨x, l, rfl, h.1.2, h.2⟩
theorem rdTs_nil {m : Nat} {xss : List (List V)} (h : RdTs P m [] xss) : xss = [] := by
 cases xss with
 | nil => rfl
 | cons x l => exact h.elim
def Inx (n : Int) : Prop := -9223372036854775808 ≤ n ∧ n ≤ 9223372036854775807
theorem rd_i64 {m : Nat} {t : TypeId} {xs : List V} (hu : P.underlying t = some (.int .i64)) (h : RdT P (m + 1) t xs) : ∃ n, xs = [.int .i64 n] ∧ Inx n := by
 obtain ⟨n, e, hw⟩ := rd_int hu h
 exact ⟨n, e, by simpa [Inx, Lit.wf, IntKind.min, IntKind.max, IntKind.signed, IntKind.bits] using hw⟩
theorem rd_u8 {m : Nat} {t : TypeId} {xs : List V} (hu : P.underlying t = some (.int .u8)) (h : RdT P (m + 1) t xs) : ∃ n : UInt8, xs = [.int .u8 n.toNat] := by
 obtain ⟨n, e, hw⟩ := rd_int hu h
 have hr : 0 ≤ n ∧ n ≤ 255 := by simpa [Lit.wf, IntKind.min, IntKind.max, IntKind.signed, IntKind.bits] using hw
 refine ⟨UInt8.ofNat n.toNat, ?_⟩
 rw [e, UInt8.toNat_ofNat', Nat.mod_eq_of_lt (by omega)]
 congr 2
 omega
theorem dec_list {α : Type} {m : Nat} {e : TypeId} {enc : α → List V} {Ok : α → Prop} (dec : ∀ x, RdT P m e x → ∃ a, x = enc a ∧ Ok a) : ∀ (xss : List (List V)), (∀ x ∈ xss, x.length = P.cellsOf e ∧ RdT P m e x) → ∃ l : List α, xss = l.map enc ∧ ∀ a ∈ l, Ok a
 | [], _ => ⟨[], rfl, by simp⟩
 | x :: xss, h => by
  obtain ⟨l, rfl, hl⟩ := dec_list dec xss fun y hy => h y (by simp [hy])
  obtain ⟨a, rfl, ha⟩ := dec x (h x (by simp)).2
  refine ⟨a :: l, rfl, fun b hb => ?_⟩
  rcases List.mem_cons.1 hb with rfl | hb
  ·exact ha
  ·exact hl b hb
theorem rd_list {α : Type} {m : Nat} {t e : TypeId} {E : Enc α} {Ok : α → Prop} (hu : P.underlying t = some (.slice e)) (hc : P.cellsOf e = E.w) (dec : ∀ x, RdT P m e x → ∃ a, x = E.f a ∧ Ok a) {xs : List V} (h : RdT P (m + 1) t xs) :
  ∃ (b : Bool) (l : List α), xs = [slV b E l] ∧ (∀ a ∈ l, Ok a) ∧ l.length * P.bytesOf e ≤ reachBytes ∧ l.length ≤ maxLen := by
 rcases rd_slice hu h with rfl | ⟨xss, rfl, h1, h2, h3⟩
 ·exact ⟨true, [], rfl, by simp, by simp, by simp⟩
 ·obtain ⟨l, rfl, hl⟩ := dec_list dec xss h3
  rw [List.length_map] at h1 h2
  exact ⟨false, l, by simp [slV, flatE, hc], hl, h1, h2⟩
theorem arg_list {α : Type} {m : Nat} {t e : TypeId} {E : Enc α} {Ok : α → Prop} (hu : P.underlying t = some (.slice e)) (hc : P.cellsOf e = E.w) (dec : ∀ x, RdT P m e x → ∃ a, x = E.f a ∧ Ok a) {x : V} (h : ArgT P (m + 1) t x) :
  ∃ (b : Bool) (l : List α), x = slV b E l ∧ (∀ a ∈ l, Ok a) ∧ l.length * P.bytesOf e ≤ reachBytes ∧ l.length ≤ maxLen := by
 unfold ArgT at h
 rw [hu] at h
 obtain ⟨b, l, e, r⟩ := rd_list hu hc dec h
 injection e with e
 exact ⟨b, l, e, r⟩
theorem arg_i64 {m : Nat} {t : TypeId} {x : V} (hu : P.underlying t = some (.int .i64)) (h : ArgT P (m + 1) t x) : ∃ n, x = .int .i64 n ∧ Inx n := by
 unfold ArgT at h; rw [hu] at h
 obtain ⟨n, e, hw⟩ := rd_i64 hu h
 injection e with e
 exact ⟨n, e, hw⟩
theorem rd_bytes {m : Nat} {t e : TypeId} (hu : P.underlying t = some (.slice e)) (he : P.underlying e = some (.int .u8)) (hc : P.cellsOf e = 1) {xs : List V} (h : RdT P (m + 2) t xs) :
  ∃ (b : Bool) (l : List UInt8), xs = [slV b byE l] ∧ (∀ b ∈ l, True) ∧ l.length * P.bytesOf e ≤ reachBytes ∧ l.length ≤ maxLen :=
 rd_list (m := m + 1) (E := byE) (Ok := fun _ => True) hu hc (fun _ hx => let ⟨n, e⟩ := rd_u8 (m := m) he hx; ⟨n, e, trivial⟩) h
theorem arg_bytes {m : Nat} {t e : TypeId} (hu : P.underlying t = some (.slice e)) (he : P.underlying e = some (.int .u8)) (hc : P.cellsOf e = 1) {x : V} (h : ArgT P (m + 2) t x) :
  ∃ (b : Bool) (l : List UInt8), x = slV b byE l ∧ (∀ b ∈ l, True) ∧ l.length * P.bytesOf e ≤ reachBytes ∧ l.length ≤ maxLen :=
 arg_list (m := m + 1) (E := byE) (Ok := fun _ => True) hu hc (fun _ hx => let ⟨n, e⟩ := rd_u8 (m := m) he hx; ⟨n, e, trivial⟩) h
theorem arg_ints {m : Nat} {t e : TypeId} (hu : P.underlying t = some (.slice e)) (he : P.underlying e = some (.int .i64)) (hc : P.cellsOf e = 1) {x : V} (h : ArgT P (m + 2) t x) :
  ∃ (b : Bool) (l : List Int), x = slV b inE l ∧ (∀ b ∈ l, Inx b) ∧ l.length * P.bytesOf e ≤ reachBytes ∧ l.length ≤ maxLen :=
 arg_list (m := m + 1) (E := inE) (Ok := Inx) hu hc (fun _ hx => rd_i64 (m := m) he hx) h
theorem maxLen_eq : maxLen = 9223372036854775807 := rfl
theorem arg_struct {m : Nat} {t : TypeId} {fs : Array Field} {x : V} (hu : P.underlying t = some (.struct fs)) (h : ArgT P m t x) : ∃ xs, x = .agg xs ∧ RdT P m t xs := by
 unfold ArgT at h; rw [hu] at h; exact h
theorem byE_w : byE.w = 1 := rfl
theorem inE_w : inE.w = 1 := rfl
theorem boE_w : boE.w = 1 := rfl
theorem stE_w : stE.w = 1 := rfl
def findI {α : Type} (p : α → Bool) : List α → Int → Int
 | [], _ => -1
 | x :: xs, i => if p x then i else findI p xs (i + 1)
theorem findI_any {α : Type} (p : α → Bool) : ∀ (xs : List α) (i : Int), 0 ≤ i → decide (0 ≤ findI p xs i) = xs.any p
 | [], i, _ => rfl
 | x :: xs, i, h => by
  unfold findI
  by_cases hp : p x = true
  ·simp [hp, h]
  ·rw [if_neg hp, findI_any p xs (i + 1) (by omega)]
   simp [hp]
theorem findI_drop {α : Type} (p : α → Bool) {xs : List α} {i : Nat} {x : α} (hx : xs[i]? = some x) (n : Int) : findI p (xs.drop i) n = if p x then n else findI p (xs.drop (i + 1)) (n + 1) := by
 obtain ⟨h1, rfl⟩ := List.getElem?_eq_some_iff.1 hx
 rw [List.drop_eq_getElem_cons h1]
 rfl
section
variable {α : Type} {H : Hp} (E : Enc α) (a : α)
@[go_sem] theorem Enc.load (t : TypeId) (off : Nat) : loadV P t H (.ipt (E.f a) off) = partV P t (E.f a) off := rfl
@[go_sem] theorem Enc.part (t : TypeId) (off : Nat) : partV P t (E.f a) off = partK (aggT P t) (szOf P t) (E.f a) off := rfl
theorem partK_all {cs : List V} {n : Nat} (h : cs.length = n) : partK (some true) (some n) cs 0 = some (.agg cs) := by
 subst h
 simp [partK]
@[go_sem] theorem Enc.immLs : immL (E.f a) = true := E.imm a
@[go_sem] theorem Enc.all : (E.f a).all V.isCell = true := immL_cells (E.imm a)
theorem eqC_imm {v : V} (h : v.imm = true) : eqC v v = true := by
 cases v <;> simp [V.imm] at h <;> simp [eqC, eqBase, eqIL_refl]
theorem eqList_imm : ∀ {l : List V}, immL l = true → eqList eqC l l = true
 | [], _ => rfl
 | v :: l, h => by
  have h1 := immL_iff.1 h
  rw [eqList, eqC_imm (h1 v (by simp)), eqList_imm (immL_iff.2 fun x hx => h1 x (by simp [hx]))]
  rfl
@[go_sem] theorem Enc.eqL : eqList eqC (E.f a) (E.f a) = true := eqList_imm (E.imm a)
theorem inlC_imm {n f : Nat} {v : V} (h : v.imm = true) : inlC n H (f + 1) v = some v := by
 rw [← inlB_imm (n := n) (H' := H) (f := f) h]
 cases v <;> simp [V.imm] at h <;> rfl
theorem mapO_immC {n f : Nat} {cs : List V} (h : immL cs = true) : mapO (inlC n H (f + 1)) cs = some cs := by
 induction cs with
 | nil => rfl
 | cons v l ih =>
  have h1 := immL_iff.1 h
  rw [mapO_cons, inlC_imm (h1 v (by simp)), ih (immL_iff.2 fun x hx => h1 x (by simp [hx]))]
  rfl
@[go_sem] theorem Enc.mapO {n f : Nat} : An.mapO (inlC n H (f + 1)) (E.f a) = some (E.f a) := mapO_immC (E.imm a)
@[go_sem] theorem Enc.mapOB {n f : Nat} : An.mapO (inlB n H (f + 1)) (E.f a) = some (E.f a) := mapO_imm (E.imm a)
end
theorem guardQ_ite {cl : CallT} {N n0 : Nat} {b w2 w : Bool} {v1 v2 : V} {sf : Prop} {x : Option (V × Dfr × Hp)} {d : Option Nat} {a : Bool} {rs : List (Option (Nat × Bool) × Op)} {rest : List Co} {T : Fr} {D : Dfr} {H : Hp} {Q : Fr → Dfr → Hp → Prop}
  (h1 : b = true → guardQ P cl N n0 (iteB true w2 v1 v2) w sf x d a rs rest T D H Q) (h2 : b = false → guardQ P cl N n0 (iteB false w2 v1 v2) w sf x d a rs rest T D H Q) : guardQ P cl N n0 (iteB b w2 v1 v2) w sf x d a rs rest T D H Q := by
 cases b
 ·exact h2 rfl
 ·exact h1 rfl
theorem bl_one {α : Type} {H : Hp} {n g w by_ : Nat} (E : Enc α) (ys : List α) (y : α) (hn : n = H.length) (hw : E.w = w) (hb : (ys.length + 1) * by_ ≤ 2 ^ 40) (hb2 : ys.length + 1 ≤ 2 ^ 40) :
  appOf w by_ (H ++ blH g (ys.map E.f)) (blV n g w (ys.map E.f)) (.isl (E.f y) 1 w) = some (blV n (blG g (ys.map E.f)) w ((ys ++ [y]).map E.f), H ++ blH (blG g (ys.map E.f)) ((ys ++ [y]).map E.f)) := by
 rw [bl_push hn hw ((E.len y).trans hw) (immL_cells (E.imm y)) hb hb2]
 simp
theorem flatE_app {α : Type} (E : Enc α) (l m : List α) : flatE E (l ++ m) = flatE E l ++ flatE E m := by simp [flatE]
theorem flatE_cells {α : Type} (E : Enc α) (l : List α) : (flatE E l).all V.isCell = true := immL_cells flatE_imm
theorem bl_all {α : Type} {H : Hp} {n g w by_ : Nat} (E : Enc α) (ys zs : List α) (b : Bool) (hn : n = H.length) (hw : E.w = w) (hb : (ys.length + zs.length) * by_ ≤ 2 ^ 40) (hb2 : ys.length + zs.length ≤ 2 ^ 40) :
  appOf w by_ (H ++ blH g (ys.map E.f)) (blV n g w (ys.map E.f)) (slV b E zs) = some (blV n (if zs = [] then g else blG g (ys.map E.f)) w ((ys ++ zs).map E.f), H ++ blH (if zs = [] then g else blG g (ys.map E.f)) ((ys ++ zs).map E.f)) := by
 subst hw hn
 have hp := E.pos
 have hxl := ls_len (enc_ls E ys)
 rw [List.length_map] at hxl
 have hzl : (flatE E zs).length = zs.length * E.w := flatE_len
 unfold appOf
 rw [src_slV]
 simp only [Option.bind_some]
 rw [if_pos ⟨hzl, flatE_cells E zs⟩]
 by_cases hz : zs = []
 ·subst hz
  simp only [List.length_nil, if_true, List.append_nil]
  unfold blV blH
  by_cases h : ys.map E.f = []
  ·simp [h]
  ·have hr : getRow (H ++ [AB.row g (ys.map E.f).flatten true]) H.length g = some ((ys.map E.f).flatten, true) := getRow_last g _ true
   simp only [if_neg h, hr, Option.bind_some, List.length_map, Nat.add_zero]
   rw [if_pos ⟨trivial, by simpa using hb, by simpa using hb2, by omega⟩]
 ·have hz0 : 0 < zs.length := by
   cases zs with
   | nil => exact absurd rfl hz
   | cons => simp
  have hne : ¬ ((ys ++ zs).map E.f = []) := by
   intro e
   simp only [List.map_eq_nil_iff, List.append_eq_nil_iff] at e
   exact hz e.2
  simp only [if_neg hz, blV, blH, blG, if_neg hne]
  by_cases h : ys.map E.f = []
  ·have h' : ys = [] := by simpa using h
   subst h'
   simp only [List.map_nil, List.length_nil, Nat.zero_add, if_true, List.nil_append, List.append_nil] at hb hb2 ⊢
   rw [if_neg (show ¬ zs.length = 0 by omega), if_pos ⟨hb, hb2⟩]
   simp [flatE]
  ·simp only [if_neg h]
   have hr : getRow (H ++ [AB.row g (ys.map E.f).flatten true]) H.length g = some ((ys.map E.f).flatten, true) := getRow_last g _ true
   have hzw : 0 < zs.length * E.w := Nat.mul_pos hz0 hp
   rw [hr]
   simp only [Option.bind_some, List.length_map]
   rw [if_pos ⟨trivial, hb, hb2, by omega⟩, if_neg (show ¬ zs.length = 0 by omega), if_pos trivial, if_neg (by rw [hxl, Nat.add_mul]; omega), if_pos (by omega)]
   simp [flatE]
end
end Go.An
namespace Go.An
open Go
section
variable [Orc]
variable {P : Program} {H L : Hp} {k g : Nat}
theorem getRow_of {cs : List V} {o : Bool} (h : H[k]? = some (.row g cs o)) : getRow H k g = some (cs, o) := by simp [getRow, h]
theorem getRow_app' (h : k < H.length) : getRow (H ++ L) k g = getRow H k g := getRow_app h
theorem getRow_setS {cs : List V} {o : Bool} (h : k < H.length) : getRow (H.set k (.row g cs o)) k g = some (cs, o) := by simp [getRow, h]
theorem getRow_setO {j : Nat} {b : AB} (h : j ≠ k) : getRow (H.set j b) k g = getRow H k g := by simp [getRow, h]
theorem set_app {b : AB} (h : k < H.length) : (H ++ L).set k b = H.set k b ++ L := List.set_append_left k b h
theorem set_len {b : AB} : (H.set k b).length = H.length := List.length_set
theorem get_last {A : Hp} {b : AB} {n : Nat} (h : n = A.length) : (A ++ [b])[n]? = some b := by subst h; simp
theorem getRow_lastN {n : Nat} {A : Hp} {cs : List V} {o : Bool} (h : n = A.length) : getRow (A ++ [.row g cs o]) n g = some (cs, o) := by subst h; exact getRow_last g cs o
theorem set_lastN {n : Nat} {A : Hp} {b b' : AB} (h : n = A.length) : (A ++ [b]).set n b' = A ++ [b'] := by subst h; exact set_last b b'
def putQ (x : Option V) (y : Option AB) (H : Hp) (k : Nat) (r : V × Hp) : Prop := ∃ v b, x = some v ∧ y = some b ∧ (v, H.set k b) = r
@[go_sem] theorem putQ_some (v : V) (b : AB) (r : V × Hp) : putQ (some v) (some b) H k r = ((v, H.set k b) = r) := by simp [putQ]
@[go_sem] theorem inlK_row (n : Nat) (H' : Hp) (f : Nat) (cs : List V) (o : Bool) : inlK n H' f (.row g cs o) = (mapO (inlC n H' f) cs).map fun xs => .row g xs o := rfl
theorem gcF_put {v v' : V} {b0 b b' : AB} {H' : Hp} (h0 : H[k]? = some b0) (hb0 : inlK H.length H' 8 b0 = some b0) (h : ∀ id, id < H.length → id ≠ k → H'[id]? = H[id]?) (hb : H'[k]? = some b) (hv : inlR H.length H' 8 v = some v') (hi : inlK H.length H' 8 b = some b') : gcF H (v, H') = (v', H.set k b') := by
 have hk : k < H.length := (List.getElem?_eq_some_iff.1 h0).1
 have key : ∀ n, n ≤ H.length → mapO (frzK H H') (List.range n) = some ((H.set k b').take n) := by
  have app : ∀ (l : List Nat) (j : Nat) (r : List AB) (b : AB), mapO (frzK H H') l = some r → frzK H H' j = some b → mapO (frzK H H') (l ++ [j]) = some (r ++ [b]) := by
   intro l
   induction l with
   | nil =>
    intro k r b h1 h2
    simp only [mapO, Option.some.injEq] at h1
    subst h1
    simp [mapO, h2]
   | cons x l ih =>
    intro k r b h1 h2
    simp only [mapO] at h1
    obtain ⟨y, h3, h4⟩ := Option.bind_eq_some_iff.1 h1
    obtain ⟨ys, h5, rfl⟩ := Option.map_eq_some_iff.1 h4
    rw [List.cons_append]
    simp only [mapO, h3, Option.bind_some]
    rw [ih k ys b h5 h2]
    rfl
  intro n
  induction n with
  | zero => intro _; rfl
  | succ n ih =>
   intro hn
   rw [List.range_succ, app _ n _ (if n = k then b' else (H[n]'(by omega))) (ih (by omega)) ?_]
   ·rw [List.take_add_one, List.getElem?_set]
    by_cases e : n = k
    ·subst e; simp [hk]
    ·rw [if_neg e, if_neg (fun x => e x.symm), List.getElem?_eq_getElem (by omega)]
     rfl
   ·unfold frzK
    by_cases e : n = k
    ·subst e
     rw [if_pos rfl]
     split
     ·rename_i h2
      rw [hb, h0] at h2
      injection h2 with h2
      subst h2
      rw [hb0] at hi
      injection hi with hi
      rw [h0, hi]
     ·rw [hb]
      split
      ·rename_i e1 e2
       injection e2 with e2
       rw [e2] at hi
       cases hi
      ·exact hi
    ·rw [if_neg e, if_pos (h n (by omega) e), List.getElem?_eq_getElem (by omega)]
 unfold gcF
 have := key H.length (Nat.le_refl _)
 rw [List.take_of_length_le (by simp)] at this
 simp only [hv, this]
theorem gcF_set {v : V} {b0 b : AB} {r : V × Hp} (h0 : H[k]? = some b0) (hb0 : inlK H.length (H.set k b ++ L) 8 b0 = some b0) (h : putQ (inlR H.length (H.set k b ++ L) 8 v) (inlK H.length (H.set k b ++ L) 8 b) H k r) : gcF H (v, H.set k b ++ L) = r := by
 obtain ⟨v', b', h1, h2, rfl⟩ := h
 have hk : k < H.length := (List.getElem?_eq_some_iff.1 h0).1
 refine gcF_put h0 hb0 (fun id hid hne => ?_) ?_ h1 h2
 ·rw [List.getElem?_append_left (by simpa using hid), List.getElem?_set, if_neg (fun e => hne e.symm)]
 ·rw [List.getElem?_append_left (by simpa using hk), List.getElem?_set, if_pos rfl, if_pos hk]
theorem gcF_set0 {v : V} {b0 b : AB} {r : V × Hp} (h0 : H[k]? = some b0) (hb0 : inlK H.length (H.set k b) 8 b0 = some b0) (h : putQ (inlR H.length (H.set k b) 8 v) (inlK H.length (H.set k b) 8 b) H k r) : gcF H (v, H.set k b) = r := by
 have := gcF_set (L := []) (b := b) (v := v) (r := r) h0 (by rwa [List.append_nil]) (by rwa [List.append_nil])
 rwa [List.append_nil] at this
theorem gcF_set2 {v : V} {b0 b : AB} {r : V × Hp} {L1 L2 : Hp} (h0 : H[k]? = some b0) (hb0 : inlK H.length (H.set k b ++ L1 ++ L2) 8 b0 = some b0) (h : putQ (inlR H.length (H.set k b ++ L1 ++ L2) 8 v) (inlK H.length (H.set k b ++ L1 ++ L2) 8 b) H k r) : gcF H (v, H.set k b ++ L1 ++ L2) = r := by
 rw [List.append_assoc] at hb0 h ⊢
 exact gcF_set h0 hb0 h
theorem gcF_set3 {v : V} {b0 b : AB} {r : V × Hp} {L1 L2 L3 : Hp} (h0 : H[k]? = some b0) (hb0 : inlK H.length (H.set k b ++ L1 ++ L2 ++ L3) 8 b0 = some b0) (h : putQ (inlR H.length (H.set k b ++ L1 ++ L2 ++ L3) 8 v) (inlK H.length (H.set k b ++ L1 ++ L2 ++ L3) 8 b) H k r) : gcF H (v, H.set k b ++ L1 ++ L2 ++ L3) = r := by
 rw [List.append_assoc] at hb0 h ⊢
 exact gcF_set2 h0 hb0 h
theorem gcF_set4 {v : V} {b0 b : AB} {r : V × Hp} {L1 L2 L3 L4 : Hp} (h0 : H[k]? = some b0) (hb0 : inlK H.length (H.set k b ++ L1 ++ L2 ++ L3 ++ L4) 8 b0 = some b0) (h : putQ (inlR H.length (H.set k b ++ L1 ++ L2 ++ L3 ++ L4) 8 v) (inlK H.length (H.set k b ++ L1 ++ L2 ++ L3 ++ L4) 8 b) H k r) : gcF H (v, H.set k b ++ L1 ++ L2 ++ L3 ++ L4) = r := by
 rw [List.append_assoc] at hb0 h ⊢
 exact gcF_set3 h0 hb0 h
@[go_sem] theorem inlC_slice (n : Nat) (H' : Hp) (f id g off m sz : Nat) (cp : Cap) : inlC n H' f (.slice id g off m sz cp) = inlB n H' f (.slice id g off m sz cp) := rfl
theorem bl_nil {α : Type} {w by_ : Nat} (E : Enc α) (zs : List α) (b : Bool) (hw : E.w = w) (hb : zs.length * by_ ≤ 2 ^ 40) (hb2 : zs.length ≤ 2 ^ 40) :
  appOf w by_ H .nilslice (slV b E zs) = some (blV H.length 0 w (zs.map E.f), H ++ blH 0 (zs.map E.f)) := by
 have := bl_all (H := H) (n := H.length) (g := 0) (w := w) (by_ := by_) E [] zs b rfl hw (by simpa using hb) (by simpa using hb2)
 simp only [List.map_nil, blV_nil, blH_nil, List.append_nil, List.nil_append] at this
 rw [this]
 by_cases h : zs = [] <;> simp [h, blG]
theorem inlC_bl {α : Type} {E : Enc α} {n m g w f : Nat} {ys : List α} {A : Hp} (hm : m = A.length) (hn : n ≤ m) (hw : E.w = w) : inlC n (A ++ blH g (ys.map E.f)) (f + 2) (blV m g w (ys.map E.f)) = some (slV true E ys) := by
 rw [inlC_blV]
 exact inlB_bl0 hm hn hw
theorem cut_sl {t : TypeId} {sz id off n : Nat} {cp : Cap} {kk kk' : IntKind} {lo hi : Int} (ht : sliceT P t sz = true) (h : 0 ≤ lo ∧ lo ≤ hi ∧ hi ≤ (n : Int)) : sliceV P t H (.slice id g off n sz cp) (some (.int kk lo)) (some (.int kk' hi)) = some (.slice id g (off + lo.toNat * sz) (hi.toNat - lo.toNat) sz (cutCap cp lo.toNat)) := by
 unfold sliceT at ht
 split at ht
 ·rename_i e hu
  have hz : szOf P e = some sz := by simpa using ht
  simp only [sliceV, hu, boundV, Option.bind_some]
  rw [if_pos ⟨hz, h.1, h.2.1, h.2.2⟩]
 ·cases ht
theorem hi_sl {t : TypeId} {sz id off n : Nat} {cp : Cap} {lo : Option V} (ht : sliceT P t sz = true) : sliceV P t H (.slice id g off n sz cp) lo none = sliceV P t H (.slice id g off n sz cp) lo (some (.int .i64 n)) := by
 unfold sliceT at ht
 split at ht
 ·rename_i e hu
  simp only [sliceV, hu, boundV]
 ·cases ht
theorem src_sl {id off n sz : Nat} {cp : Cap} {cs : List V} {o : Bool} (h : getRow H id g = some (cs, o)) (hl : off + n * sz ≤ cs.length) : srcCells H (.slice id g off n sz cp) = some ((cs.drop off).take (n * sz), n) := by
 simp only [srcCells, h, Option.bind_some]
 rw [if_pos hl]
theorem app_nil0 {w by_ : Nat} {x : V} (h : srcCells H x = some ([], 0)) : appOf w by_ H .nilslice x = some (.nilslice, H) := by
 simp [appOf, h]
theorem app_one {w by_ : Nat} {cs : List V} (h : cs.length = w) (hi : immL cs = true) (hb : by_ ≤ 2 ^ 40) : appOf w by_ H .nilslice (.isl cs 1 w) = some (.slice H.length 0 0 1 w .full, H ++ [.row 0 cs true]) := by
 have e : cs.length = 1 * w := by omega
 simp only [appOf, srcCells, if_pos e, Option.bind_some]
 rw [if_pos ⟨e, immL_cells hi⟩, if_neg (by omega), if_pos ⟨by omega, by omega⟩]
theorem inlC_old {n f id off m sz : Nat} {cp : Cap} (h : id < n) : inlC n H (f + 1) (.slice id g off m sz cp) = some (.slice id g off m sz cp) := by simp [inlC, inlB, h]
section
variable {α : Type} {E : Enc α} {l : List α}
theorem map_ne (h : 0 < l.length) : ¬ l.map E.f = [] := by
 intro e
 simp only [List.map_eq_nil_iff] at e
 subst e
 simp at h
theorem ix_bl {t : TypeId} {n w : Nat} {kk : IntKind} {j : Int} (ht : sliceT P t w = true) (h : 0 ≤ j ∧ j < (l.length : Int)) : indexAddrV P t (blV n g w (l.map E.f)) (.int kk j) = some (.ptr n g (j.toNat * w)) := by
 unfold blV
 rw [if_neg (map_ne (by omega)), ia_slice ht (by simpa using h), Nat.zero_add]
theorem getRow_bl {A : Hp} {n : Nat} (hn : n = A.length) (h : 0 < l.length) : getRow (A ++ blH g (l.map E.f)) n g = some (flatE E l, true) := by
 subst hn
 unfold blH
 rw [if_neg (map_ne h)]
 exact getRow_last g _ true
theorem set_bl {A : Hp} {n : Nat} {b : AB} (hn : n = A.length) (h : 0 < l.length) : (A ++ blH g (l.map E.f)).set n b = A ++ [b] := by
 subst hn
 unfold blH
 rw [if_neg (map_ne h)]
 exact set_last _ b
theorem blV_some {n w : Nat} (h : 0 < l.length) : blV n g w (l.map E.f) = .slice n g 0 l.length w .full := by
 unfold blV
 rw [if_neg (map_ne h), List.length_map]
theorem setAt_app {xs ys : List V} {j : Nat} {v : V} (h : j < xs.length) : setAt (xs ++ ys) j [v] = setAt xs j [v] ++ ys := by
 unfold setAt
 simp only [List.length_singleton]
 rw [List.take_append_of_le_length (by omega), List.drop_append_of_le_length (by omega)]
 simp
theorem setAt_skip {xs ys : List V} {j : Nat} {v : V} : setAt (xs ++ ys) (xs.length + j) [v] = xs ++ setAt ys j [v] := by
 unfold setAt
 simp only [List.length_singleton]
 rw [List.take_length_add_append, show xs.length + j + 1 = xs.length + (j + 1) by omega, List.drop_length_add_append]
 simp
theorem flatE_set : ∀ {l : List α} {i j : Nat} {v : V} {a : α}, i < l.length → j < E.w → E.f a = setAt (E.f (E.at l i)) j [v] → setAt (flatE E l) (i * E.w + j) [v] = flatE E (l.set i a)
 | [], _, _, _, _, h, _, _ => by simp at h
 | x :: l, 0, j, v, a, _, hj, h => by
  have h' : E.f a = setAt (E.f x) j [v] := h
  show setAt (E.f x ++ flatE E l) _ _ = E.f a ++ flatE E l
  rw [h', Nat.zero_mul, Nat.zero_add, setAt_app (by rw [E.len]; exact hj)]
 | x :: l, i + 1, j, v, a, hi, hj, h => by
  show setAt (E.f x ++ flatE E l) _ _ = E.f x ++ flatE E (l.set i a)
  rw [← flatE_set (l := l) (i := i) (by simpa using hi) hj h, ← setAt_skip, E.len]
  congr 1
  rw [Nat.succ_mul]
  omega
theorem setAt_whole {xs ys vs : List V} (h : vs.length = xs.length) : setAt (xs ++ ys) 0 vs = vs ++ ys := by
 unfold setAt
 simp [h]
theorem setAt_skipN {xs ys vs : List V} {j : Nat} : setAt (xs ++ ys) (xs.length + j) vs = xs ++ setAt ys j vs := by
 show List.take (xs.length + j) (xs ++ ys) ++ vs ++ List.drop (xs.length + j + vs.length) (xs ++ ys) = xs ++ (List.take j ys ++ vs ++ List.drop (j + vs.length) ys)
 rw [List.take_length_add_append, show xs.length + j + vs.length = xs.length + (j + vs.length) by omega, List.drop_length_add_append]
 simp
theorem flatE_setE : ∀ {l : List α} {i : Nat} {a : α}, i < l.length → setAt (flatE E l) (i * E.w) (E.f a) = flatE E (l.set i a)
 | [], _, _, h => by simp at h
 | x :: l, 0, a, _ => by
  show setAt (E.f x ++ flatE E l) _ _ = E.f a ++ flatE E l
  rw [Nat.zero_mul, setAt_whole (by rw [E.len, E.len])]
 | x :: l, i + 1, a, hi => by
  show setAt (E.f x ++ flatE E l) _ _ = E.f x ++ flatE E (l.set i a)
  rw [← flatE_setE (l := l) (i := i) (by simpa using hi), ← setAt_skipN, E.len]
  congr 1
  rw [Nat.succ_mul]
  omega
theorem mapO_app {f : V → Option V} : ∀ {xs ys xs' ys' : List V}, mapO f xs = some xs' → mapO f ys = some ys' → mapO f (xs ++ ys) = some (xs' ++ ys')
 | [], ys, xs', ys', h1, h2 => by
  simp only [mapO_nil, Option.some.injEq] at h1
  subst h1
  exact h2
 | x :: xs, ys, xs', ys', h1, h2 => by
  rw [mapO_cons] at h1
  obtain ⟨y, h3, h4⟩ := Option.bind_eq_some_iff.1 h1
  obtain ⟨zs, h5, rfl⟩ := Option.map_eq_some_iff.1 h4
  rw [List.cons_append, mapO_cons, h3, mapO_app h5 h2]
  rfl
theorem mapO_setAt {f : V → Option V} {cs : List V} {j : Nat} {v v' : V} (h : ∀ xs, (∀ x ∈ xs, x ∈ cs) → mapO f xs = some xs) (hv : f v = some v') : mapO f (setAt cs j [v]) = some (setAt cs j [v']) := by
 unfold setAt
 simp only [List.length_singleton]
 refine mapO_app (mapO_app (h _ fun x hx => List.mem_of_mem_take hx) (by simp [mapO, hv])) (h _ fun x hx => List.mem_of_mem_drop hx)
theorem inlB_setAt {A : Hp} {n m w f i j : Nat} {v v' : V} {a : α} (hn : n ≤ m) (hm : m = A.length) (hw : E.w = w) (hi : i < l.length) (hj : j < w) (hv : inlB n (A ++ [.row g (setAt (flatE E l) (i * w + j) [v]) true]) (f + 1) v = some v') (ha : E.f a = setAt (E.f (E.at l i)) j [v']) :
  inlB n (A ++ [.row g (setAt (flatE E l) (i * w + j) [v]) true]) (f + 2) (.slice m g 0 l.length w .full) = some (slV true E (l.set i a)) := by
 subst hw hm
 have hl : (setAt (flatE E l) (i * E.w + j) [v]).length = l.length * E.w := by
  have := flatE_len (E := E) (l := l)
  unfold setAt
  simp only [List.length_append, List.length_take, List.length_drop, List.length_singleton, this]
  have : i * E.w + E.w ≤ l.length * E.w := by
   rw [← Nat.succ_mul]
   exact Nat.mul_le_mul_right _ hi
  omega
 rw [inlB]
 rw [if_neg (by omega)]
 have e : (A ++ [AB.row g (setAt (flatE E l) (i * E.w + j) [v]) true])[A.length]? = some (.row g (setAt (flatE E l) (i * E.w + j) [v]) true) := by simp
 simp only [e]
 rw [if_pos ⟨trivial, by omega⟩, List.drop_zero, List.take_of_length_le (by omega)]
 rw [mapO_setAt (fun xs hx => mapO_imm (immL_iff.2 fun x h => immL_iff.1 flatE_imm x (hx x h))) hv]
 simp only [Option.bind_some]
 rw [flatE_set hi hj ha, if_pos flatE_imm]
 rw [slV_some (by simpa using Nat.lt_of_le_of_lt (Nat.zero_le _) hi), List.length_set]
end
theorem app_row {w by_ id : Nat} {cp : Cap} {cs : List V} {o : Bool} (h : getRow H id g = some (cs, o)) (hw : cs.length = w) (hc : cs.all V.isCell = true) (hb : by_ ≤ 2 ^ 40) : appOf w by_ H .nilslice (.slice id g 0 1 w cp) = some (.slice H.length 0 0 1 w .full, H ++ [.row 0 cs true]) := by
 subst hw
 unfold appOf
 rw [src_sl h (by omega)]
 have e : (cs.drop 0).take (1 * cs.length) = cs := by simp
 simp only [e, Option.bind_some]
 rw [if_pos ⟨by omega, hc⟩, if_neg (by omega), if_pos ⟨by omega, by omega⟩]
theorem inlB_one {n f id w : Nat} {cs xs : List V} (hn : n ≤ id) (h : H[id]? = some (.row g cs true)) (hw : cs.length = w) (hc : mapO (inlB n H f) cs = some xs) (hi : immL xs = true) : inlB n H (f + 1) (.slice id g 0 1 w .full) = some (.isl xs 1 w) := by
 subst hw
 rw [inlB, if_neg (by omega)]
 simp only [h]
 rw [if_pos ⟨trivial, by omega⟩, List.drop_zero, List.take_of_length_le (by omega), hc]
 simp [hi]
end
end Go.An
namespace Go.An
open Go
section
variable [Orc]
variable {P : Program} {H : Hp} {α : Type}
def OwnE (E : Enc α) (H : Hp) (v : V) (l : List α) : Prop :=
 (v = .nilslice ∧ l = []) ∨ ∃ id g, v = .slice id g 0 l.length E.w .full ∧ 0 < l.length ∧ H[id]? = some (.row g (flatE E l) true)
theorem ownE_nil (E : Enc α) (H : Hp) : OwnE E H .nilslice [] := .inl ⟨rfl, rfl⟩
theorem OwnE.frame {E : Enc α} {H' : Hp} {v : V} {l : List α} (h : OwnE E H v l) (hf : ∀ id, At v id → H'[id]? = H[id]?) : OwnE E H' v l := by
 rcases h with h | ⟨id, g, rfl, h1, h2⟩
 ·exact .inl h
 ·exact .inr ⟨id, g, rfl, h1, by rw [hf id ⟨_, _, _, _, _, rfl⟩]; exact h2⟩
theorem OwnE.lt {E : Enc α} {v : V} {l : List α} (h : OwnE E H v l) {id : Nat} (ha : At v id) : id < H.length := by
 obtain ⟨g, o, n, z, cp, e⟩ := ha
 rcases h with ⟨rfl, _⟩ | ⟨id', g', rfl, _, h2⟩
 ·cases e
 ·injection e with e1; subst e1; exact (List.getElem?_eq_some_iff.1 h2).1
theorem OwnE.app {E : Enc α} {v : V} {l : List α} (h : OwnE E H v l) (L : Hp) : OwnE E (H ++ L) v l := h.frame fun _ ha => List.getElem?_append_left (h.lt ha)
theorem OwnE.cell {E : Enc α} {v : V} {l : List α} (h : OwnE E H v l) : v.isCell = true ∧ v.cells = [v] ∧ v.isTup = false ∧ eqA v v = true ∧ eqC v v = true := by
 rcases h with ⟨rfl, _⟩ | ⟨id, g, rfl, _, _⟩
 ·exact ⟨rfl, rfl, rfl, rfl, rfl⟩
 ·exact ⟨rfl, rfl, rfl, eqA_slice .., by simp [eqC, eqBase]⟩
theorem OwnE.len {E : Enc α} {v : V} {l : List α} (h : OwnE E H v l) {t : TypeId} {z : Nat} (ht : sliceT P t z = true) (H' : Hp) : lenV P t H' v = some (.int .i64 l.length) := by
 rcases h with ⟨rfl, rfl⟩ | ⟨id, g, rfl, _, _⟩
 ·exact len_nilslice ht
 ·exact len_slice ht ..
theorem OwnE.idx {E : Enc α} {v : V} {l : List α} (h : OwnE E H v l) {t : TypeId} {w : Nat} (ht : sliceT P t w = true) (hw : E.w = w) {kk : IntKind} {j : Int} (hj : 0 ≤ j ∧ j < (l.length : Int)) : indexAddrV P t v (.int kk j) = some (.ptr (vid v) (vgen v) (j.toNat * w)) := by
 subst hw
 rcases h with ⟨rfl, rfl⟩ | ⟨id, g, rfl, _, _⟩
 ·simp at hj; omega
 ·rw [ia_slice ht hj, Nat.zero_add]; rfl
theorem OwnE.row {E : Enc α} {v : V} {l : List α} (h : OwnE E H v l) (hl : 0 < l.length) : getRow H (vid v) (vgen v) = some (flatE E l, true) := by
 rcases h with ⟨rfl, rfl⟩ | ⟨id, g, rfl, _, h2⟩
 ·simp at hl
 ·exact getRow_of h2
theorem OwnE.at_ {E : Enc α} {v : V} {l : List α} (h : OwnE E H v l) (hl : 0 < l.length) : At v (vid v) := by
 rcases h with ⟨rfl, rfl⟩ | ⟨id, g, rfl, _, h2⟩
 ·simp at hl
 ·exact ⟨_, _, _, _, _, rfl⟩
theorem OwnE.set {E : Enc α} {v : V} {l l' : List α} (h : OwnE E H v l) (hl : 0 < l.length) (he : l'.length = l.length) : OwnE E (H.set (vid v) (.row (vgen v) (flatE E l') true)) v l' := by
 rcases h with ⟨rfl, rfl⟩ | ⟨id, g, rfl, h1, h2⟩
 ·simp at hl
 ·refine .inr ⟨id, g, by rw [he], by omega, ?_⟩
  show (H.set id _)[id]? = _
  rw [List.getElem?_set_self (List.getElem?_eq_some_iff.1 h2).1]
  rfl
theorem OwnE.push {E : Enc α} {v : V} {l : List α} {w by_ : Nat} (h : OwnE E H v l) (a : α) (hw : E.w = w) (hb : (l.length + 1) * by_ ≤ 2 ^ 40) (hb2 : l.length + 1 ≤ 2 ^ 40) :
  ∃ v' H', appOf w by_ H v (.isl (E.f a) 1 w) = some (v', H') ∧ OwnE E H' v' (l ++ [a]) ∧ (∀ id, id < H.length → ¬ At v id → H'[id]? = H[id]?) ∧ H.length ≤ H'.length ∧ (∀ id, At v' id → At v id ∨ H.length ≤ id) := by
 subst hw
 have hp := E.pos
 have e1 : (E.f a).length = 1 * E.w := by rw [E.len]; omega
 unfold appOf
 simp only [srcCells, if_pos e1, Option.bind_some]
 rw [if_pos ⟨e1, immL_cells (E.imm a)⟩]
 rcases h with ⟨rfl, rfl⟩ | ⟨id, g, rfl, h1, h2⟩
 ·simp only [List.length_nil, Nat.zero_add, Nat.one_mul] at hb hb2
  refine ⟨_, H ++ [.row 0 (E.f a) true], ?_, .inr ⟨H.length, 0, rfl, by simp, by simp [flatE]⟩, ?_, by simp, ?_⟩
  ·simp only
   rw [if_neg (by omega), if_pos ⟨by omega, by omega⟩]
   simp
  ·intro id hid _
   rw [List.getElem?_append_left hid]
  ·rintro id ⟨g, o, n, z, cp, e⟩
   injection e with e1
   right; omega
 ·have hid : id < H.length := (List.getElem?_eq_some_iff.1 h2).1
  have hl := flatE_len (E := E) (l := l)
  have hr := getRow_of h2
  refine ⟨_, H.set id (.row (g + 1) (flatE E l ++ E.f a) true), ?_, .inr ⟨id, g + 1, rfl, by simp, ?_⟩, ?_, by simp, ?_⟩
  ·simp only
   rw [hr]
   simp only [Option.bind_some]
   rw [if_pos ⟨trivial, by omega, by omega, by omega⟩, if_neg (by omega), if_pos trivial, if_neg (by rw [Nat.add_mul]; omega), if_pos (by omega)]
   simp
  ·rw [List.getElem?_set_self hid]
   simp [flatE]
  ·intro id' hid' hn
   have hne : id ≠ id' := fun e => hn ⟨g, 0, l.length, E.w, .full, by rw [e]⟩
   rw [List.getElem?_set_ne hne]
  ·rintro id' ⟨g', o, n', z, cp, e⟩
   injection e with e1
   subst e1
   exact .inl ⟨g, 0, l.length, E.w, .full, rfl⟩
theorem OwnE.inl {E : Enc α} {v : V} {l : List α} (h : OwnE E H v l) {n f : Nat} (hn : ∀ id, At v id → n ≤ id) : inlB n H (f + 2) v = some (slV true E l) := by
 rcases h with ⟨rfl, rfl⟩ | ⟨id, g, rfl, h1, h2⟩
 ·rw [slV_nil]; rfl
 ·rw [inlB_row (hn id ⟨_, _, _, _, _, rfl⟩) h2 flatE_len flatE_imm, slV_some h1]
def LstE (E : Enc α) (H : Hp) (s : V) (l : List α) : Prop := (∃ b, s = slV b E l) ∨ ∃ id g, s = .slice id g 0 l.length E.w .full ∧ getRow H id g = some (flatE E l, true)
theorem LstE.of (E : Enc α) (H : Hp) (b : Bool) (l : List α) : LstE E H (slV b E l) l := .inl ⟨b, rfl⟩
theorem LstE.app {E : Enc α} {s : V} {l : List α} (h : LstE E H s l) (L : Hp) : LstE E (H ++ L) s l := by
 rcases h with ⟨b, rfl⟩ | ⟨id, g, rfl, hr⟩
 ·exact .of E _ b l
 ·exact .inr ⟨id, g, rfl, by rw [getRow_app (getRow_lt hr)]; exact hr⟩
theorem OwnE.lst {E : Enc α} {v : V} {l : List α} (h : OwnE E H v l) : LstE E H v l := by
 rcases h with ⟨rfl, rfl⟩ | ⟨id, g, rfl, h1, h2⟩
 ·exact .inl ⟨true, (slV_nil E).symm⟩
 ·exact .inr ⟨id, g, rfl, getRow_of h2⟩
theorem LstE.bl {E : Enc α} {A : Hp} {n g w : Nat} {l : List α} (hn : n = A.length) (hw : E.w = w) (hl : 0 < l.length) : LstE E (A ++ blH g (l.map E.f)) (blV n g w (l.map E.f)) l := by
 subst hw
 exact .inr ⟨n, g, blV_some hl, getRow_bl hn hl⟩
theorem ldR {id g off : Nat} {t : TypeId} : loadV P t H (.ptr id g off) = (getRow H id g).bind fun r => partV P t r.1 off := loadV_ptr t id g off
theorem lq_agg {E : Enc α} {l : List α} {t : TypeId} {w i : Nat} (hg : aggT P t = some true) (hz : szOf P t = some w) (hw : E.w = w) (hi : i < l.length) : partV P t (flatE E l) (i * w) = some (.agg (E.f (E.at l i))) := (loadV_ipt (H := []) t _ _).symm.trans (ld_agg hg hz hw hi)
theorem lq_cell {E : Enc α} {l : List α} {t : TypeId} {w i j : Nat} (hg : aggT P t = some false) (hw : E.w = w) (hi : i < l.length) (hj : j < w) : partV P t (flatE E l) (i * w + j) = (E.f (E.at l i))[j]? := (loadV_ipt (H := []) t _ _).symm.trans (ld_cell hg hw hi hj)
theorem lq_cell0 {E : Enc α} {l : List α} {t : TypeId} {w i : Nat} (hg : aggT P t = some false) (hw : E.w = w) (hi : i < l.length) : partV P t (flatE E l) (i * w) = (E.f (E.at l i))[0]? := (loadV_ipt (H := []) t _ _).symm.trans (ld_cell0 hg hw hi)
end
end Go.An
namespace Go.An
open Go
section
variable [Orc]
variable {P : Program} {H : Hp} {α : Type}
theorem flatE_take {E : Enc α} : ∀ (l : List α) (k : Nat), (flatE E l).take (k * E.w) = flatE E (l.take k)
 | [], k => by simp [flatE]
 | x :: l, 0 => by simp [flatE]
 | x :: l, k + 1 => by
  have ih := flatE_take (E := E) l k
  show (E.f x ++ flatE E l).take _ = E.f x ++ flatE E (l.take k)
  rw [← ih, Nat.succ_mul, Nat.add_comm (k * E.w), List.take_append, E.len, List.take_of_length_le (by rw [E.len]; omega)]
  congr 2
  omega
theorem flatE_drop {E : Enc α} : ∀ (l : List α) (k : Nat), (flatE E l).drop (k * E.w) = flatE E (l.drop k)
 | [], k => by simp [flatE]
 | x :: l, 0 => by simp [flatE]
 | x :: l, k + 1 => by
  have ih := flatE_drop (E := E) l k
  show (E.f x ++ flatE E l).drop _ = flatE E (l.drop k)
  rw [← ih, Nat.succ_mul, Nat.add_comm (k * E.w), List.drop_append, E.len, List.drop_of_length_le (by rw [E.len]; omega)]
  simp
theorem flatE_put {E : Enc α} {X Y : List α} {k : Nat} : setAt (flatE E X) (k * E.w) (flatE E Y) = flatE E (X.take k ++ Y ++ X.drop (k + Y.length)) := by
 show List.take (k * E.w) (flatE E X) ++ flatE E Y ++ List.drop (k * E.w + (flatE E Y).length) (flatE E X) = _
 rw [flatE_len, ← Nat.add_mul, flatE_take, flatE_drop, flatE_app, flatE_app]
theorem app_cut {E : Enc α} {X : List α} {id g m k w by_ : Nat} {cp : Cap} (hr : getRow H id g = some (flatE E X, true)) (hw : E.w = w) (hm : m ≤ X.length) (hk : k < m) (hb : m * by_ ≤ 2 ^ 40) (hb2 : m ≤ 2 ^ 40) :
  appOf w by_ H (.slice id g 0 k w .full) (.slice id g ((k + 1) * w) (m - (k + 1)) w cp) = some (.slice id g 0 (m - 1) w .full, H.set id (.row g (flatE E ((X.take k ++ (X.take m).drop (k + 1)) ++ X.drop (m - 1))) true)) := by
 subst hw
 have hid := getRow_lt hr
 have hxl := flatE_len (E := E) (l := X)
 have hmm : m * E.w ≤ X.length * E.w := Nat.mul_le_mul_right _ hm
 have hsum : (k + 1) * E.w + (m - (k + 1)) * E.w = m * E.w := by rw [← Nat.add_mul]; congr 1; omega
 have hyl : ((X.take m).drop (k + 1)).length = m - (k + 1) := by simp; omega
 have hsrc : srcCells H (.slice id g ((k + 1) * E.w) (m - (k + 1)) E.w cp) = some (flatE E ((X.take m).drop (k + 1)), m - (k + 1)) := by
  rw [src_sl hr (by rw [hxl, hsum]; exact hmm)]
  congr 2
  rw [flatE_drop, flatE_take, List.drop_take]
 have hrow : H[id]? = some (.row g (flatE E X) true) := by
  unfold getRow at hr
  split at hr
  ·rename_i g' cs o e
   split at hr
   ·rename_i e2
    injection hr with hr
    injection hr with h1 h2
    subst h1 h2 e2
    exact e
   ·cases hr
  ·cases hr
 unfold appOf
 rw [hsrc]
 simp only [Option.bind_some]
 have hyf : (flatE E ((X.take m).drop (k + 1))).length = (m - (k + 1)) * E.w := by rw [flatE_len, hyl]
 rw [if_pos ⟨hyf, flatE_cells E _⟩, hr]
 simp only [Option.bind_some]
 have hkm : k * E.w ≤ X.length * E.w := Nat.mul_le_mul_right _ (by omega)
 have e1 : k + (m - (k + 1)) = m - 1 := by omega
 have hmb : (m - 1) * by_ ≤ m * by_ := Nat.mul_le_mul_right _ (by omega)
 have hput : setAt (flatE E X) (k * E.w) (flatE E ((X.take m).drop (k + 1))) = flatE E ((X.take k ++ (X.take m).drop (k + 1)) ++ X.drop (m - 1)) := by
  rw [flatE_put, hyl, e1]
 have hm1 : (m - 1) * E.w ≤ X.length * E.w := Nat.mul_le_mul_right _ (by omega)
 rw [e1, if_pos ⟨trivial, by omega, by omega, by omega⟩]
 by_cases h0 : m - (k + 1) = 0
 ·rw [if_pos h0]
  have e2 : m - 1 = k := by omega
  have e3 : (X.take m).drop (k + 1) = [] := List.eq_nil_of_length_eq_zero (by omega)
  rw [e3, e2, List.append_nil, List.take_append_drop]
  congr 2
  apply List.ext_getElem?
  intro i
  rw [List.getElem?_set]
  split
  ·rename_i e; subst e; exact hrow
  ·rfl
 ·rw [if_neg h0, if_pos trivial, if_pos (by omega), Nat.zero_add, hput]
theorem OwnE.pushR {E : Enc α} {v : V} {l : List α} {w by_ : Nat} (h : OwnE E H v l) (a : α) (hw : E.w = w) (hb : (l.length + 1) * by_ ≤ 2 ^ 40) (hb2 : l.length + 1 ≤ 2 ^ 40) :
  ∃ v' H', appOf w by_ (H ++ [.row 0 (E.f a) true]) v (.slice H.length 0 0 1 w .full) = some (v', H') ∧ OwnE E H' v' (l ++ [a]) ∧ (∀ id, id < H.length → ¬ At v id → H'[id]? = H[id]?) ∧ H.length ≤ H'.length ∧ (∀ id, At v' id → At v id ∨ H.length ≤ id) := by
 obtain ⟨v', H', h1, h2, h3, h4, h5⟩ := (h.app [.row 0 (E.f a) true]).push a hw hb hb2
 refine ⟨v', H', ?_, h2, fun id hid hna => ?_, by simp at h4; omega, fun id hat => ?_⟩
 ·rw [← h1]
  subst hw
  have e1 : (E.f a).length = 1 * E.w := by rw [E.len]; omega
  have e2 : srcCells (H ++ [.row 0 (E.f a) true]) (.slice H.length 0 0 1 E.w .full) = some (E.f a, 1) := by
   rw [src_sl (getRow_lastN rfl) (by omega), List.drop_zero, List.take_of_length_le (by omega)]
  have e3 : srcCells (H ++ [.row 0 (E.f a) true]) (.isl (E.f a) 1 E.w) = some (E.f a, 1) := by simp only [srcCells, if_pos e1]
  unfold appOf
  rw [e2, e3]
 ·rw [h3 id (by simp; omega) hna, List.getElem?_append_left hid]
 ·rcases h5 id hat with h | h
  ·exact .inl h
  ·simp at h; exact .inr (by omega)
end
end Go.An
namespace Go.An
open Go
section
variable [Orc]
variable {P : Program}
theorem b_and (t : TypeId) (k : IntKind) (x y : Int) : binV P .and t (.int k x) (.int k y) = (bitsV .and k x y).map (.int k) := by simp [binV, intV]
theorem b_or (t : TypeId) (k : IntKind) (x y : Int) : binV P .or t (.int k x) (.int k y) = (bitsV .or k x y).map (.int k) := by simp [binV, intV]
theorem and127 (c : UInt8) : bitsV .and .u8 (c.toNat : Int) 127 = some ((c.toNat % 128 : Nat) : Int) := by
 have hc := c.toNat_lt
 have e1 : (BitVec.ofInt 8 (c.toNat : Int)) = BitVec.ofNat 8 c.toNat := by simp
 have e2 : (BitVec.ofInt 8 (127 : Int)) = BitVec.ofNat 8 127 := rfl
 show some (IntKind.u8.wrap ((BitVec.ofInt 8 (c.toNat : Int) &&& BitVec.ofInt 8 127).toNat : Int)) = _
 rw [e1, e2, BitVec.toNat_and, BitVec.toNat_ofNat, BitVec.toNat_ofNat, Nat.mod_eq_of_lt (by simpa using hc)]
 have e3 : c.toNat &&& 127 % 2 ^ 8 = c.toNat % 128 := by
  have := Nat.and_two_pow_sub_one_eq_mod c.toNat 7
  simpa using this
 rw [e3]
 have : c.toNat % 128 < 128 := Nat.mod_lt _ (by omega)
 congr 1
 exact IntWalk.u8_in _ (by omega)
theorem or_add {n x s : Nat} (hn : n < 2 ^ s) (hx : n + x * 2 ^ s < 2 ^ 63) : bitsV .or .i64 (n : Int) ((x * 2 ^ s : Nat) : Int) = some ((n + x * 2 ^ s : Nat) : Int) := by
 show some (IntKind.i64.wrap ((BitVec.ofInt 64 (n : Int) ||| BitVec.ofInt 64 ((x * 2 ^ s : Nat) : Int)).toNat : Int)) = _
 have e1 : ∀ m : Nat, BitVec.ofInt 64 (m : Int) = BitVec.ofNat 64 m := fun m => by simp
 rw [e1, e1, BitVec.toNat_or, BitVec.toNat_ofNat, BitVec.toNat_ofNat, Nat.mod_eq_of_lt (by omega), Nat.mod_eq_of_lt (by omega)]
 have e3 : n ||| x * 2 ^ s = n + x * 2 ^ s := by
  have := Nat.shiftLeft_add_eq_or_of_lt hn x
  rw [Nat.shiftLeft_eq] at this
  rw [Nat.or_comm, ← this, Nat.add_comm]
 rw [e3]
 congr 1
 exact IntWalk.i64_in _ (by omega)
end
end Go.An
namespace Go.An
open Go
def osV {α : Type} (id : Nat) (E : Enc α) (l : List α) : V := if l = [] then .osl id [] 0 0 else .osl id (flatE E l) l.length E.w
section
variable [Orc]
variable {P : Program} {H : Hp} {α : Type} {E : Enc α} {l : List α}
theorem osV_cases (id : Nat) (E : Enc α) (l : List α) : (l = [] ∧ osV id E l = .osl id [] 0 0) ∨ (l ≠ [] ∧ osV id E l = .osl id (flatE E l) l.length E.w) := by
 unfold osV
 by_cases h : l = []
 ·exact .inl ⟨h, if_pos h⟩
 ·exact .inr ⟨h, if_neg h⟩
theorem osV_nil (id : Nat) (E : Enc α) : osV id E [] = .osl id [] 0 0 := if_pos rfl
@[go_sem] theorem osV_dem1 (id : Nat) (E : Enc α) (l : List α) : (osV id E l).dem1 = slV true E l := by
 rcases osV_cases id E l with ⟨rfl, h⟩ | ⟨h0, h⟩ <;> rw [h]
 ·simp [V.dem1, slV]
 ·simp [V.dem1, slV, h0]
@[go_sem] theorem osV_dem (id : Nat) (E : Enc α) (l : List α) : (osV id E l).dem = slV true E l := by
 rw [← osV_dem1 id E l]
 rcases osV_cases id E l with ⟨rfl, h⟩ | ⟨h0, h⟩ <;> rw [h] <;> rfl
@[go_sem] theorem dem_osl0 (id sz : Nat) (cs : List V) : (V.osl id cs 0 sz).dem = .nilslice := rfl
@[go_sem] theorem dem1_osl0 (id sz : Nat) (cs : List V) : (V.osl id cs 0 sz).dem1 = .nilslice := rfl
@[go_sem] theorem osV_cell (id : Nat) (E : Enc α) (l : List α) : (osV id E l).isCell = true := by unfold osV; split <;> rfl
@[go_sem] theorem osV_cells (id : Nat) (E : Enc α) (l : List α) : (osV id E l).cells = [osV id E l] := by unfold osV; split <;> rfl
@[go_sem] theorem osV_nt (id : Nat) (E : Enc α) (l : List α) : (osV id E l).isTup = false := by unfold osV; split <;> rfl
@[go_sem] theorem osV_eqA (id : Nat) (E : Enc α) (l : List α) : eqA (osV id E l) (osV id E l) = true := by unfold osV; split <;> exact eqA_osl ..
@[go_sem] theorem osV_eqC (id : Nat) (E : Enc α) (l : List α) : eqC (osV id E l) (osV id E l) = true := by unfold osV; split <;> simp [eqC, eqBase, eqIL_refl]
@[go_sem] theorem slV_dem1 (b : Bool) (E : Enc α) (l : List α) : (slV b E l).dem1 = slV b E l := dem1_imm (slV_imm b E l)
@[go_sem] theorem slV_dem (b : Bool) (E : Enc α) (l : List α) : (slV b E l).dem = slV b E l := by
 rcases slV_cases b E l with ⟨h, _⟩ | h <;> rw [h] <;> rfl
@[go_sem] theorem blV_dem1 (n g w : Nat) (xs : List (List V)) : (blV n g w xs).dem1 = blV n g w xs := by unfold blV; split <;> rfl
@[go_sem] theorem blV_dem (n g w : Nat) (xs : List (List V)) : (blV n g w xs).dem = blV n g w xs := by unfold blV; split <;> rfl
@[go_sem] theorem Enc.dem1 (E : Enc α) (a : α) : (E.f a).map V.dem1 = E.f a := dem1_immL (E.imm a)
@[go_sem] theorem tk_0 (n : Nat) (L : Hp) : tokAt (.tok n :: L) 0 = some n := rfl
@[go_sem] theorem tk_S (b : AB) (L : Hp) (k : Nat) : tokAt (b :: L) (k + 1) = tokAt L k := rfl
theorem tk_app (A L : Hp) (k : Nat) : tokAt (A ++ L) (A.length + k) = tokAt L k := by
 unfold tokAt
 rw [List.getElem?_append_right (by omega), Nat.add_sub_cancel_left]
theorem tk_here (A L : Hp) : tokAt (A ++ L) A.length = tokAt L 0 := tk_app A L 0
@[go_sem] theorem gr_0 (g : Nat) (cs : List V) (o : Bool) (L : Hp) : getRow (.row g cs o :: L) 0 g = some (cs, o) := by simp [getRow]
@[go_sem] theorem gr_S (b : AB) (L : Hp) (k g : Nat) : getRow (b :: L) (k + 1) g = getRow L k g := rfl
theorem gr_app (A L : Hp) (k g : Nat) : getRow (A ++ L) (A.length + k) g = getRow L k g := by
 unfold getRow
 rw [List.getElem?_append_right (by omega), Nat.add_sub_cancel_left]
theorem gr_here (A L : Hp) (g : Nat) : getRow (A ++ L) A.length g = getRow L 0 g := gr_app A L 0 g
theorem st_app (A L : Hp) (k : Nat) (b : AB) : (A ++ L).set (A.length + k) b = A ++ L.set k b := by
 rw [List.set_append_right _ _ (by omega), Nat.add_sub_cancel_left]
theorem st_here (A L : Hp) (b : AB) : (A ++ L).set A.length b = A ++ L.set 0 b := st_app A L 0 b
theorem os_push {id w by_ : Nat} {cs : List V} (a : α) (hc : cs = E.f a) (hw : E.w = w) (ht : tokAt H id = some (l.length * w)) (hb : (l.length + 1) * by_ ≤ 2 ^ 40) (hb2 : l.length + 1 ≤ 2 ^ 40) :
  appOf w by_ H (osV id E l) (.isl cs 1 w) = some (osV id E (l ++ [a]), H.set id (.tok ((l.length + 1) * w))) := by
 subst hc hw
 have h1 : (E.f a).length = 1 * E.w := by rw [E.len]; omega
 have h2 : (E.f a).all V.isCell = true := immL_cells (E.imm a)
 have h3 : l ++ [a] ≠ [] := by simp
 have e1 : osV id E (l ++ [a]) = .osl id (flatE E l ++ E.f a) (l.length + 1) E.w := by
  unfold osV
  rw [if_neg h3, flatE_app, List.length_append]
  simp [flatE]
 rw [e1]
 unfold appOf
 simp only [srcCells, if_pos h1, Option.bind_some]
 rw [if_pos ⟨h1, h2⟩]
 rcases osV_cases id E l with ⟨rfl, h⟩ | ⟨h0, h⟩ <;> rw [h] <;> simp only
 ·rw [if_neg (by omega), if_pos ⟨.inl trivial, by simpa using ht, E.imm a, by simpa using hb, by omega⟩]
  simp [flatE, E.len]
 ·rw [if_neg (by omega), if_pos ⟨.inr trivial, by rw [flatE_len]; exact ht, E.imm a, hb, hb2⟩]
  simp only [flatE_len, E.len, Nat.add_mul, Nat.one_mul]
theorem os_all {id w by_ : Nat} {m : List α} (b : Bool) (hw : E.w = w) (ht : tokAt H id = some (l.length * w)) (hb : (l.length + m.length) * by_ ≤ 2 ^ 40) (hb2 : l.length + m.length ≤ 2 ^ 40) :
  appOf w by_ H (osV id E l) (slV b E m) = some (osV id E (l ++ m), H.set id (.tok ((l.length + m.length) * w))) := by
 subst hw
 unfold appOf
 rw [src_slV]
 simp only [Option.bind_some]
 have h2 : (flatE E m).all V.isCell = true := immL_cells flatE_imm
 rw [if_pos ⟨flatE_len, h2⟩]
 by_cases hm : m = []
 ·subst hm
  simp only [List.append_nil, List.length_nil, Nat.add_zero, if_true]
  have e : H.set id (.tok (l.length * E.w)) = H := by
   unfold tokAt at ht
   split at ht
   ·rename_i n hn
    injection ht with ht
    subst ht
    obtain ⟨h1, h2⟩ := List.getElem?_eq_some_iff.1 hn
    rw [← h2, List.set_getElem_self]
   ·cases ht
  rw [e]
  rcases osV_cases id E l with ⟨rfl, h⟩ | ⟨h0, h⟩ <;> rw [h]
 ·have hm0 : 0 < m.length := List.length_pos_iff.2 hm
  have e1 : osV id E (l ++ m) = .osl id (flatE E l ++ flatE E m) (l.length + m.length) E.w := by
   unfold osV
   rw [if_neg (by simp [hm]), flatE_app, List.length_append]
  rw [e1]
  rcases osV_cases id E l with ⟨rfl, h⟩ | ⟨h0, h⟩ <;> rw [h] <;> simp only
  ·rw [if_neg (by omega), if_pos ⟨.inl trivial, by simpa using ht, flatE_imm, by simpa using hb, by simpa using hb2⟩]
   rw [flatE_len]
   simp [flatE]
  ·rw [if_neg (by omega), if_pos ⟨.inr trivial, by rw [flatE_len]; exact ht, flatE_imm, hb, hb2⟩]
   simp only [flatE_len, Nat.add_mul]
@[go_sem] theorem os_ag {id w by_ : Nat} (a : α) (hw : E.w = w) (ht : tokAt H id = some (l.length * w)) (hb : (l.length + 1) * by_ ≤ 2 ^ 40) (hb2 : l.length + 1 ≤ 2 ^ 40) :
  appOf w by_ H (osV id E l) (.isl (E.f a) 1 w) = some (osV id E (l ++ [a]), H.set id (.tok ((l.length + 1) * w))) := os_push a rfl hw ht hb hb2
@[go_sem] theorem os_by {id : Nat} {l : List UInt8} (c : UInt8) (ht : tokAt H id = some l.length) (hb : l.length + 1 ≤ 2 ^ 40) : appOf 1 1 H (osV id byE l) (.isl [.int .u8 c.toNat] 1 1) = some (osV id byE (l ++ [c]), H.set id (.tok (l.length + 1))) := by
 have := os_push (E := byE) (w := 1) (by_ := 1) c rfl rfl (by rw [ht, Nat.mul_one]) (by omega) hb
 rwa [Nat.mul_one] at this
@[go_sem] theorem os_in {id : Nat} {l : List Int} (c : Int) (ht : tokAt H id = some l.length) (hb : l.length + 1 ≤ 2 ^ 36) : appOf 1 8 H (osV id inE l) (.isl [.int .i64 c] 1 1) = some (osV id inE (l ++ [c]), H.set id (.tok (l.length + 1))) := by
 have := os_push (E := inE) (w := 1) (by_ := 8) c rfl rfl (by rw [ht, Nat.mul_one]) (by omega) (by omega)
 rwa [Nat.mul_one] at this
@[go_sem] theorem os_st {id : Nat} {l : List (List UInt8)} (c : List UInt8) (ht : tokAt H id = some l.length) (hb : l.length + 1 ≤ 2 ^ 36) : appOf 1 16 H (osV id stE l) (.isl [.str c] 1 1) = some (osV id stE (l ++ [c]), H.set id (.tok (l.length + 1))) := by
 have := os_push (E := stE) (w := 1) (by_ := 16) c rfl rfl (by rw [ht, Nat.mul_one]) (by omega) (by omega)
 rwa [Nat.mul_one] at this
@[go_sem] theorem os_allb {id : Nat} {l m : List UInt8} (b : Bool) (ht : tokAt H id = some l.length) (hb : l.length + m.length ≤ 2 ^ 40) : appOf 1 1 H (osV id byE l) (slV b byE m) = some (osV id byE (l ++ m), H.set id (.tok (l.length + m.length))) := by
 have := os_all (E := byE) (w := 1) (by_ := 1) (l := l) (m := m) b rfl (by rw [ht, Nat.mul_one]) (by omega) hb
 rwa [Nat.mul_one] at this
variable {n f : Nat} {H' : Hp}
@[go_sem] theorem inlB_osV {id : Nat} (hn : n ≤ id) : inlB n H' (f + 1) (osV id E l) = some (slV true E l) := by
 rw [← osV_dem1 id E l]
 have e : ¬ id < n := by omega
 rcases osV_cases id E l with ⟨rfl, h⟩ | ⟨h0, h⟩ <;> rw [h] <;> simp [inlB, e]
@[go_sem] theorem inlA_osV (id : Nat) : inlA n H' f (osV id E l) = inlB n H' f (osV id E l) := by unfold osV; split <;> rfl
@[go_sem] theorem inlR_osV (id : Nat) : inlR n H' f (osV id E l) = inlB n H' f (osV id E l) := by unfold osV; split <;> rfl
@[go_sem] theorem inlC_osV (id : Nat) : inlC n H' f (osV id E l) = inlB n H' f (osV id E l) := by unfold osV; split <;> rfl
theorem inlB_osO {id : Nat} (hn : id < n) : inlB n H' (f + 1) (osV id E l) = some (osV id E l) := by
 rcases osV_cases id E l with ⟨rfl, h⟩ | ⟨h0, h⟩ <;> rw [h] <;> simp [inlB, hn]
@[go_sem] theorem inlK_tok (k : Nat) : inlK n H' f (.tok k) = some (.tok k) := rfl
end
def isStT (P : Program) (t : TypeId) : Bool := match P.underlying t with
 | some (.struct _) => true
 | _ => false
theorem arg_agg [Orc] {P : Program} {m : Nat} {t : TypeId} {x : V} (hu : isStT P t = true) (h : ArgT P m t x) : ∃ xs, x = .agg xs ∧ RdT P m t xs := by
 unfold isStT at hu
 split at hu
 ·rename_i hs; exact arg_struct hs h
 ·cases hu
def RowM {α : Type} (E : Enc α) (n : Nat) (L : Hp) (v : V) (l : List α) : Prop := (v = .nilslice ∧ l = []) ∨ ∃ j g, v = .slice (n + j) g 0 l.length E.w .full ∧ j < L.length ∧ getRow L j g = some (flatE E l, true)
theorem RowM.app {α : Type} {E : Enc α} {n : Nat} {L : Hp} {v : V} {l : List α} (h : RowM E n L v l) (G : Hp) : RowM E n (L ++ G) v l := by
 rcases h with h | ⟨j, g, h1, h2, h3⟩
 ·exact .inl h
 ·exact .inr ⟨j, g, h1, by rw [List.length_append]; omega, by
   unfold getRow at h3 ⊢
   rw [List.getElem?_append_left h2]; exact h3⟩
theorem RowM.pre {α : Type} {E : Enc α} {n : Nat} {L : Hp} {v : V} {l : List α} (A : Hp) (h : RowM E (n + A.length) L v l) : RowM E n (A ++ L) v l := by
 rcases h with h | ⟨j, g, h1, h2, h3⟩
 ·exact .inl h
 ·exact .inr ⟨A.length + j, g, by rw [h1]; congr 1; omega, by rw [List.length_append]; omega, by
   unfold getRow at h3 ⊢
   rw [List.getElem?_append_right (by omega), Nat.add_sub_cancel_left]; exact h3⟩
theorem RowM.len [Orc] {P : Program} {α : Type} {E : Enc α} {n : Nat} {L : Hp} {v : V} {l : List α} (h : RowM E n L v l) {t : TypeId} {z : Nat} (ht : sliceT P t z = true) (H' : Hp) : lenV P t H' v = some (.int .i64 l.length) := by
 rcases h with ⟨rfl, rfl⟩ | ⟨j, g, rfl, _, _⟩
 ·exact len_nilslice ht
 ·exact len_slice ht ..
theorem RowM.cell [Orc] {α : Type} {E : Enc α} {n : Nat} {L : Hp} {v : V} {l : List α} (h : RowM E n L v l) : v.isCell = true ∧ v.cells = [v] ∧ v.isTup = false ∧ eqA v v = true ∧ eqC v v = true ∧ v.dem1 = v ∧ v.dem = v := by
 rcases h with ⟨rfl, _⟩ | ⟨j, g, rfl, _, _⟩
 ·exact ⟨rfl, rfl, rfl, rfl, rfl, rfl, rfl⟩
 ·exact ⟨rfl, rfl, rfl, eqA_slice .., by simp [eqC, eqBase], rfl, rfl⟩
theorem RowM.inl [Orc] {α : Type} {E : Enc α} {n m f : Nat} {L A : Hp} {v : V} {l : List α} (h : RowM E n L v l) (hn : n = A.length) (hm : m ≤ n) : ∃ b, inlC m (A ++ L) (f + 2) v = some (slV b E l) := by
 subst hn
 rcases h with ⟨rfl, rfl⟩ | ⟨j, g, rfl, h2, h3⟩
 ·exact ⟨true, by rw [slV_nil]; rfl⟩
 ·have hb : (A ++ L)[A.length + j]? = some (.row g (flatE E l) true) := by
   unfold getRow at h3
   split at h3
   ·split at h3
    ·rename_i g' cs own hh e
     injection h3 with h3
     injection h3 with h4 h5
     subst e h4 h5
     rw [List.getElem?_append_right (by omega), Nat.add_sub_cancel_left]; exact hh
    ·cases h3
   ·cases h3
  refine ⟨false, ?_⟩
  rw [inlC_slice, inlB_row (by omega) hb flatE_len flatE_imm]
  simp [slV]
theorem RowM.get {α : Type} {E : Enc α} {L : Hp} {j g : Nat} {l : List α} (h : getRow L j g = some (flatE E l, true)) : L[j]? = some (.row g (flatE E l) true) ∧ L.set j (.row g (flatE E l) true) = L := by
 unfold getRow at h
 split at h
 ·split at h
  ·rename_i g' cs own hh e
   injection h with h
   injection h with h4 h5
   subst e h4 h5
   obtain ⟨h6, h7⟩ := List.getElem?_eq_some_iff.1 hh
   exact ⟨hh, by rw [← h7, List.set_getElem_self]⟩
  ·cases h
 ·cases h
theorem flatE_same [Orc] {α : Type} {E : Enc α} {l : List α} {i j : Nat} {v : V} (hi : i < l.length) (hj : j < E.w) (hv : (E.f (E.at l i))[j]? = some v) : setAt (flatE E l) (i * E.w + j) [v] = flatE E l := by
 obtain ⟨_, h2, h3⟩ := flatE_at (E := E) hi
 have h4 := (h3 j hj).trans hv
 obtain ⟨h5, h6⟩ := List.getElem?_eq_some_iff.1 h4
 unfold setAt
 rw [← h6]
 simp
theorem any_take {α : Type} (E : Enc α) {l : List α} {i : Nat} (h : i < l.length) (q : α → Bool) (w : Bool) : (w || (l.take (i + 1)).any q) = ((w || (l.take i).any q) || q (E.at l i)) := by
 rw [E.take_at h, List.any_append, Bool.or_assoc]; simp
theorem any_mem {α : Type} (E : Enc α) {l : List α} {i : Nat} (h : i < l.length) {q : α → Bool} (hq : q (E.at l i) = true) : l.any q = true := List.any_eq_true.2 ⟨_, E.at_mem h, hq⟩
theorem any_none {α : Type} (E : Enc α) {l : List α} {i : Nat} (h : i < l.length) {q : α → Bool} (h0 : (l.take i).any q = false) (hq : q (E.at l i) = false) : (l.take (i + 1)).any q = false := by
 rw [E.take_at h, List.any_append, h0]; simp [hq]
def sameL {α : Type} (S : α → α → Bool) : List α → List α → Bool
 | [], [] => true
 | x :: xs, y :: ys => S x y && sameL S xs ys
 | _, _ => false
theorem sameL_len {α : Type} {S : α → α → Bool} : ∀ {l l' : List α}, l.length ≠ l'.length → sameL S l l' = false
 | [], [], h => absurd rfl h
 | x :: xs, y :: ys, h => by rw [sameL, sameL_len (by simpa using h), Bool.and_false]
 | [], _ :: _, _ => rfl
 | _ :: _, [], _ => rfl
theorem sameL_drop {α : Type} (E : Enc α) {S : α → α → Bool} {l l' : List α} {i : Nat} (h : i < l.length) (h' : i < l'.length) : sameL S (l.drop i) (l'.drop i) = (S (E.at l i) (E.at l' i) && sameL S (l.drop (i + 1)) (l'.drop (i + 1))) := by
 rw [E.drop_at h, E.drop_at h']; rfl
theorem sameL_eq {α : Type} [DecidableEq α] : ∀ {l l' : List α}, sameL (fun x y => decide (x = y)) l l' = decide (l = l')
 | [], [] => by simp [sameL]
 | x :: xs, y :: ys => by simp [sameL, sameL_eq (l := xs) (l' := ys), Bool.decide_and]
 | [], _ :: _ => by simp [sameL]
 | _ :: _, [] => by simp [sameL]
def lsE {α : Type} (E : Enc α) : Enc (List α) := ⟨fun l => [slV true E l], 1, [], fun _ => rfl, by omega, fun l => by
 haveI : Orc := ⟨fun _ _ _ => false, fun _ _ => false, fun _ => false, fun _ => false⟩
 simp only [immL, slV_imm]; rfl⟩
@[go_sem] theorem lsE_f {α : Type} (E : Enc α) (l : List α) : (lsE E).f l = [slV true E l] := rfl
theorem lsE_w {α : Type} (E : Enc α) : (lsE E).w = 1 := rfl
@[go_sem] theorem os_ls [Orc] {H : Hp} {α : Type} {F : Enc α} {id : Nat} {l : List (List α)} (m : List α) (ht : tokAt H id = some l.length) (hb : l.length + 1 ≤ 2 ^ 35) : appOf 1 24 H (osV id (lsE F) l) (.isl [slV true F m] 1 1) = some (osV id (lsE F) (l ++ [m]), H.set id (.tok (l.length + 1))) := by
 have := os_push (E := lsE F) (w := 1) (by_ := 24) m rfl rfl (by rw [ht, Nat.mul_one]) (by omega) (by omega)
 rwa [Nat.mul_one] at this
def co (d : Nat) (o : Op) : Co := ⟨some d, o, false, none, false, false, []⟩
def coi (d : Nat) (o : Op) : Co := ⟨some d, o, true, none, false, false, []⟩
def coz (o : Op) : Co := ⟨none, o, false, none, false, false, []⟩
def cog (d : Nat) (o : Op) (j : Nat) (w : Bool) : Co := ⟨some d, o, false, some (j, w), false, false, []⟩
def tm (t : Nat) : Operand := .tmp t
section
variable [Orc]
variable {P : Program} {cl : CallT} {N n0 : Nat} {T : Fr} {D : Dfr} {H : Hp} {Q : Fr → Dfr → Hp → Prop} {rest : List Co}
@[go_sem] theorem W_co (d : Nat) (o : Op) : W P cl N n0 (co d o :: rest) T D H Q = (d < N ∧ stepQ P cl N n0 (stepW P cl o false T D H) (some d) false [] rest T H Q) := by
 rw [co, W_c]; simp [selfP]
@[go_sem] theorem W_coi (d : Nat) (o : Op) : W P cl N n0 (coi d o :: rest) T D H Q = (d < N ∧ stepQ P cl N n0 (stepW P cl o true T D H) (some d) false [] rest T H Q) := by
 rw [coi, W_c]; simp [selfP]
@[go_sem] theorem W_coz (o : Op) : W P cl N n0 (coz o :: rest) T D H Q = stepQ P cl N n0 (stepW P cl o false T D H) none false [] rest T H Q := by
 rw [coz, W_c0]; simp [selfP]
@[go_sem] theorem W_cog (d : Nat) (o : Op) (j : Nat) (w : Bool) : W P cl N n0 (cog d o j w :: rest) T D H Q = (d < N ∧ guardQ P cl N n0 (get T j) w True (stepW P cl o false T D H) (some d) false [] rest T D H Q) := by
 rw [cog, W_g]; simp [selfP]
@[go_sem] theorem ev_tm (t : Nat) : ev T (tm t) = get T t := rfl
end
attribute [go_sem] Nat.add_zero Nat.zero_add Nat.sub_zero List.drop_zero IntWalk.i64_in Bool.or_self Bool.or_false Bool.or_true Bool.and_false Bool.and_true Bool.false_or Bool.true_or Bool.false_eq_true Bool.true_eq_false
end Go.An
