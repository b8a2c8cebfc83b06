/-
  Texts of this seat, laid together. No statement of the seat stands here.
-/
import Derived.Test.YtdpdlobaabcjjabP4
/-
  The abstract machine, part ED: rows that are known among others; a row of before that a call changes. No statement of the seat stands here.
-/
namespace Go.An
open Go
set_option linter.unusedSectionVars false

section
variable [Orc]
variable {P : Program} {H L : Hp} {k g : Nat}
theorem getRow_of {cs : List V} {o : Bool} (h : H[k]? = some (.row g cs o)) : getRow H k g = some (cs, o) := by simp [getRow, h]
theorem getRow_app' (h : k < H.length) : getRow (H ++ L) k g = getRow H k g := getRow_app h
theorem getRow_setS {cs : List V} {o : Bool} (h : k < H.length) : getRow (H.set k (.row g cs o)) k g = some (cs, o) := by simp [getRow, h]
theorem getRow_setO {j : Nat} {b : AB} (h : j ≠ k) : getRow (H.set j b) k g = getRow H k g := by simp [getRow, h]
theorem set_app {b : AB} (h : k < H.length) : (H ++ L).set k b = H.set k b ++ L := List.set_append_left k b h
theorem set_len {b : AB} : (H.set k b).length = H.length := List.length_set
theorem get_last {A : Hp} {b : AB} {n : Nat} (h : n = A.length) : (A ++ [b])[n]? = some b := by subst h; simp
theorem getRow_lastN {n : Nat} {A : Hp} {cs : List V} {o : Bool} (h : n = A.length) : getRow (A ++ [.row g cs o]) n g = some (cs, o) := by subst h; exact getRow_last g cs o
theorem set_lastN {n : Nat} {A : Hp} {b b' : AB} (h : n = A.length) : (A ++ [b]).set n b' = A ++ [b'] := by subst h; exact set_last b b'
/-- A call that changes one row of before, and makes others. -/
def putQ (x : Option V) (y : Option AB) (H : Hp) (k : Nat) (r : V × Hp) : Prop := ∃ v b, x = some v ∧ y = some b ∧ (v, H.set k b) = r
@[go_sem] theorem putQ_some (v : V) (b : AB) (r : V × Hp) : putQ (some v) (some b) H k r = ((v, H.set k b) = r) := by simp [putQ]
@[go_sem] theorem inlK_row (n : Nat) (H' : Hp) (f : Nat) (cs : List V) (o : Bool) : inlK n H' f (.row g cs o) = (mapO (inlC n H' f) cs).map fun xs => .row g xs o := rfl
theorem gcF_put {v v' : V} {b0 b b' : AB} {H' : Hp} (h0 : H[k]? = some b0) (hb0 : inlK H.length H' 8 b0 = some b0) (h : ∀ id, id < H.length → id ≠ k → H'[id]? = H[id]?) (hb : H'[k]? = some b) (hv : inlR H.length H' 8 v = some v') (hi : inlK H.length H' 8 b = some b') : gcF H (v, H') = (v', H.set k b') := by
  have hk : k < H.length := (List.getElem?_eq_some_iff.1 h0).1
  have key : ∀ n, n ≤ H.length → mapO (frzK H H') (List.range n) = some ((H.set k b').take n) := by
    have app : ∀ (l : List Nat) (j : Nat) (r : List AB) (b : AB), mapO (frzK H H') l = some r → frzK H H' j = some b → mapO (frzK H H') (l ++ [j]) = some (r ++ [b]) := by
      intro l
      induction l with
      | nil =>
        intro k r b h1 h2
        simp only [mapO, Option.some.injEq] at h1
        subst h1
        simp [mapO, h2]
      | cons x l ih =>
        intro k r b h1 h2
        simp only [mapO] at h1
        obtain ⟨y, h3, h4⟩ := Option.bind_eq_some_iff.1 h1
        obtain ⟨ys, h5, rfl⟩ := Option.map_eq_some_iff.1 h4
        rw [List.cons_append]
        simp only [mapO, h3, Option.bind_some]
        rw [ih k ys b h5 h2]
        rfl
    intro n
    induction n with
    | zero => intro _; rfl
    | succ n ih =>
      intro hn
      rw [List.range_succ, app _ n _ (if n = k then b' else (H[n]'(by omega))) (ih (by omega)) ?_]
      · rw [List.take_add_one, List.getElem?_set]
        by_cases e : n = k
        · subst e; simp [hk]
        · rw [if_neg e, if_neg (fun x => e x.symm), List.getElem?_eq_getElem (by omega)]
          rfl
      · unfold frzK
        by_cases e : n = k
        · subst e
          rw [if_pos rfl]
          split
          · rename_i h2
            rw [hb, h0] at h2
            injection h2 with h2
            subst h2
            rw [hb0] at hi
            injection hi with hi
            rw [h0, hi]
          · rw [hb]; exact hi
        · rw [if_neg e, if_pos (h n (by omega) e), List.getElem?_eq_getElem (by omega)]
  unfold gcF
  have := key H.length (Nat.le_refl _)
  rw [List.take_of_length_le (by simp)] at this
  simp only [hv, this]
theorem gcF_set {v : V} {b0 b : AB} {r : V × Hp} (h0 : H[k]? = some b0) (hb0 : inlK H.length (H.set k b ++ L) 8 b0 = some b0) (h : putQ (inlR H.length (H.set k b ++ L) 8 v) (inlK H.length (H.set k b ++ L) 8 b) H k r) : gcF H (v, H.set k b ++ L) = r := by
  obtain ⟨v', b', h1, h2, rfl⟩ := h
  have hk : k < H.length := (List.getElem?_eq_some_iff.1 h0).1
  refine gcF_put h0 hb0 (fun id hid hne => ?_) ?_ h1 h2
  · rw [List.getElem?_append_left (by simpa using hid), List.getElem?_set, if_neg (fun e => hne e.symm)]
  · rw [List.getElem?_append_left (by simpa using hk), List.getElem?_set, if_pos rfl, if_pos hk]
theorem gcF_set0 {v : V} {b0 b : AB} {r : V × Hp} (h0 : H[k]? = some b0) (hb0 : inlK H.length (H.set k b) 8 b0 = some b0) (h : putQ (inlR H.length (H.set k b) 8 v) (inlK H.length (H.set k b) 8 b) H k r) : gcF H (v, H.set k b) = r := by
  have := gcF_set (L := []) (b := b) (v := v) (r := r) h0 (by rwa [List.append_nil]) (by rwa [List.append_nil])
  rwa [List.append_nil] at this
theorem gcF_set2 {v : V} {b0 b : AB} {r : V × Hp} {L1 L2 : Hp} (h0 : H[k]? = some b0) (hb0 : inlK H.length (H.set k b ++ L1 ++ L2) 8 b0 = some b0) (h : putQ (inlR H.length (H.set k b ++ L1 ++ L2) 8 v) (inlK H.length (H.set k b ++ L1 ++ L2) 8 b) H k r) : gcF H (v, H.set k b ++ L1 ++ L2) = r := by
  rw [List.append_assoc] at hb0 h ⊢
  exact gcF_set h0 hb0 h
theorem gcF_set3 {v : V} {b0 b : AB} {r : V × Hp} {L1 L2 L3 : Hp} (h0 : H[k]? = some b0) (hb0 : inlK H.length (H.set k b ++ L1 ++ L2 ++ L3) 8 b0 = some b0) (h : putQ (inlR H.length (H.set k b ++ L1 ++ L2 ++ L3) 8 v) (inlK H.length (H.set k b ++ L1 ++ L2 ++ L3) 8 b) H k r) : gcF H (v, H.set k b ++ L1 ++ L2 ++ L3) = r := by
  rw [List.append_assoc] at hb0 h ⊢
  exact gcF_set2 h0 hb0 h
theorem gcF_set4 {v : V} {b0 b : AB} {r : V × Hp} {L1 L2 L3 L4 : Hp} (h0 : H[k]? = some b0) (hb0 : inlK H.length (H.set k b ++ L1 ++ L2 ++ L3 ++ L4) 8 b0 = some b0) (h : putQ (inlR H.length (H.set k b ++ L1 ++ L2 ++ L3 ++ L4) 8 v) (inlK H.length (H.set k b ++ L1 ++ L2 ++ L3 ++ L4) 8 b) H k r) : gcF H (v, H.set k b ++ L1 ++ L2 ++ L3 ++ L4) = r := by
  rw [List.append_assoc] at hb0 h ⊢
  exact gcF_set3 h0 hb0 h
@[go_sem] theorem inlC_slice (n : Nat) (H' : Hp) (f id g off m sz : Nat) (cp : Cap) : inlC n H' f (.slice id g off m sz cp) = inlB n H' f (.slice id g off m sz cp) := rfl
/-- What is laid behind nothing. -/
theorem bl_nil {α : Type} {w by_ : Nat} (E : Enc α) (zs : List α) (b : Bool) (hw : E.w = w) (hb : zs.length * by_ ≤ 2 ^ 40) (hb2 : zs.length ≤ 2 ^ 40) :
    appOf w by_ H .nilslice (slV b E zs) = some (blV H.length 0 w (zs.map E.f), H ++ blH 0 (zs.map E.f)) := by
  have := bl_all (H := H) (n := H.length) (g := 0) (w := w) (by_ := by_) E [] zs b rfl hw (by simpa using hb) (by simpa using hb2)
  simp only [List.map_nil, blV_nil, blH_nil, List.append_nil, List.nil_append] at this
  rw [this]
  by_cases h : zs = [] <;> simp [h, blG]
/-- A slice that has grown, laid into a row of before. -/
theorem inlC_bl {α : Type} {E : Enc α} {n m g w f : Nat} {ys : List α} {A : Hp} (hm : m = A.length) (hn : n ≤ m) (hw : E.w = w) : inlC n (A ++ blH g (ys.map E.f)) (f + 2) (blV m g w (ys.map E.f)) = some (slV true E ys) := by
  rw [inlC_blV]
  exact inlB_bl0 hm hn hw
/-! A slice of a row, cut. -/
theorem cut_sl {t : TypeId} {sz id off n : Nat} {cp : Cap} {kk kk' : IntKind} {lo hi : Int} (ht : sliceT P t sz = true) (h : 0 ≤ lo ∧ lo ≤ hi ∧ hi ≤ (n : Int)) : sliceV P t H (.slice id g off n sz cp) (some (.int kk lo)) (some (.int kk' hi)) = some (.slice id g (off + lo.toNat * sz) (hi.toNat - lo.toNat) sz (cutCap cp lo.toNat)) := by
  unfold sliceT at ht
  split at ht
  · rename_i e hu
    have hz : szOf P e = some sz := by simpa using ht
    simp only [sliceV, hu, boundV, Option.bind_some]
    rw [if_pos ⟨hz, h.1, h.2.1, h.2.2⟩]
  · cases ht
theorem hi_sl {t : TypeId} {sz id off n : Nat} {cp : Cap} {lo : Option V} (ht : sliceT P t sz = true) : sliceV P t H (.slice id g off n sz cp) lo none = sliceV P t H (.slice id g off n sz cp) lo (some (.int .i64 n)) := by
  unfold sliceT at ht
  split at ht
  · rename_i e hu
    simp only [sliceV, hu, boundV]
  · cases ht
theorem src_sl {id off n sz : Nat} {cp : Cap} {cs : List V} {o : Bool} (h : getRow H id g = some (cs, o)) (hl : off + n * sz ≤ cs.length) : srcCells H (.slice id g off n sz cp) = some ((cs.drop off).take (n * sz), n) := by
  simp only [srcCells, h, Option.bind_some]
  rw [if_pos hl]
theorem app_nil0 {w by_ : Nat} {x : V} (h : srcCells H x = some ([], 0)) : appOf w by_ H .nilslice x = some (.nilslice, H) := by
  simp [appOf, h]
theorem app_one {w by_ : Nat} {cs : List V} (h : cs.length = w) (hi : immL cs = true) (hb : by_ ≤ 2 ^ 40) : appOf w by_ H .nilslice (.isl cs 1 w) = some (.slice H.length 0 0 1 w .full, H ++ [.row 0 cs true]) := by
  have e : cs.length = 1 * w := by omega
  simp only [appOf, srcCells, if_pos e, Option.bind_some]
  rw [if_pos ⟨e, immL_cells hi⟩, if_neg (by omega), if_pos ⟨by omega, by omega⟩]
theorem inlC_old {n f id off m sz : Nat} {cp : Cap} (h : id < n) : inlC n H (f + 1) (.slice id g off m sz cp) = some (.slice id g off m sz cp) := by simp [inlC, inlB, h]
/-! A slice that has grown, in memory. -/
section
variable {α : Type} {E : Enc α} {l : List α}
theorem map_ne (h : 0 < l.length) : ¬ l.map E.f = [] := by
  intro e
  simp only [List.map_eq_nil_iff] at e
  subst e
  simp at h
theorem ix_bl {t : TypeId} {n w : Nat} {kk : IntKind} {j : Int} (ht : sliceT P t w = true) (h : 0 ≤ j ∧ j < (l.length : Int)) : indexAddrV P t (blV n g w (l.map E.f)) (.int kk j) = some (.ptr n g (j.toNat * w)) := by
  unfold blV
  rw [if_neg (map_ne (by omega)), ia_slice ht (by simpa using h), Nat.zero_add]
theorem getRow_bl {A : Hp} {n : Nat} (hn : n = A.length) (h : 0 < l.length) : getRow (A ++ blH g (l.map E.f)) n g = some (flatE E l, true) := by
  subst hn
  unfold blH
  rw [if_neg (map_ne h)]
  exact getRow_last g _ true
theorem set_bl {A : Hp} {n : Nat} {b : AB} (hn : n = A.length) (h : 0 < l.length) : (A ++ blH g (l.map E.f)).set n b = A ++ [b] := by
  subst hn
  unfold blH
  rw [if_neg (map_ne h)]
  exact set_last _ b
theorem blV_some {n w : Nat} (h : 0 < l.length) : blV n g w (l.map E.f) = .slice n g 0 l.length w .full := by
  unfold blV
  rw [if_neg (map_ne h), List.length_map]
theorem setAt_app {xs ys : List V} {j : Nat} {v : V} (h : j < xs.length) : setAt (xs ++ ys) j [v] = setAt xs j [v] ++ ys := by
  unfold setAt
  simp only [List.length_singleton]
  rw [List.take_append_of_le_length (by omega), List.drop_append_of_le_length (by omega)]
  simp
theorem setAt_skip {xs ys : List V} {j : Nat} {v : V} : setAt (xs ++ ys) (xs.length + j) [v] = xs ++ setAt ys j [v] := by
  unfold setAt
  simp only [List.length_singleton]
  rw [List.take_length_add_append, show xs.length + j + 1 = xs.length + (j + 1) by omega, List.drop_length_add_append]
  simp
theorem flatE_set : ∀ {l : List α} {i j : Nat} {v : V} {a : α}, i < l.length → j < E.w → E.f a = setAt (E.f (E.at l i)) j [v] → setAt (flatE E l) (i * E.w + j) [v] = flatE E (l.set i a)
  | [], _, _, _, _, h, _, _ => by simp at h
  | x :: l, 0, j, v, a, _, hj, h => by
    have h' : E.f a = setAt (E.f x) j [v] := h
    show setAt (E.f x ++ flatE E l) _ _ = E.f a ++ flatE E l
    rw [h', Nat.zero_mul, Nat.zero_add, setAt_app (by rw [E.len]; exact hj)]
  | x :: l, i + 1, j, v, a, hi, hj, h => by
    show setAt (E.f x ++ flatE E l) _ _ = E.f x ++ flatE E (l.set i a)
    rw [← flatE_set (l := l) (i := i) (by simpa using hi) hj h, ← setAt_skip, E.len]
    congr 1
    rw [Nat.succ_mul]
    omega
theorem setAt_whole {xs ys vs : List V} (h : vs.length = xs.length) : setAt (xs ++ ys) 0 vs = vs ++ ys := by
  unfold setAt
  simp [h]
theorem setAt_skipN {xs ys vs : List V} {j : Nat} : setAt (xs ++ ys) (xs.length + j) vs = xs ++ setAt ys j vs := by
  show List.take (xs.length + j) (xs ++ ys) ++ vs ++ List.drop (xs.length + j + vs.length) (xs ++ ys) = xs ++ (List.take j ys ++ vs ++ List.drop (j + vs.length) ys)
  rw [List.take_length_add_append, show xs.length + j + vs.length = xs.length + (j + vs.length) by omega, List.drop_length_add_append]
  simp
theorem flatE_setE : ∀ {l : List α} {i : Nat} {a : α}, i < l.length → setAt (flatE E l) (i * E.w) (E.f a) = flatE E (l.set i a)
  | [], _, _, h => by simp at h
  | x :: l, 0, a, _ => by
    show setAt (E.f x ++ flatE E l) _ _ = E.f a ++ flatE E l
    rw [Nat.zero_mul, setAt_whole (by rw [E.len, E.len])]
  | x :: l, i + 1, a, hi => by
    show setAt (E.f x ++ flatE E l) _ _ = E.f x ++ flatE E (l.set i a)
    rw [← flatE_setE (l := l) (i := i) (by simpa using hi), ← setAt_skipN, E.len]
    congr 1
    rw [Nat.succ_mul]
    omega
theorem mapO_app {f : V → Option V} : ∀ {xs ys xs' ys' : List V}, mapO f xs = some xs' → mapO f ys = some ys' → mapO f (xs ++ ys) = some (xs' ++ ys')
  | [], ys, xs', ys', h1, h2 => by
    simp only [mapO_nil, Option.some.injEq] at h1
    subst h1
    exact h2
  | x :: xs, ys, xs', ys', h1, h2 => by
    rw [mapO_cons] at h1
    obtain ⟨y, h3, h4⟩ := Option.bind_eq_some_iff.1 h1
    obtain ⟨zs, h5, rfl⟩ := Option.map_eq_some_iff.1 h4
    rw [List.cons_append, mapO_cons, h3, mapO_app h5 h2]
    rfl
theorem mapO_setAt {f : V → Option V} {cs : List V} {j : Nat} {v v' : V} (h : ∀ xs, (∀ x ∈ xs, x ∈ cs) → mapO f xs = some xs) (hv : f v = some v') : mapO f (setAt cs j [v]) = some (setAt cs j [v']) := by
  unfold setAt
  simp only [List.length_singleton]
  refine mapO_app (mapO_app (h _ fun x hx => List.mem_of_mem_take hx) (by simp [mapO, hv])) (h _ fun x hx => List.mem_of_mem_drop hx)
/-- A grown slice one of whose elements has got a grown slice, laid into a row of before. -/
theorem inlB_setAt {A : Hp} {n m w f i j : Nat} {v v' : V} {a : α} (hn : n ≤ m) (hm : m = A.length) (hw : E.w = w) (hi : i < l.length) (hj : j < w) (hv : inlB n (A ++ [.row g (setAt (flatE E l) (i * w + j) [v]) true]) (f + 1) v = some v') (ha : E.f a = setAt (E.f (E.at l i)) j [v']) :
    inlB n (A ++ [.row g (setAt (flatE E l) (i * w + j) [v]) true]) (f + 2) (.slice m g 0 l.length w .full) = some (slV true E (l.set i a)) := by
  subst hw hm
  have hl : (setAt (flatE E l) (i * E.w + j) [v]).length = l.length * E.w := by
    have := flatE_len (E := E) (l := l)
    unfold setAt
    simp only [List.length_append, List.length_take, List.length_drop, List.length_singleton, this]
    have : i * E.w + E.w ≤ l.length * E.w := by
      rw [← Nat.succ_mul]
      exact Nat.mul_le_mul_right _ hi
    omega
  rw [inlB]
  rw [if_neg (by omega)]
  have e : (A ++ [AB.row g (setAt (flatE E l) (i * E.w + j) [v]) true])[A.length]? = some (.row g (setAt (flatE E l) (i * E.w + j) [v]) true) := by simp
  simp only [e]
  rw [if_pos ⟨trivial, by omega⟩, List.drop_zero, List.take_of_length_le (by omega)]
  rw [mapO_setAt (fun xs hx => mapO_imm (immL_iff.2 fun x h => immL_iff.1 flatE_imm x (hx x h))) hv]
  simp only [Option.bind_some]
  rw [flatE_set hi hj ha, if_pos flatE_imm]
  rw [slV_some (by simpa using Nat.lt_of_le_of_lt (Nat.zero_le _) hi), List.length_set]
end
/-- What lies in one row, laid behind nothing. -/
theorem app_row {w by_ id : Nat} {cp : Cap} {cs : List V} {o : Bool} (h : getRow H id g = some (cs, o)) (hw : cs.length = w) (hc : cs.all V.isCell = true) (hb : by_ ≤ 2 ^ 40) : appOf w by_ H .nilslice (.slice id g 0 1 w cp) = some (.slice H.length 0 0 1 w .full, H ++ [.row 0 cs true]) := by
  subst hw
  unfold appOf
  rw [src_sl h (by omega)]
  have e : (cs.drop 0).take (1 * cs.length) = cs := by simp
  simp only [e, Option.bind_some]
  rw [if_pos ⟨by omega, hc⟩, if_neg (by omega), if_pos ⟨by omega, by omega⟩]
/-- One row that a call has made, laid into what it is told with. -/
theorem inlB_one {n f id w : Nat} {cs xs : List V} (hn : n ≤ id) (h : H[id]? = some (.row g cs true)) (hw : cs.length = w) (hc : mapO (inlB n H f) cs = some xs) (hi : immL xs = true) : inlB n H (f + 1) (.slice id g 0 1 w .full) = some (.isl xs 1 w) := by
  subst hw
  rw [inlB, if_neg (by omega)]
  simp only [h]
  rw [if_pos ⟨trivial, by omega⟩, List.drop_zero, List.take_of_length_le (by omega), hc]
  simp [hi]
end
end Go.An
/-
  The abstract machine, part EE: slices of a row of their own, somewhere in memory; lists as values of any kind. No statement of the seat stands here.
-/
namespace Go.An
open Go
set_option linter.unusedSectionVars false

section
variable [Orc]
variable {P : Program} {H : Hp} {α : Type}
/-- A slice of a row of its own. -/
def OwnE (E : Enc α) (H : Hp) (v : V) (l : List α) : Prop :=
  (v = .nilslice ∧ l = []) ∨ ∃ id g, v = .slice id g 0 l.length E.w .full ∧ 0 < l.length ∧ H[id]? = some (.row g (flatE E l) true)
theorem ownE_nil (E : Enc α) (H : Hp) : OwnE E H .nilslice [] := .inl ⟨rfl, rfl⟩
theorem OwnE.frame {E : Enc α} {H' : Hp} {v : V} {l : List α} (h : OwnE E H v l) (hf : ∀ id, At v id → H'[id]? = H[id]?) : OwnE E H' v l := by
  rcases h with h | ⟨id, g, rfl, h1, h2⟩
  · exact .inl h
  · exact .inr ⟨id, g, rfl, h1, by rw [hf id ⟨_, _, _, _, _, rfl⟩]; exact h2⟩
theorem OwnE.lt {E : Enc α} {v : V} {l : List α} (h : OwnE E H v l) {id : Nat} (ha : At v id) : id < H.length := by
  obtain ⟨g, o, n, z, cp, e⟩ := ha
  rcases h with ⟨rfl, _⟩ | ⟨id', g', rfl, _, h2⟩
  · cases e
  · injection e with e1; subst e1; exact (List.getElem?_eq_some_iff.1 h2).1
theorem OwnE.app {E : Enc α} {v : V} {l : List α} (h : OwnE E H v l) (L : Hp) : OwnE E (H ++ L) v l := h.frame fun _ ha => List.getElem?_append_left (h.lt ha)
theorem OwnE.cell {E : Enc α} {v : V} {l : List α} (h : OwnE E H v l) : v.isCell = true ∧ v.cells = [v] ∧ v.isTup = false ∧ eqA v v = true ∧ eqC v v = true := by
  rcases h with ⟨rfl, _⟩ | ⟨id, g, rfl, _, _⟩
  · exact ⟨rfl, rfl, rfl, rfl, rfl⟩
  · exact ⟨rfl, rfl, rfl, eqA_slice .., by simp [eqC, eqBase]⟩
theorem OwnE.len {E : Enc α} {v : V} {l : List α} (h : OwnE E H v l) {t : TypeId} {z : Nat} (ht : sliceT P t z = true) (H' : Hp) : lenV P t H' v = some (.int .i64 l.length) := by
  rcases h with ⟨rfl, rfl⟩ | ⟨id, g, rfl, _, _⟩
  · exact len_nilslice ht
  · exact len_slice ht ..
theorem OwnE.idx {E : Enc α} {v : V} {l : List α} (h : OwnE E H v l) {t : TypeId} {w : Nat} (ht : sliceT P t w = true) (hw : E.w = w) {kk : IntKind} {j : Int} (hj : 0 ≤ j ∧ j < (l.length : Int)) : indexAddrV P t v (.int kk j) = some (.ptr (vid v) (vgen v) (j.toNat * w)) := by
  subst hw
  rcases h with ⟨rfl, rfl⟩ | ⟨id, g, rfl, _, _⟩
  · simp at hj; omega
  · rw [ia_slice ht hj, Nat.zero_add]; rfl
theorem OwnE.row {E : Enc α} {v : V} {l : List α} (h : OwnE E H v l) (hl : 0 < l.length) : getRow H (vid v) (vgen v) = some (flatE E l, true) := by
  rcases h with ⟨rfl, rfl⟩ | ⟨id, g, rfl, _, h2⟩
  · simp at hl
  · exact getRow_of h2
theorem OwnE.at_ {E : Enc α} {v : V} {l : List α} (h : OwnE E H v l) (hl : 0 < l.length) : At v (vid v) := by
  rcases h with ⟨rfl, rfl⟩ | ⟨id, g, rfl, _, h2⟩
  · simp at hl
  · exact ⟨_, _, _, _, _, rfl⟩
theorem OwnE.set {E : Enc α} {v : V} {l l' : List α} (h : OwnE E H v l) (hl : 0 < l.length) (he : l'.length = l.length) : OwnE E (H.set (vid v) (.row (vgen v) (flatE E l') true)) v l' := by
  rcases h with ⟨rfl, rfl⟩ | ⟨id, g, rfl, h1, h2⟩
  · simp at hl
  · refine .inr ⟨id, g, by rw [he], by omega, ?_⟩
    show (H.set id _)[id]? = _
    rw [List.getElem?_set_self (List.getElem?_eq_some_iff.1 h2).1]
    rfl
theorem OwnE.push {E : Enc α} {v : V} {l : List α} {w by_ : Nat} (h : OwnE E H v l) (a : α) (hw : E.w = w) (hb : (l.length + 1) * by_ ≤ 2 ^ 40) (hb2 : l.length + 1 ≤ 2 ^ 40) :
    ∃ v' H', appOf w by_ H v (.isl (E.f a) 1 w) = some (v', H') ∧ OwnE E H' v' (l ++ [a]) ∧ (∀ id, id < H.length → ¬ At v id → H'[id]? = H[id]?) ∧ H.length ≤ H'.length ∧ (∀ id, At v' id → At v id ∨ H.length ≤ id) := by
  subst hw
  have hp := E.pos
  have e1 : (E.f a).length = 1 * E.w := by rw [E.len]; omega
  unfold appOf
  simp only [srcCells, if_pos e1, Option.bind_some]
  rw [if_pos ⟨e1, immL_cells (E.imm a)⟩]
  rcases h with ⟨rfl, rfl⟩ | ⟨id, g, rfl, h1, h2⟩
  · simp only [List.length_nil, Nat.zero_add, Nat.one_mul] at hb hb2
    refine ⟨_, H ++ [.row 0 (E.f a) true], ?_, .inr ⟨H.length, 0, rfl, by simp, by simp [flatE]⟩, ?_, by simp, ?_⟩
    · simp only
      rw [if_neg (by omega), if_pos ⟨by omega, by omega⟩]
      simp
    · intro id hid _
      rw [List.getElem?_append_left hid]
    · rintro id ⟨g, o, n, z, cp, e⟩
      injection e with e1
      right; omega
  · have hid : id < H.length := (List.getElem?_eq_some_iff.1 h2).1
    have hl := flatE_len (E := E) (l := l)
    have hr := getRow_of h2
    refine ⟨_, H.set id (.row (g + 1) (flatE E l ++ E.f a) true), ?_, .inr ⟨id, g + 1, rfl, by simp, ?_⟩, ?_, by simp, ?_⟩
    · simp only
      rw [hr]
      simp only [Option.bind_some]
      rw [if_pos ⟨trivial, by omega, by omega, by omega⟩, if_neg (by omega), if_pos trivial, if_neg (by rw [Nat.add_mul]; omega), if_pos (by omega)]
      simp
    · rw [List.getElem?_set_self hid]
      simp [flatE]
    · intro id' hid' hn
      have hne : id ≠ id' := fun e => hn ⟨g, 0, l.length, E.w, .full, by rw [e]⟩
      rw [List.getElem?_set_ne hne]
    · rintro id' ⟨g', o, n', z, cp, e⟩
      injection e with e1
      subst e1
      exact .inl ⟨g, 0, l.length, E.w, .full, rfl⟩
/-- What a call has made, laid into its answer. -/
theorem OwnE.inl {E : Enc α} {v : V} {l : List α} (h : OwnE E H v l) {n f : Nat} (hn : ∀ id, At v id → n ≤ id) : inlB n H (f + 2) v = some (slV true E l) := by
  rcases h with ⟨rfl, rfl⟩ | ⟨id, g, rfl, h1, h2⟩
  · rw [slV_nil]; rfl
  · rw [inlB_row (hn id ⟨_, _, _, _, _, rfl⟩) h2 flatE_len flatE_imm, slV_some h1]
/-- A list as a value: one that stays as it is, or a row's. -/
def LstE (E : Enc α) (H : Hp) (s : V) (l : List α) : Prop := (∃ b, s = slV b E l) ∨ ∃ id g, s = .slice id g 0 l.length E.w .full ∧ getRow H id g = some (flatE E l, true)
theorem LstE.of (E : Enc α) (H : Hp) (b : Bool) (l : List α) : LstE E H (slV b E l) l := .inl ⟨b, rfl⟩
theorem LstE.app {E : Enc α} {s : V} {l : List α} (h : LstE E H s l) (L : Hp) : LstE E (H ++ L) s l := by
  rcases h with ⟨b, rfl⟩ | ⟨id, g, rfl, hr⟩
  · exact .of E _ b l
  · exact .inr ⟨id, g, rfl, by rw [getRow_app (getRow_lt hr)]; exact hr⟩
theorem OwnE.lst {E : Enc α} {v : V} {l : List α} (h : OwnE E H v l) : LstE E H v l := by
  rcases h with ⟨rfl, rfl⟩ | ⟨id, g, rfl, h1, h2⟩
  · exact .inl ⟨true, (slV_nil E).symm⟩
  · exact .inr ⟨id, g, rfl, getRow_of h2⟩
theorem LstE.bl {E : Enc α} {A : Hp} {n g w : Nat} {l : List α} (hn : n = A.length) (hw : E.w = w) (hl : 0 < l.length) : LstE E (A ++ blH g (l.map E.f)) (blV n g w (l.map E.f)) l := by
  subst hw
  exact .inr ⟨n, g, blV_some hl, getRow_bl hn hl⟩
theorem ldR {id g off : Nat} {t : TypeId} : loadV P t H (.ptr id g off) = (getRow H id g).bind fun r => partV P t r.1 off := loadV_ptr t id g off
theorem lq_agg {E : Enc α} {l : List α} {t : TypeId} {w i : Nat} (hg : aggT P t = some true) (hz : szOf P t = some w) (hw : E.w = w) (hi : i < l.length) : partV P t (flatE E l) (i * w) = some (.agg (E.f (E.at l i))) := (loadV_ipt (H := []) t _ _).symm.trans (ld_agg hg hz hw hi)
theorem lq_cell {E : Enc α} {l : List α} {t : TypeId} {w i j : Nat} (hg : aggT P t = some false) (hw : E.w = w) (hi : i < l.length) (hj : j < w) : partV P t (flatE E l) (i * w + j) = (E.f (E.at l i))[j]? := (loadV_ipt (H := []) t _ _).symm.trans (ld_cell hg hw hi hj)
theorem lq_cell0 {E : Enc α} {l : List α} {t : TypeId} {w i : Nat} (hg : aggT P t = some false) (hw : E.w = w) (hi : i < l.length) : partV P t (flatE E l) (i * w) = (E.f (E.at l i))[0]? := (loadV_ipt (H := []) t _ _).symm.trans (ld_cell0 hg hw hi)
end
end Go.An
/-
  Pieces as plain data; the small functions on one piece, walked. No statement of the seat stands here.
-/
namespace Go.Proofs.Ytdpdlobaabcjjab
open Go Go.An
set_option maxRecDepth 4000
set_option linter.unusedSimpArgs false
set_option linter.unusedVariables false

/-- A piece: its numbers, its bytes (nothing at all may be nil). -/
structure Pc where
  id : Int
  at_ : Int
  more : Bool
  nl : Bool
  data : List UInt8
  time : Int
def pcC (p : Pc) : List V := [.int .i64 p.id, .int .i64 p.at_, .bool p.more, slV p.nl byE p.data, .int .i64 p.time]
def pcE : Enc Pc := ⟨pcC, 5, ⟨0, 0, false, true, [], 0⟩, fun _ => rfl, by decide, fun p => by simp only [pcC, immL, slV_imm]; rfl⟩
theorem pcE_f (p : Pc) : pcE.f p = [.int .i64 p.id, .int .i64 p.at_, .bool p.more, slV p.nl byE p.data, .int .i64 p.time] := rfl
@[go_sem] theorem pcE_w : pcE.w = 5 := rfl
@[go_sem] theorem pcE_l (p : Pc) : (pcE.f p).length = 5 := rfl
@[go_sem] theorem pcE_0 (p : Pc) : (pcE.f p)[0]? = some (.int .i64 p.id) := rfl
@[go_sem] theorem pcE_1 (p : Pc) : (pcE.f p)[1]? = some (.int .i64 p.at_) := rfl
@[go_sem] theorem pcE_2 (p : Pc) : (pcE.f p)[2]? = some (.bool p.more) := rfl
@[go_sem] theorem pcE_3 (p : Pc) : (pcE.f p)[3]? = some (slV p.nl byE p.data) := rfl
@[go_sem] theorem pcE_4 (p : Pc) : (pcE.f p)[4]? = some (.int .i64 p.time) := rfl
@[go_sem] theorem pcE_t (p : Pc) : (pcE.f p).take 5 = pcE.f p := rfl
structure PcOk (p : Pc) : Prop where
  small : p.data.length ≤ 140737488355328
  rid : Inx p.id
  rat : Inx p.at_
  rtime : Inx p.time

theorem rd_piece {m : Nat} {x : List V} (h : RdT Try.prog (m + 3) 37 x) : ∃ p : Pc, x = pcE.f p ∧ PcOk p := by
  obtain ⟨xss, rfl, k0⟩ := rd_parts (ts := [3, 3, 4, 25, 3]) (by kernel_rfl) h
  clear h
  obtain ⟨x1, l1, rfl, h1, k1⟩ := rdTs_cons k0
  obtain ⟨x2, l2, rfl, h2, k2⟩ := rdTs_cons k1
  obtain ⟨x3, l3, rfl, h3, k3⟩ := rdTs_cons k2
  obtain ⟨x4, l4, rfl, h4, k4⟩ := rdTs_cons k3
  obtain ⟨x5, l5, rfl, h5, k5⟩ := rdTs_cons k4
  obtain rfl := rdTs_nil k5
  obtain ⟨i, rfl, hi⟩ := rd_i64 (m := m + 1) u3 h1
  obtain ⟨a, rfl, ha⟩ := rd_i64 (m := m + 1) u3 h2
  obtain ⟨b, rfl⟩ := rd_bool (m := m + 1) u4 h3
  obtain ⟨c, l, rfl, _, hb, _⟩ := rd_bytes (m := m) u25 u5 (by kernel_rfl) h4
  obtain ⟨t, rfl, ht⟩ := rd_i64 (m := m + 1) u3 h5
  have e : Try.prog.bytesOf 5 = 1 := by kernel_rfl
  rw [e] at hb
  refine ⟨⟨i, a, b, c, l, t⟩, rfl, ⟨?_, hi, ha, ht⟩⟩
  simp only [Go.reachBytes] at hb
  show l.length ≤ _
  omega
theorem arg_pieces {m : Nat} {x : V} (h : ArgT Try.prog (m + 4) 22 x) : ∃ (b : Bool) (l : List Pc), x = slV b pcE l ∧ (∀ p ∈ l, PcOk p) ∧ l.length ≤ 9223372036854775807 := by
  obtain ⟨b, l, h1, h2, _, h4⟩ := arg_list (m := m + 3) (E := pcE) (Ok := PcOk) u22 (by kernel_rfl) (fun x hx => rd_piece hx) h
  exact ⟨b, l, h1, h2, h4⟩

def pcEnd (p : Pc) : Int := p.at_ + p.data.length
def okTime (n : Int) : Bool := decide (0 ≤ n) && decide (n ≤ 1000000000000000)
def isPieceB (p : Pc) : Bool := decide (0 ≤ p.id) && decide (p.id ≤ 4294967295) && decide (0 ≤ p.at_) && okTime p.time
def isFarB (p : Pc) : Bool := decide (4000 < p.at_) || decide (4000 < pcEnd p)
def askedI (p : Pc) : Int := if isPieceB p = true then (if isFarB p = true then 3 else 0) else 1

theorem fn48 (n : Int) (H : Hp) : callL Try.prog pr 48 [.int .i64 n] H = some (.bool (okTime n), H) := by
  refine run48 (Nat.le_of_ble_eq_true rfl) ?_
  unfold okTime
  simp (disch := first | rfl | omega | exact byE_w | exact inE_w | exact boE_w | exact stE_w | exact pcE_w | exact lt_new _ | assumption | (simp only [List.length_append, List.length_singleton, List.length_set, List.length_take, List.length_drop, List.length_map]; done) | (simp only [List.length_append, List.length_singleton, List.length_set, List.length_take, List.length_drop, List.length_map]; omega)) only [r48_0, r48_1, c48, rs48, gc48, ↓reduceIte, go_sem, Nat.add_zero, Nat.zero_add, Nat.sub_zero, List.drop_zero, Nat.reduceLT, Nat.reduceEqDiff, Nat.reduceAdd, Nat.reduceMul, Nat.reduceSub, Int.reduceAdd, Int.reduceSub, Nat.reduceLeDiff, Int.reduceLT, Int.reduceLE, Int.reduceEq, Int.reduceNeg, Int.reduceToNat, IntWalk.i64_in, Bool.or_self, Bool.or_false, Bool.or_true, Bool.and_false, Bool.and_true, Bool.false_or, Bool.true_or, Bool.false_eq_true, Bool.true_eq_false, *]
  repeat' ((first | refine guardB_dec (fun hy => ?_) (fun hy => ?_) | refine guardB_bool (fun hy => ?_) (fun hy => ?_) | refine guardQ_ite (fun hy => ?_) (fun hy => ?_) | refine brQ_dec (fun hy => ?_) (fun hy => ?_) | refine brQ_bool (fun hy => ?_) (fun hy => ?_)) <;> (try simp only [Bool.not_eq_true', Bool.not_eq_false', Bool.and_eq_true, Bool.or_eq_false_iff, decide_eq_true_eq, decide_eq_false_iff_not] at hy) <;> simp (disch := first | rfl | omega | exact byE_w | exact inE_w | exact boE_w | exact stE_w | exact pcE_w | exact lt_new _ | assumption | (simp only [List.length_append, List.length_singleton, List.length_set, List.length_take, List.length_drop, List.length_map]; done) | (simp only [List.length_append, List.length_singleton, List.length_set, List.length_take, List.length_drop, List.length_map]; omega)) only [r48_0, r48_1, c48, rs48, gc48, ↓reduceIte, go_sem, Nat.add_zero, Nat.zero_add, Nat.sub_zero, List.drop_zero, Nat.reduceLT, Nat.reduceEqDiff, Nat.reduceAdd, Nat.reduceMul, Nat.reduceSub, Int.reduceAdd, Int.reduceSub, Nat.reduceLeDiff, Int.reduceLT, Int.reduceLE, Int.reduceEq, Int.reduceNeg, Int.reduceToNat, IntWalk.i64_in, Bool.or_self, Bool.or_false, Bool.or_true, Bool.and_false, Bool.and_true, Bool.false_or, Bool.true_or, Bool.false_eq_true, Bool.true_eq_false, *])
  all_goals (try ((first | refine finQ_same ?_ | refine finQ_app ?_ | (rw [List.append_assoc]; refine finQ_app ?_)) <;> simp (disch := first | rfl | omega | exact byE_w | exact inE_w | exact boE_w | exact stE_w | exact pcE_w | exact lt_new _ | assumption | (simp only [List.length_append, List.length_singleton, List.length_set, List.length_take, List.length_drop, List.length_map]; done) | (simp only [List.length_append, List.length_singleton, List.length_set, List.length_take, List.length_drop, List.length_map]; omega)) only [↓reduceIte, go_sem, Nat.add_zero, Nat.zero_add, Nat.sub_zero, List.drop_zero, Nat.reduceLT, Nat.reduceEqDiff, Nat.reduceAdd, Nat.reduceMul, Nat.reduceSub, Int.reduceAdd, Int.reduceSub, Nat.reduceLeDiff, Int.reduceLT, Int.reduceLE, Int.reduceEq, Int.reduceNeg, Int.reduceToNat, IntWalk.i64_in, Bool.or_self, Bool.or_false, Bool.or_true, Bool.and_false, Bool.and_true, Bool.false_or, Bool.true_or, Bool.false_eq_true, Bool.true_eq_false, List.append_assoc, List.cons_append, List.nil_append, *]))
  all_goals (try first | rfl | (simp [*]; done) | grind)
theorem fn34 (p : Pc) (H : Hp) : callL Try.prog pr 34 [.agg (pcE.f p)] H = some (.bool (isPieceB p), H) := by
  refine run34 (Nat.le_of_ble_eq_true rfl) ?_
  unfold isPieceB
  simp (disch := first | rfl | omega | exact byE_w | exact inE_w | exact boE_w | exact stE_w | exact pcE_w | exact lt_new _ | assumption | (simp only [List.length_append, List.length_singleton, List.length_set, List.length_take, List.length_drop, List.length_map]; done) | (simp only [List.length_append, List.length_singleton, List.length_set, List.length_take, List.length_drop, List.length_map]; omega)) only [r34_0, r34_1, c34, rs34, gc34, fn48, ↓reduceIte, go_sem, Nat.add_zero, Nat.zero_add, Nat.sub_zero, List.drop_zero, Nat.reduceLT, Nat.reduceEqDiff, Nat.reduceAdd, Nat.reduceMul, Nat.reduceSub, Int.reduceAdd, Int.reduceSub, Nat.reduceLeDiff, Int.reduceLT, Int.reduceLE, Int.reduceEq, Int.reduceNeg, Int.reduceToNat, IntWalk.i64_in, Bool.or_self, Bool.or_false, Bool.or_true, Bool.and_false, Bool.and_true, Bool.false_or, Bool.true_or, Bool.false_eq_true, Bool.true_eq_false, *]
  repeat' ((first | refine guardB_dec (fun hy => ?_) (fun hy => ?_) | refine guardB_bool (fun hy => ?_) (fun hy => ?_) | refine guardQ_ite (fun hy => ?_) (fun hy => ?_) | refine brQ_dec (fun hy => ?_) (fun hy => ?_) | refine brQ_bool (fun hy => ?_) (fun hy => ?_)) <;> (try simp only [Bool.not_eq_true', Bool.not_eq_false', Bool.and_eq_true, Bool.or_eq_false_iff, decide_eq_true_eq, decide_eq_false_iff_not] at hy) <;> simp (disch := first | rfl | omega | exact byE_w | exact inE_w | exact boE_w | exact stE_w | exact pcE_w | exact lt_new _ | assumption | (simp only [List.length_append, List.length_singleton, List.length_set, List.length_take, List.length_drop, List.length_map]; done) | (simp only [List.length_append, List.length_singleton, List.length_set, List.length_take, List.length_drop, List.length_map]; omega)) only [r34_0, r34_1, c34, rs34, gc34, fn48, ↓reduceIte, go_sem, Nat.add_zero, Nat.zero_add, Nat.sub_zero, List.drop_zero, Nat.reduceLT, Nat.reduceEqDiff, Nat.reduceAdd, Nat.reduceMul, Nat.reduceSub, Int.reduceAdd, Int.reduceSub, Nat.reduceLeDiff, Int.reduceLT, Int.reduceLE, Int.reduceEq, Int.reduceNeg, Int.reduceToNat, IntWalk.i64_in, Bool.or_self, Bool.or_false, Bool.or_true, Bool.and_false, Bool.and_true, Bool.false_or, Bool.true_or, Bool.false_eq_true, Bool.true_eq_false, *])
  all_goals (try ((first | refine finQ_same ?_ | refine finQ_app ?_ | (rw [List.append_assoc]; refine finQ_app ?_)) <;> simp (disch := first | rfl | omega | exact byE_w | exact inE_w | exact boE_w | exact stE_w | exact pcE_w | exact lt_new _ | assumption | (simp only [List.length_append, List.length_singleton, List.length_set, List.length_take, List.length_drop, List.length_map]; done) | (simp only [List.length_append, List.length_singleton, List.length_set, List.length_take, List.length_drop, List.length_map]; omega)) only [↓reduceIte, go_sem, Nat.add_zero, Nat.zero_add, Nat.sub_zero, List.drop_zero, Nat.reduceLT, Nat.reduceEqDiff, Nat.reduceAdd, Nat.reduceMul, Nat.reduceSub, Int.reduceAdd, Int.reduceSub, Nat.reduceLeDiff, Int.reduceLT, Int.reduceLE, Int.reduceEq, Int.reduceNeg, Int.reduceToNat, IntWalk.i64_in, Bool.or_self, Bool.or_false, Bool.or_true, Bool.and_false, Bool.and_true, Bool.false_or, Bool.true_or, Bool.false_eq_true, Bool.true_eq_false, List.append_assoc, List.cons_append, List.nil_append, *]))
  all_goals (try first | rfl | (simp [*]; done) | grind)
theorem fn33 (p : Pc) (H : Hp) : callL Try.prog pr 33 [.agg (pcE.f p)] H = some (.bool (!isPieceB p), H) := by
  refine run33 (Nat.le_of_ble_eq_true rfl) ?_
  have h := fn34 p
  simp (disch := first | rfl | omega | exact byE_w | exact inE_w | exact boE_w | exact stE_w | exact pcE_w | exact lt_new _ | assumption | (simp only [List.length_append, List.length_singleton, List.length_set, List.length_take, List.length_drop, List.length_map]; done) | (simp only [List.length_append, List.length_singleton, List.length_set, List.length_take, List.length_drop, List.length_map]; omega)) only [r33_0, r33_1, c33, rs33, gc33, ↓reduceIte, go_sem, Nat.add_zero, Nat.zero_add, Nat.sub_zero, List.drop_zero, Nat.reduceLT, Nat.reduceEqDiff, Nat.reduceAdd, Nat.reduceMul, Nat.reduceSub, Int.reduceAdd, Int.reduceSub, Nat.reduceLeDiff, Int.reduceLT, Int.reduceLE, Int.reduceEq, Int.reduceNeg, Int.reduceToNat, IntWalk.i64_in, Bool.or_self, Bool.or_false, Bool.or_true, Bool.and_false, Bool.and_true, Bool.false_or, Bool.true_or, Bool.false_eq_true, Bool.true_eq_false, *]
  repeat' ((first | refine guardB_dec (fun hy => ?_) (fun hy => ?_) | refine guardB_bool (fun hy => ?_) (fun hy => ?_) | refine guardQ_ite (fun hy => ?_) (fun hy => ?_) | refine brQ_dec (fun hy => ?_) (fun hy => ?_) | refine brQ_bool (fun hy => ?_) (fun hy => ?_)) <;> (try simp only [Bool.not_eq_true', Bool.not_eq_false', Bool.and_eq_true, Bool.or_eq_false_iff, decide_eq_true_eq, decide_eq_false_iff_not] at hy) <;> simp (disch := first | rfl | omega | exact byE_w | exact inE_w | exact boE_w | exact stE_w | exact pcE_w | exact lt_new _ | assumption | (simp only [List.length_append, List.length_singleton, List.length_set, List.length_take, List.length_drop, List.length_map]; done) | (simp only [List.length_append, List.length_singleton, List.length_set, List.length_take, List.length_drop, List.length_map]; omega)) only [r33_0, r33_1, c33, rs33, gc33, ↓reduceIte, go_sem, Nat.add_zero, Nat.zero_add, Nat.sub_zero, List.drop_zero, Nat.reduceLT, Nat.reduceEqDiff, Nat.reduceAdd, Nat.reduceMul, Nat.reduceSub, Int.reduceAdd, Int.reduceSub, Nat.reduceLeDiff, Int.reduceLT, Int.reduceLE, Int.reduceEq, Int.reduceNeg, Int.reduceToNat, IntWalk.i64_in, Bool.or_self, Bool.or_false, Bool.or_true, Bool.and_false, Bool.and_true, Bool.false_or, Bool.true_or, Bool.false_eq_true, Bool.true_eq_false, *])
  all_goals (try ((first | refine finQ_same ?_ | refine finQ_app ?_ | (rw [List.append_assoc]; refine finQ_app ?_)) <;> simp (disch := first | rfl | omega | exact byE_w | exact inE_w | exact boE_w | exact stE_w | exact pcE_w | exact lt_new _ | assumption | (simp only [List.length_append, List.length_singleton, List.length_set, List.length_take, List.length_drop, List.length_map]; done) | (simp only [List.length_append, List.length_singleton, List.length_set, List.length_take, List.length_drop, List.length_map]; omega)) only [↓reduceIte, go_sem, Nat.add_zero, Nat.zero_add, Nat.sub_zero, List.drop_zero, Nat.reduceLT, Nat.reduceEqDiff, Nat.reduceAdd, Nat.reduceMul, Nat.reduceSub, Int.reduceAdd, Int.reduceSub, Nat.reduceLeDiff, Int.reduceLT, Int.reduceLE, Int.reduceEq, Int.reduceNeg, Int.reduceToNat, IntWalk.i64_in, Bool.or_self, Bool.or_false, Bool.or_true, Bool.and_false, Bool.and_true, Bool.false_or, Bool.true_or, Bool.false_eq_true, Bool.true_eq_false, List.append_assoc, List.cons_append, List.nil_append, *]))
  all_goals (try first | rfl | (simp [*]; done) | grind)
theorem fn35 (p : Pc) (hp : PcOk p) (H : Hp) : callL Try.prog pr 35 [.agg (pcE.f p)] H = some (.bool (isFarB p), H) := by
  have hs := hp.small
  have hr := hp.rat
  unfold Inx at hr
  refine run35 (Nat.le_of_ble_eq_true rfl) ?_
  unfold isFarB pcEnd
  simp (disch := first | rfl | omega | exact byE_w | exact inE_w | exact boE_w | exact stE_w | exact pcE_w | exact lt_new _ | assumption | (simp only [List.length_append, List.length_singleton, List.length_set, List.length_take, List.length_drop, List.length_map]; done) | (simp only [List.length_append, List.length_singleton, List.length_set, List.length_take, List.length_drop, List.length_map]; omega)) only [r35_0, r35_1, c35, rs35, gc35, ↓reduceIte, go_sem, Nat.add_zero, Nat.zero_add, Nat.sub_zero, List.drop_zero, Nat.reduceLT, Nat.reduceEqDiff, Nat.reduceAdd, Nat.reduceMul, Nat.reduceSub, Int.reduceAdd, Int.reduceSub, Nat.reduceLeDiff, Int.reduceLT, Int.reduceLE, Int.reduceEq, Int.reduceNeg, Int.reduceToNat, IntWalk.i64_in, Bool.or_self, Bool.or_false, Bool.or_true, Bool.and_false, Bool.and_true, Bool.false_or, Bool.true_or, Bool.false_eq_true, Bool.true_eq_false, *]
  repeat' ((first | refine guardB_dec (fun hy => ?_) (fun hy => ?_) | refine guardB_bool (fun hy => ?_) (fun hy => ?_) | refine guardQ_ite (fun hy => ?_) (fun hy => ?_) | refine brQ_dec (fun hy => ?_) (fun hy => ?_) | refine brQ_bool (fun hy => ?_) (fun hy => ?_)) <;> (try simp only [Bool.not_eq_true', Bool.not_eq_false', Bool.and_eq_true, Bool.or_eq_false_iff, decide_eq_true_eq, decide_eq_false_iff_not] at hy) <;> simp (disch := first | rfl | omega | exact byE_w | exact inE_w | exact boE_w | exact stE_w | exact pcE_w | exact lt_new _ | assumption | (simp only [List.length_append, List.length_singleton, List.length_set, List.length_take, List.length_drop, List.length_map]; done) | (simp only [List.length_append, List.length_singleton, List.length_set, List.length_take, List.length_drop, List.length_map]; omega)) only [r35_0, r35_1, c35, rs35, gc35, ↓reduceIte, go_sem, Nat.add_zero, Nat.zero_add, Nat.sub_zero, List.drop_zero, Nat.reduceLT, Nat.reduceEqDiff, Nat.reduceAdd, Nat.reduceMul, Nat.reduceSub, Int.reduceAdd, Int.reduceSub, Nat.reduceLeDiff, Int.reduceLT, Int.reduceLE, Int.reduceEq, Int.reduceNeg, Int.reduceToNat, IntWalk.i64_in, Bool.or_self, Bool.or_false, Bool.or_true, Bool.and_false, Bool.and_true, Bool.false_or, Bool.true_or, Bool.false_eq_true, Bool.true_eq_false, *])
  all_goals (try ((first | refine finQ_same ?_ | refine finQ_app ?_ | (rw [List.append_assoc]; refine finQ_app ?_)) <;> simp (disch := first | rfl | omega | exact byE_w | exact inE_w | exact boE_w | exact stE_w | exact pcE_w | exact lt_new _ | assumption | (simp only [List.length_append, List.length_singleton, List.length_set, List.length_take, List.length_drop, List.length_map]; done) | (simp only [List.length_append, List.length_singleton, List.length_set, List.length_take, List.length_drop, List.length_map]; omega)) only [↓reduceIte, go_sem, Nat.add_zero, Nat.zero_add, Nat.sub_zero, List.drop_zero, Nat.reduceLT, Nat.reduceEqDiff, Nat.reduceAdd, Nat.reduceMul, Nat.reduceSub, Int.reduceAdd, Int.reduceSub, Nat.reduceLeDiff, Int.reduceLT, Int.reduceLE, Int.reduceEq, Int.reduceNeg, Int.reduceToNat, IntWalk.i64_in, Bool.or_self, Bool.or_false, Bool.or_true, Bool.and_false, Bool.and_true, Bool.false_or, Bool.true_or, Bool.false_eq_true, Bool.true_eq_false, List.append_assoc, List.cons_append, List.nil_append, *]))
  all_goals (try first | rfl | (simp [*]; done) | grind)
theorem fn37 (p : Pc) (hp : PcOk p) (ha : p.at_ ≤ 9223231299366420479) (H : Hp) : callL Try.prog pr 37 [.agg (pcE.f p)] H = some (.int .i64 (pcEnd p), H) := by
  have hs := hp.small
  have hr := hp.rat
  unfold Inx at hr
  refine run37 (Nat.le_of_ble_eq_true rfl) ?_
  unfold pcEnd
  simp (disch := first | rfl | omega | exact byE_w | exact inE_w | exact boE_w | exact stE_w | exact pcE_w | exact lt_new _ | assumption | (simp only [List.length_append, List.length_singleton, List.length_set, List.length_take, List.length_drop, List.length_map]; done) | (simp only [List.length_append, List.length_singleton, List.length_set, List.length_take, List.length_drop, List.length_map]; omega)) only [r37_0, r37_1, c37, rs37, gc37, ↓reduceIte, go_sem, Nat.add_zero, Nat.zero_add, Nat.sub_zero, List.drop_zero, Nat.reduceLT, Nat.reduceEqDiff, Nat.reduceAdd, Nat.reduceMul, Nat.reduceSub, Int.reduceAdd, Int.reduceSub, Nat.reduceLeDiff, Int.reduceLT, Int.reduceLE, Int.reduceEq, Int.reduceNeg, Int.reduceToNat, IntWalk.i64_in, Bool.or_self, Bool.or_false, Bool.or_true, Bool.and_false, Bool.and_true, Bool.false_or, Bool.true_or, Bool.false_eq_true, Bool.true_eq_false, *]
  repeat' ((first | refine guardB_dec (fun hy => ?_) (fun hy => ?_) | refine guardB_bool (fun hy => ?_) (fun hy => ?_) | refine guardQ_ite (fun hy => ?_) (fun hy => ?_) | refine brQ_dec (fun hy => ?_) (fun hy => ?_) | refine brQ_bool (fun hy => ?_) (fun hy => ?_)) <;> (try simp only [Bool.not_eq_true', Bool.not_eq_false', Bool.and_eq_true, Bool.or_eq_false_iff, decide_eq_true_eq, decide_eq_false_iff_not] at hy) <;> simp (disch := first | rfl | omega | exact byE_w | exact inE_w | exact boE_w | exact stE_w | exact pcE_w | exact lt_new _ | assumption | (simp only [List.length_append, List.length_singleton, List.length_set, List.length_take, List.length_drop, List.length_map]; done) | (simp only [List.length_append, List.length_singleton, List.length_set, List.length_take, List.length_drop, List.length_map]; omega)) only [r37_0, r37_1, c37, rs37, gc37, ↓reduceIte, go_sem, Nat.add_zero, Nat.zero_add, Nat.sub_zero, List.drop_zero, Nat.reduceLT, Nat.reduceEqDiff, Nat.reduceAdd, Nat.reduceMul, Nat.reduceSub, Int.reduceAdd, Int.reduceSub, Nat.reduceLeDiff, Int.reduceLT, Int.reduceLE, Int.reduceEq, Int.reduceNeg, Int.reduceToNat, IntWalk.i64_in, Bool.or_self, Bool.or_false, Bool.or_true, Bool.and_false, Bool.and_true, Bool.false_or, Bool.true_or, Bool.false_eq_true, Bool.true_eq_false, *])
  all_goals (try ((first | refine finQ_same ?_ | refine finQ_app ?_ | (rw [List.append_assoc]; refine finQ_app ?_)) <;> simp (disch := first | rfl | omega | exact byE_w | exact inE_w | exact boE_w | exact stE_w | exact pcE_w | exact lt_new _ | assumption | (simp only [List.length_append, List.length_singleton, List.length_set, List.length_take, List.length_drop, List.length_map]; done) | (simp only [List.length_append, List.length_singleton, List.length_set, List.length_take, List.length_drop, List.length_map]; omega)) only [↓reduceIte, go_sem, Nat.add_zero, Nat.zero_add, Nat.sub_zero, List.drop_zero, Nat.reduceLT, Nat.reduceEqDiff, Nat.reduceAdd, Nat.reduceMul, Nat.reduceSub, Int.reduceAdd, Int.reduceSub, Nat.reduceLeDiff, Int.reduceLT, Int.reduceLE, Int.reduceEq, Int.reduceNeg, Int.reduceToNat, IntWalk.i64_in, Bool.or_self, Bool.or_false, Bool.or_true, Bool.and_false, Bool.and_true, Bool.false_or, Bool.true_or, Bool.false_eq_true, Bool.true_eq_false, List.append_assoc, List.cons_append, List.nil_append, *]))
  all_goals (try first | rfl | (simp [*]; done) | grind)
theorem fn36 (p : Pc) (hp : PcOk p) (H : Hp) : callL Try.prog pr 36 [.agg (pcE.f p)] H = some (.int .i64 (askedI p), H) := by
  have h37 := fn37 p hp
  refine run36 (Nat.le_of_ble_eq_true rfl) ?_
  unfold askedI isPieceB isFarB okTime
  simp (disch := first | rfl | omega | exact byE_w | exact inE_w | exact boE_w | exact stE_w | exact pcE_w | exact lt_new _ | assumption | (simp only [List.length_append, List.length_singleton, List.length_set, List.length_take, List.length_drop, List.length_map]; done) | (simp only [List.length_append, List.length_singleton, List.length_set, List.length_take, List.length_drop, List.length_map]; omega)) only [r36_0, r36_1, r36_2, r36_3, r36_4, r36_5, c36, rs36, gc36, ↓reduceIte, go_sem, Nat.add_zero, Nat.zero_add, Nat.sub_zero, List.drop_zero, Nat.reduceLT, Nat.reduceEqDiff, Nat.reduceAdd, Nat.reduceMul, Nat.reduceSub, Int.reduceAdd, Int.reduceSub, Nat.reduceLeDiff, Int.reduceLT, Int.reduceLE, Int.reduceEq, Int.reduceNeg, Int.reduceToNat, IntWalk.i64_in, Bool.or_self, Bool.or_false, Bool.or_true, Bool.and_false, Bool.and_true, Bool.false_or, Bool.true_or, Bool.false_eq_true, Bool.true_eq_false, *]
  repeat' ((first | refine guardB_dec (fun hy => ?_) (fun hy => ?_) | refine guardB_bool (fun hy => ?_) (fun hy => ?_) | refine guardQ_ite (fun hy => ?_) (fun hy => ?_) | refine brQ_dec (fun hy => ?_) (fun hy => ?_) | refine brQ_bool (fun hy => ?_) (fun hy => ?_)) <;> (try simp only [Bool.not_eq_true', Bool.not_eq_false', Bool.and_eq_true, Bool.or_eq_false_iff, decide_eq_true_eq, decide_eq_false_iff_not] at hy) <;> simp (disch := first | rfl | omega | exact byE_w | exact inE_w | exact boE_w | exact stE_w | exact pcE_w | exact lt_new _ | assumption | (simp only [List.length_append, List.length_singleton, List.length_set, List.length_take, List.length_drop, List.length_map]; done) | (simp only [List.length_append, List.length_singleton, List.length_set, List.length_take, List.length_drop, List.length_map]; omega)) only [r36_0, r36_1, r36_2, r36_3, r36_4, r36_5, c36, rs36, gc36, ↓reduceIte, go_sem, Nat.add_zero, Nat.zero_add, Nat.sub_zero, List.drop_zero, Nat.reduceLT, Nat.reduceEqDiff, Nat.reduceAdd, Nat.reduceMul, Nat.reduceSub, Int.reduceAdd, Int.reduceSub, Nat.reduceLeDiff, Int.reduceLT, Int.reduceLE, Int.reduceEq, Int.reduceNeg, Int.reduceToNat, IntWalk.i64_in, Bool.or_self, Bool.or_false, Bool.or_true, Bool.and_false, Bool.and_true, Bool.false_or, Bool.true_or, Bool.false_eq_true, Bool.true_eq_false, *])
  all_goals (try ((first | refine finQ_same ?_ | refine finQ_app ?_ | (rw [List.append_assoc]; refine finQ_app ?_)) <;> simp (disch := first | rfl | omega | exact byE_w | exact inE_w | exact boE_w | exact stE_w | exact pcE_w | exact lt_new _ | assumption | (simp only [List.length_append, List.length_singleton, List.length_set, List.length_take, List.length_drop, List.length_map]; done) | (simp only [List.length_append, List.length_singleton, List.length_set, List.length_take, List.length_drop, List.length_map]; omega)) only [↓reduceIte, go_sem, Nat.add_zero, Nat.zero_add, Nat.sub_zero, List.drop_zero, Nat.reduceLT, Nat.reduceEqDiff, Nat.reduceAdd, Nat.reduceMul, Nat.reduceSub, Int.reduceAdd, Int.reduceSub, Nat.reduceLeDiff, Int.reduceLT, Int.reduceLE, Int.reduceEq, Int.reduceNeg, Int.reduceToNat, IntWalk.i64_in, Bool.or_self, Bool.or_false, Bool.or_true, Bool.and_false, Bool.and_true, Bool.false_or, Bool.true_or, Bool.false_eq_true, Bool.true_eq_false, List.append_assoc, List.cons_append, List.nil_append, *]))
  all_goals (try first | rfl | (simp [*]; done) | grind)
theorem fn57L {α : Type} {E : Enc α} {s : V} {l : List α} {H : Hp} (hs : LstE E H s l) (hw : E.w = 5) (hlen : l.length < 2 ^ 62) (p : α → Bool) (f : Nat) (ca cb : List V) (hf : ∀ x ∈ l, callL Try.prog pr f (ca ++ [.agg (E.f x)] ++ cb) H = some (.bool (p x), H)) : callL Try.prog pr 57 [s, .fn f ca cb] H = some (.int .i64 (findI p l 0), H) := by
  have hs' : (∃ b, s = slV b E l ∧ E.w = 5) ∨ ∃ id g, s = .slice id g 0 l.length 5 .full ∧ getRow H id g = some (flatE E l, true) := by
    rcases hs with ⟨b, h⟩ | h
    · exact .inl ⟨b, h, hw⟩
    · exact .inr (by rw [← hw]; exact h)
  clear hs
  refine run57 (Nat.le_of_ble_eq_true rfl) ?_
  have hl0 : ∀ H', lenV Try.prog 22 H' s = some (.int .i64 l.length) := fun H' => by
    rcases hs' with ⟨b, rfl, hr⟩ | ⟨id, g, rfl, hr⟩
    · exact ns22 b E l
    · exact n22 ..
  have he : eqA s s = true ∧ s.isTup = false := by
    rcases hs' with ⟨b, rfl, hr⟩ | ⟨id, g, rfl, hr⟩
    · exact ⟨slV_eqA b E l, slV_nt b E l⟩
    · exact ⟨eqA_slice .., rfl⟩
  simp (disch := first | rfl | omega | exact byE_w | exact inE_w | exact boE_w | exact stE_w | exact pcE_w | exact lt_new _ | assumption | (simp only [List.length_append, List.length_singleton, List.length_set, List.length_take, List.length_drop, List.length_map]; done) | (simp only [List.length_append, List.length_singleton, List.length_set, List.length_take, List.length_drop, List.length_map]; omega)) only [r57_0, r57_1, r57_2, r57_3, r57_4, r57_5, r57_6, r57_8, c57, rs57, gc57, ↓reduceIte, go_sem, Nat.add_zero, Nat.zero_add, Nat.sub_zero, List.drop_zero, Nat.reduceLT, Nat.reduceEqDiff, Nat.reduceAdd, Nat.reduceMul, Nat.reduceSub, Int.reduceAdd, Int.reduceSub, Nat.reduceLeDiff, Int.reduceLT, Int.reduceLE, Int.reduceEq, Int.reduceNeg, Int.reduceToNat, IntWalk.i64_in, Bool.or_self, Bool.or_false, Bool.or_true, Bool.and_false, Bool.and_true, Bool.false_or, Bool.true_or, Bool.false_eq_true, Bool.true_eq_false, hl0, he]
  refine Wp_loop (fun m T D H' => ∃ i, m = l.length - i ∧ i ≤ l.length ∧ D = [] ∧ H' = H ∧ get T 0 = s ∧ get T 1 = .fn f ca cb ∧ get T 7 = .int .i64 l.length ∧ get T 8 = .int .i64 i ∧ findI p l 0 = findI p (l.drop i) i) ?_ l.length _ _ _ ?_
  · rintro m T D H' ⟨i, rfl, hi, rfl, rfl, h0, h1, h7, h8, hp⟩
    have hld := fun (hi : i < l.length) H => @ld_agg _ Try.prog H α E l 37 5 i g37 z37 hw hi
    have hld0 := fun (ha : aggT Try.prog 37 = some false) (hi : i < l.length) H => @ld_cell0 _ Try.prog H α E l 37 5 i ha hw hi
    have hlq := fun (hi : i < l.length) => @lq_agg _ Try.prog α E l 37 5 i g37 z37 hw hi
    have hlq0 := fun (ha : aggT Try.prog 37 = some false) (hi : i < l.length) => @lq_cell0 _ Try.prog α E l 37 5 i ha hw hi
    have hfi := fun (h : i < l.length) => hf _ (E.at_mem h)
    by_cases hlt : i < l.length
    · have hlt' : (i : Int) < l.length := by omega
      have hpi := findI_drop p (E.at_some hlt) i
      rcases hs' with ⟨b, rfl, hr⟩ | ⟨id, g, rfl, hr⟩
      all_goals
        simp (disch := first | rfl | omega | exact byE_w | exact inE_w | exact boE_w | exact stE_w | exact pcE_w | exact lt_new _ | assumption | (simp only [List.length_append, List.length_singleton, List.length_set, List.length_take, List.length_drop, List.length_map]; done) | (simp only [List.length_append, List.length_singleton, List.length_set, List.length_take, List.length_drop, List.length_map]; omega)) only [r57_0, r57_1, r57_2, r57_3, r57_4, r57_5, r57_6, l57_7, r57_8, c57, rs57, gc57, ↓reduceIte, go_sem, Nat.add_zero, Nat.zero_add, Nat.sub_zero, List.drop_zero, Nat.reduceLT, Nat.reduceEqDiff, Nat.reduceAdd, Nat.reduceMul, Nat.reduceSub, Int.reduceAdd, Int.reduceSub, Nat.reduceLeDiff, Int.reduceLT, Int.reduceLE, Int.reduceEq, Int.reduceNeg, Int.reduceToNat, IntWalk.i64_in, Bool.or_self, Bool.or_false, Bool.or_true, Bool.and_false, Bool.and_true, Bool.false_or, Bool.true_or, Bool.false_eq_true, Bool.true_eq_false, h0, h1, h7, h8, hld, hld0, hlq, hlq0, ldR, hr, hfi, hlt', decide_true]
        refine brQ_bool (fun hy => ?_) (fun hy => ?_)
        · rw [if_pos hy] at hpi
          simp (disch := first | rfl | omega | exact byE_w | exact inE_w | exact boE_w | exact stE_w | exact pcE_w | exact lt_new _ | assumption | (simp only [List.length_append, List.length_singleton, List.length_set, List.length_take, List.length_drop, List.length_map]; done) | (simp only [List.length_append, List.length_singleton, List.length_set, List.length_take, List.length_drop, List.length_map]; omega)) only [r57_0, r57_1, r57_2, r57_3, r57_4, r57_5, r57_6, l57_7, r57_8, c57, rs57, gc57, ↓reduceIte, go_sem, Nat.add_zero, Nat.zero_add, Nat.sub_zero, List.drop_zero, Nat.reduceLT, Nat.reduceEqDiff, Nat.reduceAdd, Nat.reduceMul, Nat.reduceSub, Int.reduceAdd, Int.reduceSub, Nat.reduceLeDiff, Int.reduceLT, Int.reduceLE, Int.reduceEq, Int.reduceNeg, Int.reduceToNat, IntWalk.i64_in, Bool.or_self, Bool.or_false, Bool.or_true, Bool.and_false, Bool.and_true, Bool.false_or, Bool.true_or, Bool.false_eq_true, Bool.true_eq_false, h0, h1, h7, h8]
          refine finQ_same ?_
          simp (disch := first | rfl | omega | exact byE_w | exact inE_w | exact boE_w | exact stE_w | exact pcE_w | exact lt_new _ | assumption | (simp only [List.length_append, List.length_singleton, List.length_set, List.length_take, List.length_drop, List.length_map]; done) | (simp only [List.length_append, List.length_singleton, List.length_set, List.length_take, List.length_drop, List.length_map]; omega)) only [↓reduceIte, go_sem, Nat.add_zero, Nat.zero_add, Nat.sub_zero, List.drop_zero, Nat.reduceLT, Nat.reduceEqDiff, Nat.reduceAdd, Nat.reduceMul, Nat.reduceSub, Int.reduceAdd, Int.reduceSub, Nat.reduceLeDiff, Int.reduceLT, Int.reduceLE, Int.reduceEq, Int.reduceNeg, Int.reduceToNat, IntWalk.i64_in, Bool.or_self, Bool.or_false, Bool.or_true, Bool.and_false, Bool.and_true, Bool.false_or, Bool.true_or, Bool.false_eq_true, Bool.true_eq_false, hp, hpi]
        · rw [if_neg (by simp [hy])] at hpi
          simp (disch := first | rfl | omega | exact byE_w | exact inE_w | exact boE_w | exact stE_w | exact pcE_w | exact lt_new _ | assumption | (simp only [List.length_append, List.length_singleton, List.length_set, List.length_take, List.length_drop, List.length_map]; done) | (simp only [List.length_append, List.length_singleton, List.length_set, List.length_take, List.length_drop, List.length_map]; omega)) only [r57_0, r57_1, r57_2, r57_3, r57_4, r57_5, r57_6, l57_7, r57_8, c57, rs57, gc57, ↓reduceIte, go_sem, Nat.add_zero, Nat.zero_add, Nat.sub_zero, List.drop_zero, Nat.reduceLT, Nat.reduceEqDiff, Nat.reduceAdd, Nat.reduceMul, Nat.reduceSub, Int.reduceAdd, Int.reduceSub, Nat.reduceLeDiff, Int.reduceLT, Int.reduceLE, Int.reduceEq, Int.reduceNeg, Int.reduceToNat, IntWalk.i64_in, Bool.or_self, Bool.or_false, Bool.or_true, Bool.and_false, Bool.and_true, Bool.false_or, Bool.true_or, Bool.false_eq_true, Bool.true_eq_false, h0, h1, h7, h8]
          exact ⟨_, by omega, i + 1, rfl, hlt, rfl, by rw [hp, hpi]; rfl⟩
    · obtain rfl : i = l.length := by omega
      simp (disch := first | rfl | omega | exact byE_w | exact inE_w | exact boE_w | exact stE_w | exact pcE_w | exact lt_new _ | assumption | (simp only [List.length_append, List.length_singleton, List.length_set, List.length_take, List.length_drop, List.length_map]; done) | (simp only [List.length_append, List.length_singleton, List.length_set, List.length_take, List.length_drop, List.length_map]; omega)) only [r57_0, r57_1, r57_2, r57_3, r57_4, r57_5, r57_6, l57_7, r57_8, c57, rs57, gc57, ↓reduceIte, go_sem, Nat.add_zero, Nat.zero_add, Nat.sub_zero, List.drop_zero, Nat.reduceLT, Nat.reduceEqDiff, Nat.reduceAdd, Nat.reduceMul, Nat.reduceSub, Int.reduceAdd, Int.reduceSub, Nat.reduceLeDiff, Int.reduceLT, Int.reduceLE, Int.reduceEq, Int.reduceNeg, Int.reduceToNat, IntWalk.i64_in, Bool.or_self, Bool.or_false, Bool.or_true, Bool.and_false, Bool.and_true, Bool.false_or, Bool.true_or, Bool.false_eq_true, Bool.true_eq_false, h0, h1, h7, h8, Int.lt_irrefl, decide_false]
      refine finQ_same ?_
      rw [hp, List.drop_length]
      simp (disch := first | rfl | omega | exact byE_w | exact inE_w | exact boE_w | exact stE_w | exact pcE_w | exact lt_new _ | assumption | (simp only [List.length_append, List.length_singleton, List.length_set, List.length_take, List.length_drop, List.length_map]; done) | (simp only [List.length_append, List.length_singleton, List.length_set, List.length_take, List.length_drop, List.length_map]; omega)) only [↓reduceIte, go_sem, Nat.add_zero, Nat.zero_add, Nat.sub_zero, List.drop_zero, Nat.reduceLT, Nat.reduceEqDiff, Nat.reduceAdd, Nat.reduceMul, Nat.reduceSub, Int.reduceAdd, Int.reduceSub, Nat.reduceLeDiff, Int.reduceLT, Int.reduceLE, Int.reduceEq, Int.reduceNeg, Int.reduceToNat, IntWalk.i64_in, Bool.or_self, Bool.or_false, Bool.or_true, Bool.and_false, Bool.and_true, Bool.false_or, Bool.true_or, Bool.false_eq_true, Bool.true_eq_false, findI]
  · exact ⟨0, by simp [go_sem]⟩

theorem fn29L {α : Type} {E : Enc α} {s : V} {l : List α} {H : Hp} (hs : LstE E H s l) (hw : E.w = 5) (hlen : l.length < 2 ^ 62) (p : α → Bool) (f : Nat) (ca cb : List V) (hf : ∀ x ∈ l, callL Try.prog pr f (ca ++ [.agg (E.f x)] ++ cb) H = some (.bool (p x), H)) : callL Try.prog pr 29 [s, .fn f ca cb] H = some (.bool (l.any p), H) := by
  have he : eqA s s = true ∧ s.isTup = false := by
    rcases hs with ⟨b, rfl⟩ | ⟨id, g, rfl, hr⟩
    · exact ⟨slV_eqA b E l, slV_nt b E l⟩
    · exact ⟨eqA_slice .., rfl⟩
  refine run29 (Nat.le_of_ble_eq_true rfl) ?_
  simp (disch := first | rfl | omega | exact byE_w | exact inE_w | exact boE_w | exact stE_w | exact pcE_w | exact lt_new _ | assumption | (simp only [List.length_append, List.length_singleton, List.length_set, List.length_take, List.length_drop, List.length_map]; done) | (simp only [List.length_append, List.length_singleton, List.length_set, List.length_take, List.length_drop, List.length_map]; omega)) only [r29_0, r29_1, c29, rs29, gc29, ↓reduceIte, go_sem, Nat.add_zero, Nat.zero_add, Nat.sub_zero, List.drop_zero, Nat.reduceLT, Nat.reduceEqDiff, Nat.reduceAdd, Nat.reduceMul, Nat.reduceSub, Int.reduceAdd, Int.reduceSub, Nat.reduceLeDiff, Int.reduceLT, Int.reduceLE, Int.reduceEq, Int.reduceNeg, Int.reduceToNat, IntWalk.i64_in, Bool.or_self, Bool.or_false, Bool.or_true, Bool.and_false, Bool.and_true, Bool.false_or, Bool.true_or, Bool.false_eq_true, Bool.true_eq_false, he, fn57L hs hw hlen p f ca cb hf]
  refine finQ_same ?_
  simp (disch := first | rfl | omega | exact byE_w | exact inE_w | exact boE_w | exact stE_w | exact pcE_w | exact lt_new _ | assumption | (simp only [List.length_append, List.length_singleton, List.length_set, List.length_take, List.length_drop, List.length_map]; done) | (simp only [List.length_append, List.length_singleton, List.length_set, List.length_take, List.length_drop, List.length_map]; omega)) only [↓reduceIte, go_sem, Nat.add_zero, Nat.zero_add, Nat.sub_zero, List.drop_zero, Nat.reduceLT, Nat.reduceEqDiff, Nat.reduceAdd, Nat.reduceMul, Nat.reduceSub, Int.reduceAdd, Int.reduceSub, Nat.reduceLeDiff, Int.reduceLT, Int.reduceLE, Int.reduceEq, Int.reduceNeg, Int.reduceToNat, IntWalk.i64_in, Bool.or_self, Bool.or_false, Bool.or_true, Bool.and_false, Bool.and_true, Bool.false_or, Bool.true_or, Bool.false_eq_true, Bool.true_eq_false, findI_any p l 0 (by omega)]

end Go.Proofs.Ytdpdlobaabcjjab
/-
  The pieces of a whole asked anew: where it ends, which piece has a place. No statement of the seat stands here.
-/
namespace Go.Proofs.Ytdpdlobaabcjjab
open Go Go.An
set_option maxRecDepth 4000
set_option linter.unusedSimpArgs false
set_option linter.unusedVariables false

/-- A piece of a list, and its parts. -/
theorem ldP {l : List Pc} {i : Nat} {H : Hp} (h : i < l.length) : loadV Try.prog 37 H (.ipt (flatE pcE l) (i * 5)) = some (.agg (pcE.f (pcE.at l i))) := ld_agg g37 z37 rfl h
theorem ldP0 {l : List Pc} {i : Nat} {H : Hp} (h : i < l.length) : loadV Try.prog 3 H (.ipt (flatE pcE l) (i * 5)) = some (.int .i64 (pcE.at l i).id) := ld_cell0 g3 rfl h
theorem ldP1 {l : List Pc} {i : Nat} {H : Hp} (h : i < l.length) : loadV Try.prog 3 H (.ipt (flatE pcE l) (i * 5 + 1)) = some (.int .i64 (pcE.at l i).at_) := ld_cell (j := 1) g3 rfl h (by omega)
theorem ldP2 {l : List Pc} {i : Nat} {H : Hp} (h : i < l.length) : loadV Try.prog 4 H (.ipt (flatE pcE l) (i * 5 + 2)) = some (.bool (pcE.at l i).more) := ld_cell (j := 2) g4 rfl h (by omega)
theorem ldP3 {l : List Pc} {i : Nat} {H : Hp} (h : i < l.length) : loadV Try.prog 25 H (.ipt (flatE pcE l) (i * 5 + 3)) = some (slV (pcE.at l i).nl byE (pcE.at l i).data) := ld_cell (j := 3) g25 rfl h (by omega)
theorem ldB {l : List UInt8} {i : Nat} {H : Hp} (h : i < l.length) : loadV Try.prog 5 H (.ipt (flatE byE l) (i * 1)) = some (.int .u8 (byE.at l i).toNat) := ld_cell0 g5 rfl h

theorem ldR {H : Hp} {id g off : Nat} {t : TypeId} : loadV Try.prog t H (.ptr id g off) = (getRow H id g).bind fun r => partV Try.prog t r.1 off := loadV_ptr t id g off
theorem ldQ {l : List Pc} {i : Nat} (h : i < l.length) : partV Try.prog 37 (flatE pcE l) (i * 5) = some (.agg (pcE.f (pcE.at l i))) := (loadV_ipt (H := []) 37 _ _).symm.trans (ldP h)
theorem ldQ1 {l : List Pc} {i : Nat} (h : i < l.length) : partV Try.prog 3 (flatE pcE l) (i * 5 + 1) = some (.int .i64 (pcE.at l i).at_) := (loadV_ipt (H := []) 3 _ _).symm.trans (ldP1 h)
theorem ldQ2 {l : List Pc} {i : Nat} (h : i < l.length) : partV Try.prog 4 (flatE pcE l) (i * 5 + 2) = some (.bool (pcE.at l i).more) := (loadV_ipt (H := []) 4 _ _).symm.trans (ldP2 h)
theorem ldQ3 {l : List Pc} {i : Nat} (h : i < l.length) : partV Try.prog 25 (flatE pcE l) (i * 5 + 3) = some (slV (pcE.at l i).nl byE (pcE.at l i).data) := (loadV_ipt (H := []) 25 _ _).symm.trans (ldP3 h)
/-- A list of pieces as a value: one that stays, or one row of a slice that has grown. -/
def Lst (H : Hp) (s : V) (l : List Pc) : Prop := (∃ b, s = slV b pcE l) ∨ ∃ id g, s = .slice id g 0 l.length 5 .full ∧ getRow H id g = some (flatE pcE l, true)
theorem Lst.of (H : Hp) (b : Bool) (l : List Pc) : Lst H (slV b pcE l) l := .inl ⟨b, rfl⟩
theorem Lst.app {H : Hp} {s : V} {l : List Pc} (h : Lst H s l) (L : Hp) : Lst (H ++ L) s l := by
  rcases h with ⟨b, rfl⟩ | ⟨id, g, rfl, hr⟩
  · exact .of _ b l
  · exact .inr ⟨id, g, rfl, by rw [getRow_app (getRow_lt hr)]; exact hr⟩
theorem Lst.bl {A : Hp} {n g : Nat} {l : List Pc} (hn : n = A.length) (hl : 0 < l.length) : Lst (A ++ blH g (l.map pcE.f)) (blV n g 5 (l.map pcE.f)) l := by
  have h : ¬ l.map pcE.f = [] := by
    intro e
    simp only [List.map_eq_nil_iff] at e
    subst e
    simp at hl
  unfold blH blV
  rw [if_neg h, if_neg h, List.length_map, hn]
  exact .inr ⟨_, _, rfl, getRow_last g _ true⟩
theorem fn10 {b : Bool} {l : List Pc} (hlen : l.length ≤ 9223372036854775807) (H : Hp) : ∃ b', callL Try.prog pr 10 [slV b pcE l] H = some (.bool b', H) := by
  suffices h : ∃ r, callL Try.prog pr 10 [slV b pcE l] H = some r ∧ ∃ b', r = (.bool b', H) by
    obtain ⟨v, h1, b', rfl⟩ := h; exact ⟨b', h1⟩
  refine ex10 (Nat.le_of_ble_eq_true rfl) ?_
  simp (disch := first | rfl | omega | exact byE_w | exact inE_w | exact boE_w | exact stE_w | exact pcE_w | exact lt_new _ | assumption | (simp only [List.length_append, List.length_singleton, List.length_set, List.length_take, List.length_drop, List.length_map]; done) | (simp only [List.length_append, List.length_singleton, List.length_set, List.length_take, List.length_drop, List.length_map]; omega)) only [r10_0, r10_1, r10_2, r10_3, r10_4, r10_5, r10_7, c10, rs10, gc10, ↓reduceIte, go_sem, Nat.add_zero, Nat.zero_add, Nat.sub_zero, List.drop_zero, Nat.reduceLT, Nat.reduceEqDiff, Nat.reduceAdd, Nat.reduceMul, Nat.reduceSub, Int.reduceAdd, Int.reduceSub, Nat.reduceLeDiff, Int.reduceLT, Int.reduceLE, Int.reduceEq, Int.reduceNeg, Int.reduceToNat, IntWalk.i64_in, Bool.or_self, Bool.or_false, Bool.or_true, Bool.and_false, Bool.and_true, Bool.false_or, Bool.true_or, Bool.false_eq_true, Bool.true_eq_false]
  refine Wp_loop (fun m T D H' => ∃ i n, m = l.length - i ∧ i ≤ l.length ∧ D = [] ∧ H' = H ∧ get T 0 = slV b pcE l ∧ get T 4 = .int .i64 i ∧ get T 3 = .int .i64 n) ?_ l.length _ _ _ ?_
  · rintro m T D H' ⟨i, n, rfl, hi, rfl, rfl, h0, h4, h3⟩
    by_cases hlt : i < l.length
    · have hlt' : (i : Int) < l.length := by omega
      simp (disch := first | rfl | omega | exact byE_w | exact inE_w | exact boE_w | exact stE_w | exact pcE_w | exact lt_new _ | assumption | (simp only [List.length_append, List.length_singleton, List.length_set, List.length_take, List.length_drop, List.length_map]; done) | (simp only [List.length_append, List.length_singleton, List.length_set, List.length_take, List.length_drop, List.length_map]; omega)) only [r10_0, r10_1, r10_2, r10_3, r10_4, r10_5, l10_6, r10_7, c10, rs10, gc10, ↓reduceIte, go_sem, Nat.add_zero, Nat.zero_add, Nat.sub_zero, List.drop_zero, Nat.reduceLT, Nat.reduceEqDiff, Nat.reduceAdd, Nat.reduceMul, Nat.reduceSub, Int.reduceAdd, Int.reduceSub, Nat.reduceLeDiff, Int.reduceLT, Int.reduceLE, Int.reduceEq, Int.reduceNeg, Int.reduceToNat, IntWalk.i64_in, Bool.or_self, Bool.or_false, Bool.or_true, Bool.and_false, Bool.and_true, Bool.false_or, Bool.true_or, Bool.false_eq_true, Bool.true_eq_false, h0, h3, h4, hlt', ldP3 hlt]
      exact ⟨_, by omega, i + 1, _, rfl, hlt, rfl, rfl⟩
    · obtain rfl : i = l.length := by omega
      simp (disch := first | rfl | omega | exact byE_w | exact inE_w | exact boE_w | exact stE_w | exact pcE_w | exact lt_new _ | assumption | (simp only [List.length_append, List.length_singleton, List.length_set, List.length_take, List.length_drop, List.length_map]; done) | (simp only [List.length_append, List.length_singleton, List.length_set, List.length_take, List.length_drop, List.length_map]; omega)) only [r10_0, r10_1, r10_2, r10_3, r10_4, r10_5, l10_6, r10_7, c10, rs10, gc10, ↓reduceIte, go_sem, Nat.add_zero, Nat.zero_add, Nat.sub_zero, List.drop_zero, Nat.reduceLT, Nat.reduceEqDiff, Nat.reduceAdd, Nat.reduceMul, Nat.reduceSub, Int.reduceAdd, Int.reduceSub, Nat.reduceLeDiff, Int.reduceLT, Int.reduceLE, Int.reduceEq, Int.reduceNeg, Int.reduceToNat, IntWalk.i64_in, Bool.or_self, Bool.or_false, Bool.or_true, Bool.and_false, Bool.and_true, Bool.false_or, Bool.true_or, Bool.false_eq_true, Bool.true_eq_false, h0, h3, h4, Int.lt_irrefl, decide_false]
      exact ⟨_, gcF_same rfl⟩
  · exact ⟨0, _, by simp [go_sem]; rfl⟩
/-- A piece that lies near. -/
structure Near (p : Pc) : Prop where
  ok : PcOk p
  lo : 0 ≤ p.at_
  hi : p.at_ + p.data.length ≤ 4000
def hasB (p : Pc) (k : Int) : Bool := decide (p.at_ ≤ k) && decide (k < pcEnd p)
theorem hasB_iff {p : Pc} {k : Int} : hasB p k = true ↔ p.at_ ≤ k ∧ k < p.at_ + p.data.length := by
  unfold hasB pcEnd
  rw [Bool.and_eq_true]
  exact ⟨fun h => ⟨of_decide_eq_true h.1, of_decide_eq_true h.2⟩, fun h => ⟨decide_eq_true h.1, decide_eq_true h.2⟩⟩
theorem fn89 (p : Pc) (hp : Near p) (k : Int) (H : Hp) : callL Try.prog pr 89 [.agg (pcE.f p), .int .i64 k] H = some (.bool (hasB p k), H) := by
  have h37 := fn37 p hp.ok (by have := hp.hi; omega)
  refine run89 (Nat.le_of_ble_eq_true rfl) ?_
  unfold hasB
  simp (disch := first | rfl | omega | exact byE_w | exact inE_w | exact boE_w | exact stE_w | exact pcE_w | exact lt_new _ | assumption | (simp only [List.length_append, List.length_singleton, List.length_set, List.length_take, List.length_drop, List.length_map]; done) | (simp only [List.length_append, List.length_singleton, List.length_set, List.length_take, List.length_drop, List.length_map]; omega)) only [r89_0, r89_1, c89, rs89, gc89, ↓reduceIte, go_sem, Nat.add_zero, Nat.zero_add, Nat.sub_zero, List.drop_zero, Nat.reduceLT, Nat.reduceEqDiff, Nat.reduceAdd, Nat.reduceMul, Nat.reduceSub, Int.reduceAdd, Int.reduceSub, Nat.reduceLeDiff, Int.reduceLT, Int.reduceLE, Int.reduceEq, Int.reduceNeg, Int.reduceToNat, IntWalk.i64_in, Bool.or_self, Bool.or_false, Bool.or_true, Bool.and_false, Bool.and_true, Bool.false_or, Bool.true_or, Bool.false_eq_true, Bool.true_eq_false, *]
  repeat' ((first | refine guardB_dec (fun hy => ?_) (fun hy => ?_) | refine guardB_bool (fun hy => ?_) (fun hy => ?_) | refine guardQ_ite (fun hy => ?_) (fun hy => ?_) | refine brQ_dec (fun hy => ?_) (fun hy => ?_) | refine brQ_bool (fun hy => ?_) (fun hy => ?_)) <;> (try simp only [Bool.not_eq_true', Bool.not_eq_false', Bool.and_eq_true, Bool.or_eq_false_iff, decide_eq_true_eq, decide_eq_false_iff_not] at hy) <;> simp (disch := first | rfl | omega | exact byE_w | exact inE_w | exact boE_w | exact stE_w | exact pcE_w | exact lt_new _ | assumption | (simp only [List.length_append, List.length_singleton, List.length_set, List.length_take, List.length_drop, List.length_map]; done) | (simp only [List.length_append, List.length_singleton, List.length_set, List.length_take, List.length_drop, List.length_map]; omega)) only [r89_0, r89_1, c89, rs89, gc89, ↓reduceIte, go_sem, Nat.add_zero, Nat.zero_add, Nat.sub_zero, List.drop_zero, Nat.reduceLT, Nat.reduceEqDiff, Nat.reduceAdd, Nat.reduceMul, Nat.reduceSub, Int.reduceAdd, Int.reduceSub, Nat.reduceLeDiff, Int.reduceLT, Int.reduceLE, Int.reduceEq, Int.reduceNeg, Int.reduceToNat, IntWalk.i64_in, Bool.or_self, Bool.or_false, Bool.or_true, Bool.and_false, Bool.and_true, Bool.false_or, Bool.true_or, Bool.false_eq_true, Bool.true_eq_false, *])
  all_goals (try ((first | refine finQ_same ?_ | refine finQ_app ?_ | (rw [List.append_assoc]; refine finQ_app ?_)) <;> simp (disch := first | rfl | omega | exact byE_w | exact inE_w | exact boE_w | exact stE_w | exact pcE_w | exact lt_new _ | assumption | (simp only [List.length_append, List.length_singleton, List.length_set, List.length_take, List.length_drop, List.length_map]; done) | (simp only [List.length_append, List.length_singleton, List.length_set, List.length_take, List.length_drop, List.length_map]; omega)) only [↓reduceIte, go_sem, Nat.add_zero, Nat.zero_add, Nat.sub_zero, List.drop_zero, Nat.reduceLT, Nat.reduceEqDiff, Nat.reduceAdd, Nat.reduceMul, Nat.reduceSub, Int.reduceAdd, Int.reduceSub, Nat.reduceLeDiff, Int.reduceLT, Int.reduceLE, Int.reduceEq, Int.reduceNeg, Int.reduceToNat, IntWalk.i64_in, Bool.or_self, Bool.or_false, Bool.or_true, Bool.and_false, Bool.and_true, Bool.false_or, Bool.true_or, Bool.false_eq_true, Bool.true_eq_false, List.append_assoc, List.cons_append, List.nil_append, *]))
  all_goals (try first | rfl | (simp [*]; done) | grind)
/-- Where the whole ends, if that is told. -/
def toldM : List Pc → Int
  | [] => -1
  | p :: l => if p.more = true then toldM l else pcEnd p
theorem toldM_drop {l : List Pc} {i : Nat} (h : i < l.length) : toldM (l.drop i) = if (pcE.at l i).more = true then toldM (l.drop (i + 1)) else pcEnd (pcE.at l i) := by
  rw [pcE.drop_at h]
  rfl
theorem fn62L {l : List Pc} {s : V} {H : Hp} (hs : Lst H s l) (hn : ∀ p ∈ l, Near p) (hlen : l.length ≤ 1000) : callL Try.prog pr 62 [s] H = some (.int .i64 (toldM l), H) := by
  refine run62 (Nat.le_of_ble_eq_true rfl) ?_
  simp (disch := first | rfl | omega | exact byE_w | exact inE_w | exact boE_w | exact stE_w | exact pcE_w | exact lt_new _ | assumption | (simp only [List.length_append, List.length_singleton, List.length_set, List.length_take, List.length_drop, List.length_map]; done) | (simp only [List.length_append, List.length_singleton, List.length_set, List.length_take, List.length_drop, List.length_map]; omega)) only [r62_0, r62_1, r62_2, r62_3, r62_4, r62_5, r62_7, c62, rs62, gc62, ↓reduceIte, go_sem, Nat.add_zero, Nat.zero_add, Nat.sub_zero, List.drop_zero, Nat.reduceLT, Nat.reduceEqDiff, Nat.reduceAdd, Nat.reduceMul, Nat.reduceSub, Int.reduceAdd, Int.reduceSub, Nat.reduceLeDiff, Int.reduceLT, Int.reduceLE, Int.reduceEq, Int.reduceNeg, Int.reduceToNat, IntWalk.i64_in, Bool.or_self, Bool.or_false, Bool.or_true, Bool.and_false, Bool.and_true, Bool.false_or, Bool.true_or, Bool.false_eq_true, Bool.true_eq_false]
  refine Wp_loop (fun m T D H' => ∃ i, m = l.length - i ∧ i ≤ l.length ∧ D = [] ∧ H' = H ∧ get T 0 = s ∧ get T 3 = .int .i64 i ∧ toldM l = toldM (l.drop i)) ?_ l.length _ _ _ ?_
  · rintro m T D H' ⟨i, rfl, hi, rfl, rfl, h0, h3, hp⟩
    rcases hs with ⟨b, rfl⟩ | ⟨id, g, rfl, hr⟩
    all_goals
      by_cases hlt : i < l.length
      · have hlt' : (i : Int) < l.length := by omega
        have np := hn _ (pcE.at_mem hlt)
        have h37 := fn37 (pcE.at l i) np.ok (by have := np.hi; omega)
        rw [toldM_drop hlt] at hp
        simp (disch := first | rfl | omega | exact byE_w | exact inE_w | exact boE_w | exact stE_w | exact pcE_w | exact lt_new _ | assumption | (simp only [List.length_append, List.length_singleton, List.length_set, List.length_take, List.length_drop, List.length_map]; done) | (simp only [List.length_append, List.length_singleton, List.length_set, List.length_take, List.length_drop, List.length_map]; omega)) only [r62_0, r62_1, r62_2, r62_3, r62_4, r62_5, l62_6, r62_7, c62, rs62, gc62, ldP hlt, ldP2 hlt, ldR, ldQ hlt, ldQ2 hlt, Nat.zero_add, ↓reduceIte, go_sem, Nat.add_zero, Nat.zero_add, Nat.sub_zero, List.drop_zero, Nat.reduceLT, Nat.reduceEqDiff, Nat.reduceAdd, Nat.reduceMul, Nat.reduceSub, Int.reduceAdd, Int.reduceSub, Nat.reduceLeDiff, Int.reduceLT, Int.reduceLE, Int.reduceEq, Int.reduceNeg, Int.reduceToNat, IntWalk.i64_in, Bool.or_self, Bool.or_false, Bool.or_true, Bool.and_false, Bool.and_true, Bool.false_or, Bool.true_or, Bool.false_eq_true, Bool.true_eq_false, *]
        repeat' ((first | refine guardB_dec (fun hy => ?_) (fun hy => ?_) | refine guardB_bool (fun hy => ?_) (fun hy => ?_) | refine guardQ_ite (fun hy => ?_) (fun hy => ?_) | refine brQ_dec (fun hy => ?_) (fun hy => ?_) | refine brQ_bool (fun hy => ?_) (fun hy => ?_)) <;> (try simp only [Bool.not_eq_true', Bool.not_eq_false', Bool.and_eq_true, Bool.or_eq_false_iff, decide_eq_true_eq, decide_eq_false_iff_not] at hy) <;> simp (disch := first | rfl | omega | exact byE_w | exact inE_w | exact boE_w | exact stE_w | exact pcE_w | exact lt_new _ | assumption | (simp only [List.length_append, List.length_singleton, List.length_set, List.length_take, List.length_drop, List.length_map]; done) | (simp only [List.length_append, List.length_singleton, List.length_set, List.length_take, List.length_drop, List.length_map]; omega)) only [r62_0, r62_1, r62_2, r62_3, r62_4, r62_5, l62_6, r62_7, c62, rs62, gc62, ldP hlt, ldP2 hlt, ldR, ldQ hlt, ldQ2 hlt, Nat.zero_add, ↓reduceIte, go_sem, Nat.add_zero, Nat.zero_add, Nat.sub_zero, List.drop_zero, Nat.reduceLT, Nat.reduceEqDiff, Nat.reduceAdd, Nat.reduceMul, Nat.reduceSub, Int.reduceAdd, Int.reduceSub, Nat.reduceLeDiff, Int.reduceLT, Int.reduceLE, Int.reduceEq, Int.reduceNeg, Int.reduceToNat, IntWalk.i64_in, Bool.or_self, Bool.or_false, Bool.or_true, Bool.and_false, Bool.and_true, Bool.false_or, Bool.true_or, Bool.false_eq_true, Bool.true_eq_false, *])
        all_goals (try ((first | refine finQ_same ?_ | refine finQ_app ?_ | (rw [List.append_assoc]; refine finQ_app ?_)) <;> simp (disch := first | rfl | omega | exact byE_w | exact inE_w | exact boE_w | exact stE_w | exact pcE_w | exact lt_new _ | assumption | (simp only [List.length_append, List.length_singleton, List.length_set, List.length_take, List.length_drop, List.length_map]; done) | (simp only [List.length_append, List.length_singleton, List.length_set, List.length_take, List.length_drop, List.length_map]; omega)) only [↓reduceIte, go_sem, Nat.add_zero, Nat.zero_add, Nat.sub_zero, List.drop_zero, Nat.reduceLT, Nat.reduceEqDiff, Nat.reduceAdd, Nat.reduceMul, Nat.reduceSub, Int.reduceAdd, Int.reduceSub, Nat.reduceLeDiff, Int.reduceLT, Int.reduceLE, Int.reduceEq, Int.reduceNeg, Int.reduceToNat, IntWalk.i64_in, Bool.or_self, Bool.or_false, Bool.or_true, Bool.and_false, Bool.and_true, Bool.false_or, Bool.true_or, Bool.false_eq_true, Bool.true_eq_false, List.append_assoc, List.cons_append, List.nil_append, *]))
        all_goals (try first | rfl | (simp [*]; done) | grind)
      · obtain rfl : i = l.length := by omega
        rw [List.drop_length] at hp
        simp (disch := first | rfl | omega | exact byE_w | exact inE_w | exact boE_w | exact stE_w | exact pcE_w | exact lt_new _ | assumption | (simp only [List.length_append, List.length_singleton, List.length_set, List.length_take, List.length_drop, List.length_map]; done) | (simp only [List.length_append, List.length_singleton, List.length_set, List.length_take, List.length_drop, List.length_map]; omega)) only [r62_0, r62_1, r62_2, r62_3, r62_4, r62_5, l62_6, r62_7, c62, rs62, gc62, ↓reduceIte, go_sem, Nat.add_zero, Nat.zero_add, Nat.sub_zero, List.drop_zero, Nat.reduceLT, Nat.reduceEqDiff, Nat.reduceAdd, Nat.reduceMul, Nat.reduceSub, Int.reduceAdd, Int.reduceSub, Nat.reduceLeDiff, Int.reduceLT, Int.reduceLE, Int.reduceEq, Int.reduceNeg, Int.reduceToNat, IntWalk.i64_in, Bool.or_self, Bool.or_false, Bool.or_true, Bool.and_false, Bool.and_true, Bool.false_or, Bool.true_or, Bool.false_eq_true, Bool.true_eq_false, h0, h3, Int.lt_irrefl, decide_false]
        all_goals (try ((first | refine finQ_same ?_ | refine finQ_app ?_ | (rw [List.append_assoc]; refine finQ_app ?_)) <;> simp (disch := first | rfl | omega | exact byE_w | exact inE_w | exact boE_w | exact stE_w | exact pcE_w | exact lt_new _ | assumption | (simp only [List.length_append, List.length_singleton, List.length_set, List.length_take, List.length_drop, List.length_map]; done) | (simp only [List.length_append, List.length_singleton, List.length_set, List.length_take, List.length_drop, List.length_map]; omega)) only [↓reduceIte, go_sem, Nat.add_zero, Nat.zero_add, Nat.sub_zero, List.drop_zero, Nat.reduceLT, Nat.reduceEqDiff, Nat.reduceAdd, Nat.reduceMul, Nat.reduceSub, Int.reduceAdd, Int.reduceSub, Nat.reduceLeDiff, Int.reduceLT, Int.reduceLE, Int.reduceEq, Int.reduceNeg, Int.reduceToNat, IntWalk.i64_in, Bool.or_self, Bool.or_false, Bool.or_true, Bool.and_false, Bool.and_true, Bool.false_or, Bool.true_or, Bool.false_eq_true, Bool.true_eq_false, List.append_assoc, List.cons_append, List.nil_append, *]))
        all_goals (try first | rfl | (simp [*]; done) | grind)
  · exact ⟨0, by simp [go_sem]⟩
theorem fn62 {b : Bool} {l : List Pc} (hn : ∀ p ∈ l, Near p) (hlen : l.length ≤ 1000) (H : Hp) : callL Try.prog pr 62 [slV b pcE l] H = some (.int .i64 (toldM l), H) := fn62L (.of H b l) hn hlen
/-- Behind all bytes. -/
def behStep (m : Int) (p : Pc) : Int := if 0 < p.data.length then (if pcEnd p > m then pcEnd p else m) else m
def behM (l : List Pc) : Int := l.foldl behStep 0
theorem behM_next {l : List Pc} {i : Nat} (h : i < l.length) : behM (l.take (i + 1)) = behStep (behM (l.take i)) (pcE.at l i) := by
  unfold behM; rw [pcE.take_at h, List.foldl_append]; rfl
theorem fn76 {b : Bool} {l : List Pc} (hn : ∀ p ∈ l, Near p) (hlen : l.length ≤ 1000) (H : Hp) : callL Try.prog pr 76 [slV b pcE l] H = some (.int .i64 (behM l), H) := by
  refine run76 (Nat.le_of_ble_eq_true rfl) ?_
  simp (disch := first | rfl | omega | exact byE_w | exact inE_w | exact boE_w | exact stE_w | exact pcE_w | exact lt_new _ | assumption | (simp only [List.length_append, List.length_singleton, List.length_set, List.length_take, List.length_drop, List.length_map]; done) | (simp only [List.length_append, List.length_singleton, List.length_set, List.length_take, List.length_drop, List.length_map]; omega)) only [r76_0, r76_1, r76_2, r76_3, r76_4, r76_5, r76_6, r76_8, c76, rs76, gc76, ↓reduceIte, go_sem, Nat.add_zero, Nat.zero_add, Nat.sub_zero, List.drop_zero, Nat.reduceLT, Nat.reduceEqDiff, Nat.reduceAdd, Nat.reduceMul, Nat.reduceSub, Int.reduceAdd, Int.reduceSub, Nat.reduceLeDiff, Int.reduceLT, Int.reduceLE, Int.reduceEq, Int.reduceNeg, Int.reduceToNat, IntWalk.i64_in, Bool.or_self, Bool.or_false, Bool.or_true, Bool.and_false, Bool.and_true, Bool.false_or, Bool.true_or, Bool.false_eq_true, Bool.true_eq_false]
  refine Wp_loop (fun m T D H' => ∃ i, m = l.length - i ∧ i ≤ l.length ∧ D = [] ∧ H' = H ∧ get T 0 = slV b pcE l ∧ get T 4 = .int .i64 i ∧ get T 3 = .int .i64 (behM (l.take i))) ?_ l.length _ _ _ ?_
  · rintro m T D H' ⟨i, rfl, hi, rfl, rfl, h0, h4, h3⟩
    by_cases hlt : i < l.length
    · have hlt' : (i : Int) < l.length := by omega
      have np := hn _ (pcE.at_mem hlt)
      have h37 := fn37 (pcE.at l i) np.ok (by have := np.hi; omega)
      have hst := behM_next hlt
      unfold behStep at hst
      simp (disch := first | rfl | omega | exact byE_w | exact inE_w | exact boE_w | exact stE_w | exact pcE_w | exact lt_new _ | assumption | (simp only [List.length_append, List.length_singleton, List.length_set, List.length_take, List.length_drop, List.length_map]; done) | (simp only [List.length_append, List.length_singleton, List.length_set, List.length_take, List.length_drop, List.length_map]; omega)) only [r76_0, r76_1, r76_2, r76_3, r76_4, r76_5, r76_6, l76_7, r76_8, c76, rs76, gc76, ldP hlt, ldP3 hlt, ↓reduceIte, go_sem, Nat.add_zero, Nat.zero_add, Nat.sub_zero, List.drop_zero, Nat.reduceLT, Nat.reduceEqDiff, Nat.reduceAdd, Nat.reduceMul, Nat.reduceSub, Int.reduceAdd, Int.reduceSub, Nat.reduceLeDiff, Int.reduceLT, Int.reduceLE, Int.reduceEq, Int.reduceNeg, Int.reduceToNat, IntWalk.i64_in, Bool.or_self, Bool.or_false, Bool.or_true, Bool.and_false, Bool.and_true, Bool.false_or, Bool.true_or, Bool.false_eq_true, Bool.true_eq_false, *]
      repeat' ((first | refine guardB_dec (fun hy => ?_) (fun hy => ?_) | refine guardB_bool (fun hy => ?_) (fun hy => ?_) | refine guardQ_ite (fun hy => ?_) (fun hy => ?_) | refine brQ_dec (fun hy => ?_) (fun hy => ?_) | refine brQ_bool (fun hy => ?_) (fun hy => ?_)) <;> (try simp only [Bool.not_eq_true', Bool.not_eq_false', Bool.and_eq_true, Bool.or_eq_false_iff, decide_eq_true_eq, decide_eq_false_iff_not] at hy) <;> simp (disch := first | rfl | omega | exact byE_w | exact inE_w | exact boE_w | exact stE_w | exact pcE_w | exact lt_new _ | assumption | (simp only [List.length_append, List.length_singleton, List.length_set, List.length_take, List.length_drop, List.length_map]; done) | (simp only [List.length_append, List.length_singleton, List.length_set, List.length_take, List.length_drop, List.length_map]; omega)) only [r76_0, r76_1, r76_2, r76_3, r76_4, r76_5, r76_6, l76_7, r76_8, c76, rs76, gc76, ldP hlt, ldP3 hlt, ↓reduceIte, go_sem, Nat.add_zero, Nat.zero_add, Nat.sub_zero, List.drop_zero, Nat.reduceLT, Nat.reduceEqDiff, Nat.reduceAdd, Nat.reduceMul, Nat.reduceSub, Int.reduceAdd, Int.reduceSub, Nat.reduceLeDiff, Int.reduceLT, Int.reduceLE, Int.reduceEq, Int.reduceNeg, Int.reduceToNat, IntWalk.i64_in, Bool.or_self, Bool.or_false, Bool.or_true, Bool.and_false, Bool.and_true, Bool.false_or, Bool.true_or, Bool.false_eq_true, Bool.true_eq_false, *])
      · rw [if_pos (by omega)] at hst
        exact ⟨_, by omega, i + 1, rfl, hlt, rfl, by rw [hst]⟩
      · rw [if_neg (by omega)] at hst
        exact ⟨_, by omega, i + 1, rfl, hlt, rfl, by rw [hst]⟩
    · obtain rfl : i = l.length := by omega
      rw [List.take_length] at h3
      simp (disch := first | rfl | omega | exact byE_w | exact inE_w | exact boE_w | exact stE_w | exact pcE_w | exact lt_new _ | assumption | (simp only [List.length_append, List.length_singleton, List.length_set, List.length_take, List.length_drop, List.length_map]; done) | (simp only [List.length_append, List.length_singleton, List.length_set, List.length_take, List.length_drop, List.length_map]; omega)) only [r76_0, r76_1, r76_2, r76_3, r76_4, r76_5, r76_6, l76_7, r76_8, c76, rs76, gc76, ↓reduceIte, go_sem, Nat.add_zero, Nat.zero_add, Nat.sub_zero, List.drop_zero, Nat.reduceLT, Nat.reduceEqDiff, Nat.reduceAdd, Nat.reduceMul, Nat.reduceSub, Int.reduceAdd, Int.reduceSub, Nat.reduceLeDiff, Int.reduceLT, Int.reduceLE, Int.reduceEq, Int.reduceNeg, Int.reduceToNat, IntWalk.i64_in, Bool.or_self, Bool.or_false, Bool.or_true, Bool.and_false, Bool.and_true, Bool.false_or, Bool.true_or, Bool.false_eq_true, Bool.true_eq_false, h0, h3, h4, Int.lt_irrefl, decide_false]
      all_goals (try ((first | refine finQ_same ?_ | refine finQ_app ?_ | (rw [List.append_assoc]; refine finQ_app ?_)) <;> simp (disch := first | rfl | omega | exact byE_w | exact inE_w | exact boE_w | exact stE_w | exact pcE_w | exact lt_new _ | assumption | (simp only [List.length_append, List.length_singleton, List.length_set, List.length_take, List.length_drop, List.length_map]; done) | (simp only [List.length_append, List.length_singleton, List.length_set, List.length_take, List.length_drop, List.length_map]; omega)) only [↓reduceIte, go_sem, Nat.add_zero, Nat.zero_add, Nat.sub_zero, List.drop_zero, Nat.reduceLT, Nat.reduceEqDiff, Nat.reduceAdd, Nat.reduceMul, Nat.reduceSub, Int.reduceAdd, Int.reduceSub, Nat.reduceLeDiff, Int.reduceLT, Int.reduceLE, Int.reduceEq, Int.reduceNeg, Int.reduceToNat, IntWalk.i64_in, Bool.or_self, Bool.or_false, Bool.or_true, Bool.and_false, Bool.and_true, Bool.false_or, Bool.true_or, Bool.false_eq_true, Bool.true_eq_false, List.append_assoc, List.cons_append, List.nil_append, *]))
      all_goals (try first | rfl | (simp [*]; done) | grind)
  · exact ⟨0, by simp [go_sem, behM]⟩
/-- Which piece tells a place. -/
def atStep (pol k : Int) (o : Option Pc) (p : Pc) : Option Pc := if hasB p k = true then (match o with
  | none => some p
  | some q => if pol = 1 ∨ (pol = 2 ∧ p.at_ < q.at_) then some p else some q) else o
def atM (l : List Pc) (pol k : Int) : Option Pc := l.foldl (atStep pol k) none
theorem atM_next {l : List Pc} {pol k : Int} {i : Nat} (h : i < l.length) : atM (l.take (i + 1)) pol k = atStep pol k (atM (l.take i) pol k) (pcE.at l i) := by
  unfold atM
  rw [pcE.take_at h, List.foldl_append]; rfl
def atV (p : Pc) (k : Int) : UInt8 := byE.at p.data (k - p.at_).toNat
def atB (l : List Pc) (pol k : Int) : Option UInt8 := (atM l pol k).map fun p => atV p k
def numB : Option UInt8 → Int
  | some b => b.toNat
  | none => 0
set_option maxHeartbeats 2000000 in
theorem fn75L {l : List Pc} {s : V} {H : Hp} (hs : Lst H s l) (pol k : Int) (hn : ∀ p ∈ l, Near p) (hlen : l.length ≤ 1000) : callL Try.prog pr 75 [s, .int .i64 pol, .int .i64 k] H = some (.tup [.int .u8 (numB (atB l pol k)), .bool (atB l pol k).isSome], H) := by
  refine run75 (Nat.le_of_ble_eq_true rfl) ?_
  simp (disch := first | rfl | omega | exact byE_w | exact inE_w | exact boE_w | exact stE_w | exact pcE_w | exact lt_new _ | assumption | (simp only [List.length_append, List.length_singleton, List.length_set, List.length_take, List.length_drop, List.length_map]; done) | (simp only [List.length_append, List.length_singleton, List.length_set, List.length_take, List.length_drop, List.length_map]; omega)) only [r75_0, r75_1, r75_2, r75_3, r75_4, r75_5, r75_6, r75_7, r75_9, r75_10, r75_11, c75, rs75, gc75, ↓reduceIte, go_sem, Nat.add_zero, Nat.zero_add, Nat.sub_zero, List.drop_zero, Nat.reduceLT, Nat.reduceEqDiff, Nat.reduceAdd, Nat.reduceMul, Nat.reduceSub, Int.reduceAdd, Int.reduceSub, Nat.reduceLeDiff, Int.reduceLT, Int.reduceLE, Int.reduceEq, Int.reduceNeg, Int.reduceToNat, IntWalk.i64_in, Bool.or_self, Bool.or_false, Bool.or_true, Bool.and_false, Bool.and_true, Bool.false_or, Bool.true_or, Bool.false_eq_true, Bool.true_eq_false]
  refine Wp_loop (fun m T D H' => ∃ i, ∃ o : Option Nat, m = l.length - i ∧ i ≤ l.length ∧ D = [] ∧ H' = H ∧ get T 0 = s ∧ get T 1 = .int .i64 pol ∧ get T 2 = .int .i64 k ∧ get T 9 = .int .i64 i ∧ get T 8 = .int .i64 ((o.map fun n : Nat => (n : Int)).getD (-1)) ∧ atM (l.take i) pol k = o.map (pcE.at l) ∧ ∀ j, o = some j → j < l.length ∧ hasB (pcE.at l j) k = true) ?_ l.length _ _ _ ?_
  · rintro m T D H' ⟨i, o, rfl, hi, rfl, rfl, h0, h1, h2, h9, h8, hb, ho⟩
    rcases hs with ⟨b, rfl⟩ | ⟨id, g, rfl, hr⟩
    all_goals
      by_cases hlt : i < l.length
      · have hlt' : (i : Int) < l.length := by omega
        have h89 := fn89 (pcE.at l i) (hn _ (pcE.at_mem hlt)) k
        have hst := atM_next (pol := pol) (k := k) hlt
        unfold atStep at hst
        cases o with
        | none =>
          simp only [Option.map_none, Option.getD_none] at h8 hb
          simp only [hb] at hst
          simp (disch := first | rfl | omega | exact byE_w | exact inE_w | exact boE_w | exact stE_w | exact pcE_w | exact lt_new _ | assumption | (simp only [List.length_append, List.length_singleton, List.length_set, List.length_take, List.length_drop, List.length_map]; done) | (simp only [List.length_append, List.length_singleton, List.length_set, List.length_take, List.length_drop, List.length_map]; omega)) only [r75_0, r75_1, r75_2, r75_3, r75_4, r75_5, r75_6, r75_7, l75_8, r75_9, r75_10, r75_11, c75, rs75, gc75, ldP hlt, ldR, ldQ hlt, Nat.zero_add, ↓reduceIte, go_sem, Nat.add_zero, Nat.zero_add, Nat.sub_zero, List.drop_zero, Nat.reduceLT, Nat.reduceEqDiff, Nat.reduceAdd, Nat.reduceMul, Nat.reduceSub, Int.reduceAdd, Int.reduceSub, Nat.reduceLeDiff, Int.reduceLT, Int.reduceLE, Int.reduceEq, Int.reduceNeg, Int.reduceToNat, IntWalk.i64_in, Bool.or_self, Bool.or_false, Bool.or_true, Bool.and_false, Bool.and_true, Bool.false_or, Bool.true_or, Bool.false_eq_true, Bool.true_eq_false, *]
          repeat' ((first | refine guardB_dec (fun hy => ?_) (fun hy => ?_) | refine guardB_bool (fun hy => ?_) (fun hy => ?_) | refine guardQ_ite (fun hy => ?_) (fun hy => ?_) | refine brQ_dec (fun hy => ?_) (fun hy => ?_) | refine brQ_bool (fun hy => ?_) (fun hy => ?_)) <;> (try simp only [Bool.not_eq_true', Bool.not_eq_false', Bool.and_eq_true, Bool.or_eq_false_iff, decide_eq_true_eq, decide_eq_false_iff_not] at hy) <;> simp (disch := first | rfl | omega | exact byE_w | exact inE_w | exact boE_w | exact stE_w | exact pcE_w | exact lt_new _ | assumption | (simp only [List.length_append, List.length_singleton, List.length_set, List.length_take, List.length_drop, List.length_map]; done) | (simp only [List.length_append, List.length_singleton, List.length_set, List.length_take, List.length_drop, List.length_map]; omega)) only [r75_0, r75_1, r75_2, r75_3, r75_4, r75_5, r75_6, r75_7, l75_8, r75_9, r75_10, r75_11, c75, rs75, gc75, ldP hlt, ldR, ldQ hlt, Nat.zero_add, ↓reduceIte, go_sem, Nat.add_zero, Nat.zero_add, Nat.sub_zero, List.drop_zero, Nat.reduceLT, Nat.reduceEqDiff, Nat.reduceAdd, Nat.reduceMul, Nat.reduceSub, Int.reduceAdd, Int.reduceSub, Nat.reduceLeDiff, Int.reduceLT, Int.reduceLE, Int.reduceEq, Int.reduceNeg, Int.reduceToNat, IntWalk.i64_in, Bool.or_self, Bool.or_false, Bool.or_true, Bool.and_false, Bool.and_true, Bool.false_or, Bool.true_or, Bool.false_eq_true, Bool.true_eq_false, *])
          all_goals (try first | omega | (refine ⟨_, by omega, i + 1, some i, rfl, hlt, ?_⟩; simp [*]; done) | (refine ⟨_, by omega, i + 1, some i, rfl, hlt, ?_⟩; simp_all; done) | (refine ⟨_, by omega, i + 1, some i, rfl, hlt, ?_⟩; grind) | (refine ⟨_, by omega, i + 1, none, rfl, hlt, ?_⟩; simp [*]; done) | (refine ⟨_, by omega, i + 1, none, rfl, hlt, ?_⟩; simp_all; done) | (refine ⟨_, by omega, i + 1, none, rfl, hlt, ?_⟩; grind))
        | some j =>
          obtain ⟨hj, hjk⟩ := ho j rfl
          simp only [Option.map_some, Option.getD_some] at h8 hb
          simp only [hb] at hst
          simp (disch := first | rfl | omega | exact byE_w | exact inE_w | exact boE_w | exact stE_w | exact pcE_w | exact lt_new _ | assumption | (simp only [List.length_append, List.length_singleton, List.length_set, List.length_take, List.length_drop, List.length_map]; done) | (simp only [List.length_append, List.length_singleton, List.length_set, List.length_take, List.length_drop, List.length_map]; omega)) only [r75_0, r75_1, r75_2, r75_3, r75_4, r75_5, r75_6, r75_7, l75_8, r75_9, r75_10, r75_11, c75, rs75, gc75, ldP hlt, ldP1 hlt, ldP1 hj, ldR, ldQ hlt, ldQ1 hlt, ldQ1 hj, Nat.zero_add, ↓reduceIte, go_sem, Nat.add_zero, Nat.zero_add, Nat.sub_zero, List.drop_zero, Nat.reduceLT, Nat.reduceEqDiff, Nat.reduceAdd, Nat.reduceMul, Nat.reduceSub, Int.reduceAdd, Int.reduceSub, Nat.reduceLeDiff, Int.reduceLT, Int.reduceLE, Int.reduceEq, Int.reduceNeg, Int.reduceToNat, IntWalk.i64_in, Bool.or_self, Bool.or_false, Bool.or_true, Bool.and_false, Bool.and_true, Bool.false_or, Bool.true_or, Bool.false_eq_true, Bool.true_eq_false, *]
          repeat' ((first | refine guardB_dec (fun hy => ?_) (fun hy => ?_) | refine guardB_bool (fun hy => ?_) (fun hy => ?_) | refine guardQ_ite (fun hy => ?_) (fun hy => ?_) | refine brQ_dec (fun hy => ?_) (fun hy => ?_) | refine brQ_bool (fun hy => ?_) (fun hy => ?_)) <;> (try simp only [Bool.not_eq_true', Bool.not_eq_false', Bool.and_eq_true, Bool.or_eq_false_iff, decide_eq_true_eq, decide_eq_false_iff_not] at hy) <;> simp (disch := first | rfl | omega | exact byE_w | exact inE_w | exact boE_w | exact stE_w | exact pcE_w | exact lt_new _ | assumption | (simp only [List.length_append, List.length_singleton, List.length_set, List.length_take, List.length_drop, List.length_map]; done) | (simp only [List.length_append, List.length_singleton, List.length_set, List.length_take, List.length_drop, List.length_map]; omega)) only [r75_0, r75_1, r75_2, r75_3, r75_4, r75_5, r75_6, r75_7, l75_8, r75_9, r75_10, r75_11, c75, rs75, gc75, ldP hlt, ldP1 hlt, ldP1 hj, ldR, ldQ hlt, ldQ1 hlt, ldQ1 hj, Nat.zero_add, ↓reduceIte, go_sem, Nat.add_zero, Nat.zero_add, Nat.sub_zero, List.drop_zero, Nat.reduceLT, Nat.reduceEqDiff, Nat.reduceAdd, Nat.reduceMul, Nat.reduceSub, Int.reduceAdd, Int.reduceSub, Nat.reduceLeDiff, Int.reduceLT, Int.reduceLE, Int.reduceEq, Int.reduceNeg, Int.reduceToNat, IntWalk.i64_in, Bool.or_self, Bool.or_false, Bool.or_true, Bool.and_false, Bool.and_true, Bool.false_or, Bool.true_or, Bool.false_eq_true, Bool.true_eq_false, *])
          all_goals (try first | omega | (refine ⟨_, by omega, i + 1, some i, rfl, hlt, ?_⟩; simp [*]; done) | (refine ⟨_, by omega, i + 1, some i, rfl, hlt, ?_⟩; simp_all; done) | (refine ⟨_, by omega, i + 1, some i, rfl, hlt, ?_⟩; grind) | (refine ⟨_, by omega, i + 1, some j, rfl, hlt, ?_⟩; simp [*]; done) | (refine ⟨_, by omega, i + 1, some j, rfl, hlt, ?_⟩; simp_all; done) | (refine ⟨_, by omega, i + 1, some j, rfl, hlt, ?_⟩; grind))
      · obtain rfl : i = l.length := by omega
        rw [List.take_length] at hb
        cases o with
        | none =>
          have e : atB l pol k = none := by unfold atB; rw [hb]; rfl
          simp (disch := first | rfl | omega | exact byE_w | exact inE_w | exact boE_w | exact stE_w | exact pcE_w | exact lt_new _ | assumption | (simp only [List.length_append, List.length_singleton, List.length_set, List.length_take, List.length_drop, List.length_map]; done) | (simp only [List.length_append, List.length_singleton, List.length_set, List.length_take, List.length_drop, List.length_map]; omega)) only [r75_0, r75_1, r75_2, r75_3, r75_4, r75_5, r75_6, r75_7, l75_8, r75_9, r75_10, r75_11, c75, rs75, gc75, Int.lt_irrefl, ↓reduceIte, go_sem, Nat.add_zero, Nat.zero_add, Nat.sub_zero, List.drop_zero, Nat.reduceLT, Nat.reduceEqDiff, Nat.reduceAdd, Nat.reduceMul, Nat.reduceSub, Int.reduceAdd, Int.reduceSub, Nat.reduceLeDiff, Int.reduceLT, Int.reduceLE, Int.reduceEq, Int.reduceNeg, Int.reduceToNat, IntWalk.i64_in, Bool.or_self, Bool.or_false, Bool.or_true, Bool.and_false, Bool.and_true, Bool.false_or, Bool.true_or, Bool.false_eq_true, Bool.true_eq_false, *]
          repeat' ((first | refine guardB_dec (fun hy => ?_) (fun hy => ?_) | refine guardB_bool (fun hy => ?_) (fun hy => ?_) | refine guardQ_ite (fun hy => ?_) (fun hy => ?_) | refine brQ_dec (fun hy => ?_) (fun hy => ?_) | refine brQ_bool (fun hy => ?_) (fun hy => ?_)) <;> (try simp only [Bool.not_eq_true', Bool.not_eq_false', Bool.and_eq_true, Bool.or_eq_false_iff, decide_eq_true_eq, decide_eq_false_iff_not] at hy) <;> simp (disch := first | rfl | omega | exact byE_w | exact inE_w | exact boE_w | exact stE_w | exact pcE_w | exact lt_new _ | assumption | (simp only [List.length_append, List.length_singleton, List.length_set, List.length_take, List.length_drop, List.length_map]; done) | (simp only [List.length_append, List.length_singleton, List.length_set, List.length_take, List.length_drop, List.length_map]; omega)) only [r75_0, r75_1, r75_2, r75_3, r75_4, r75_5, r75_6, r75_7, l75_8, r75_9, r75_10, r75_11, c75, rs75, gc75, Int.lt_irrefl, ↓reduceIte, go_sem, Nat.add_zero, Nat.zero_add, Nat.sub_zero, List.drop_zero, Nat.reduceLT, Nat.reduceEqDiff, Nat.reduceAdd, Nat.reduceMul, Nat.reduceSub, Int.reduceAdd, Int.reduceSub, Nat.reduceLeDiff, Int.reduceLT, Int.reduceLE, Int.reduceEq, Int.reduceNeg, Int.reduceToNat, IntWalk.i64_in, Bool.or_self, Bool.or_false, Bool.or_true, Bool.and_false, Bool.and_true, Bool.false_or, Bool.true_or, Bool.false_eq_true, Bool.true_eq_false, *])
          all_goals (try ((first | refine finQ_same ?_ | refine finQ_app ?_ | (rw [List.append_assoc]; refine finQ_app ?_)) <;> simp (disch := first | rfl | omega | exact byE_w | exact inE_w | exact boE_w | exact stE_w | exact pcE_w | exact lt_new _ | assumption | (simp only [List.length_append, List.length_singleton, List.length_set, List.length_take, List.length_drop, List.length_map]; done) | (simp only [List.length_append, List.length_singleton, List.length_set, List.length_take, List.length_drop, List.length_map]; omega)) only [↓reduceIte, go_sem, Nat.add_zero, Nat.zero_add, Nat.sub_zero, List.drop_zero, Nat.reduceLT, Nat.reduceEqDiff, Nat.reduceAdd, Nat.reduceMul, Nat.reduceSub, Int.reduceAdd, Int.reduceSub, Nat.reduceLeDiff, Int.reduceLT, Int.reduceLE, Int.reduceEq, Int.reduceNeg, Int.reduceToNat, IntWalk.i64_in, Bool.or_self, Bool.or_false, Bool.or_true, Bool.and_false, Bool.and_true, Bool.false_or, Bool.true_or, Bool.false_eq_true, Bool.true_eq_false, List.append_assoc, List.cons_append, List.nil_append, *]))
          all_goals (try first | rfl | (simp [*]; done) | grind)
        | some j =>
          obtain ⟨hj, hjk⟩ := ho j rfl
          simp only [Option.map_some, Option.getD_some] at h8 hb
          have nq := hn _ (pcE.at_mem hj)
          have hjk := hasB_iff.1 hjk
          have e : atB l pol k = some (atV (pcE.at l j) k) := by unfold atB; rw [hb]; rfl
          have hlo := nq.lo
          have hhi := nq.hi
          have hml : (k - (pcE.at l j).at_).toNat < (pcE.at l j).data.length := by omega
          simp (disch := first | rfl | omega | exact byE_w | exact inE_w | exact boE_w | exact stE_w | exact pcE_w | exact lt_new _ | assumption | (simp only [List.length_append, List.length_singleton, List.length_set, List.length_take, List.length_drop, List.length_map]; done) | (simp only [List.length_append, List.length_singleton, List.length_set, List.length_take, List.length_drop, List.length_map]; omega)) only [r75_0, r75_1, r75_2, r75_3, r75_4, r75_5, r75_6, r75_7, l75_8, r75_9, r75_10, r75_11, c75, rs75, gc75, Int.lt_irrefl, ldP1 hj, ldP3 hj, ldB hml, ldR, ldQ1 hj, ldQ3 hj, Nat.zero_add, ↓reduceIte, go_sem, Nat.add_zero, Nat.zero_add, Nat.sub_zero, List.drop_zero, Nat.reduceLT, Nat.reduceEqDiff, Nat.reduceAdd, Nat.reduceMul, Nat.reduceSub, Int.reduceAdd, Int.reduceSub, Nat.reduceLeDiff, Int.reduceLT, Int.reduceLE, Int.reduceEq, Int.reduceNeg, Int.reduceToNat, IntWalk.i64_in, Bool.or_self, Bool.or_false, Bool.or_true, Bool.and_false, Bool.and_true, Bool.false_or, Bool.true_or, Bool.false_eq_true, Bool.true_eq_false, *]
          repeat' ((first | refine guardB_dec (fun hy => ?_) (fun hy => ?_) | refine guardB_bool (fun hy => ?_) (fun hy => ?_) | refine guardQ_ite (fun hy => ?_) (fun hy => ?_) | refine brQ_dec (fun hy => ?_) (fun hy => ?_) | refine brQ_bool (fun hy => ?_) (fun hy => ?_)) <;> (try simp only [Bool.not_eq_true', Bool.not_eq_false', Bool.and_eq_true, Bool.or_eq_false_iff, decide_eq_true_eq, decide_eq_false_iff_not] at hy) <;> simp (disch := first | rfl | omega | exact byE_w | exact inE_w | exact boE_w | exact stE_w | exact pcE_w | exact lt_new _ | assumption | (simp only [List.length_append, List.length_singleton, List.length_set, List.length_take, List.length_drop, List.length_map]; done) | (simp only [List.length_append, List.length_singleton, List.length_set, List.length_take, List.length_drop, List.length_map]; omega)) only [r75_0, r75_1, r75_2, r75_3, r75_4, r75_5, r75_6, r75_7, l75_8, r75_9, r75_10, r75_11, c75, rs75, gc75, Int.lt_irrefl, ldP1 hj, ldP3 hj, ldB hml, ldR, ldQ1 hj, ldQ3 hj, Nat.zero_add, ↓reduceIte, go_sem, Nat.add_zero, Nat.zero_add, Nat.sub_zero, List.drop_zero, Nat.reduceLT, Nat.reduceEqDiff, Nat.reduceAdd, Nat.reduceMul, Nat.reduceSub, Int.reduceAdd, Int.reduceSub, Nat.reduceLeDiff, Int.reduceLT, Int.reduceLE, Int.reduceEq, Int.reduceNeg, Int.reduceToNat, IntWalk.i64_in, Bool.or_self, Bool.or_false, Bool.or_true, Bool.and_false, Bool.and_true, Bool.false_or, Bool.true_or, Bool.false_eq_true, Bool.true_eq_false, *])
          all_goals (try ((first | refine finQ_same ?_ | refine finQ_app ?_ | (rw [List.append_assoc]; refine finQ_app ?_)) <;> simp (disch := first | rfl | omega | exact byE_w | exact inE_w | exact boE_w | exact stE_w | exact pcE_w | exact lt_new _ | assumption | (simp only [List.length_append, List.length_singleton, List.length_set, List.length_take, List.length_drop, List.length_map]; done) | (simp only [List.length_append, List.length_singleton, List.length_set, List.length_take, List.length_drop, List.length_map]; omega)) only [↓reduceIte, go_sem, Nat.add_zero, Nat.zero_add, Nat.sub_zero, List.drop_zero, Nat.reduceLT, Nat.reduceEqDiff, Nat.reduceAdd, Nat.reduceMul, Nat.reduceSub, Int.reduceAdd, Int.reduceSub, Nat.reduceLeDiff, Int.reduceLT, Int.reduceLE, Int.reduceEq, Int.reduceNeg, Int.reduceToNat, IntWalk.i64_in, Bool.or_self, Bool.or_false, Bool.or_true, Bool.and_false, Bool.and_true, Bool.false_or, Bool.true_or, Bool.false_eq_true, Bool.true_eq_false, List.append_assoc, List.cons_append, List.nil_append, *]))
          all_goals (try first | rfl | (simp [*]; done) | grind)
  · exact ⟨0, none, by simp [go_sem, atM]⟩
theorem fn75 {b : Bool} {l : List Pc} (pol k : Int) (hn : ∀ p ∈ l, Near p) (hlen : l.length ≤ 1000) (H : Hp) : callL Try.prog pr 75 [slV b pcE l, .int .i64 pol, .int .i64 k] H = some (.tup [.int .u8 (numB (atB l pol k)), .bool (atB l pol k).isSome], H) := fn75L (.of H b l) pol k hn hlen
end Go.Proofs.Ytdpdlobaabcjjab
/-
  Which bytes of a piece are new or unlike; whether it is strange; the bytes of a whole. No statement of the seat stands here.
-/
namespace Go.Proofs.Ytdpdlobaabcjjab
open Go Go.An
set_option maxRecDepth 4000
set_option linter.unusedSimpArgs false
set_option linter.unusedVariables false

def newAt (l : List Pc) (pol : Int) (p : Pc) (i : Nat) : Bool := (atB l pol (p.at_ + i)).isNone
def difAt (l : List Pc) (pol : Int) (p : Pc) (i : Nat) : Bool := match atB l pol (p.at_ + i) with
  | some b => decide (b ≠ byE.at p.data i)
  | none => false
def frM (l : List Pc) (pol : Int) (p : Pc) (n : Nat) : Bool := (List.range n).any (newAt l pol p)
def dfM (l : List Pc) (pol : Int) (p : Pc) (n : Nat) : Bool := (List.range n).any (difAt l pol p)
theorem any_next (f : Nat → Bool) (n : Nat) : (List.range (n + 1)).any f = ((List.range n).any f || f n) := by
  rw [List.range_succ, List.any_append]; simp
theorem all_next (f : Nat → Bool) (n : Nat) : (List.range (n + 1)).all f = ((List.range n).all f && f n) := by
  rw [List.range_succ, List.all_append]; simp
theorem u8_ne (a b : UInt8) : ((a.toNat : Int) = b.toNat) ↔ a = b := by
  constructor
  · intro h
    exact UInt8.toNat_inj.1 (by omega)
  · intro h; rw [h]
set_option maxHeartbeats 1000000 in
theorem fn59 {b : Bool} {l : List Pc} (pol : Int) (p : Pc) (hn : ∀ p ∈ l, Near p) (np : Near p) (hlen : l.length ≤ 1000) (H : Hp) : callL Try.prog pr 59 [slV b pcE l, .int .i64 pol, .agg (pcE.f p)] H = some (.tup [.bool (frM l pol p p.data.length), .bool (dfM l pol p p.data.length)], H) := by
  have hlo := np.lo
  have hhi := np.hi
  have h37 := fn37 p np.ok (by omega)
  refine run59 (Nat.le_of_ble_eq_true rfl) ?_
  simp (disch := first | rfl | omega | exact byE_w | exact inE_w | exact boE_w | exact stE_w | exact pcE_w | exact lt_new _ | assumption | (simp only [List.length_append, List.length_singleton, List.length_set, List.length_take, List.length_drop, List.length_map]; done) | (simp only [List.length_append, List.length_singleton, List.length_set, List.length_take, List.length_drop, List.length_map]; omega)) only [r59_0, r59_1, r59_2, r59_3, r59_4, r59_5, r59_6, r59_7, r59_9, c59, rs59, gc59, ↓reduceIte, go_sem, Nat.add_zero, Nat.zero_add, Nat.sub_zero, List.drop_zero, Nat.reduceLT, Nat.reduceEqDiff, Nat.reduceAdd, Nat.reduceMul, Nat.reduceSub, Int.reduceAdd, Int.reduceSub, Nat.reduceLeDiff, Int.reduceLT, Int.reduceLE, Int.reduceEq, Int.reduceNeg, Int.reduceToNat, IntWalk.i64_in, Bool.or_self, Bool.or_false, Bool.or_true, Bool.and_false, Bool.and_true, Bool.false_or, Bool.true_or, Bool.false_eq_true, Bool.true_eq_false]
  refine Wp_loop (fun m T D H' => ∃ i, m = p.data.length - i ∧ i ≤ p.data.length ∧ D = [] ∧ H' = H ∧ get T 0 = slV b pcE l ∧ get T 1 = .int .i64 pol ∧ get T 5 = .ipt (pcE.f p) 0 ∧ get T 10 = .int .i64 (p.at_ + (i : Nat)) ∧ get T 8 = .bool (frM l pol p i) ∧ get T 9 = .bool (dfM l pol p i)) ?_ p.data.length _ _ _ ?_
  · rintro m T D H' ⟨i, rfl, hi, rfl, rfl, t0, t1, t5, t10, t8, t9⟩
    have h75 := fn75 (b := b) pol (p.at_ + (i : Nat)) hn hlen
    by_cases hlt : i < p.data.length
    · have hlt' : p.at_ + (i : Int) < pcEnd p := by unfold pcEnd; omega
      have hfr := any_next (newAt l pol p) i
      have hdf := any_next (difAt l pol p) i
      have hsub : p.at_ + (i : Int) - p.at_ = i := by omega
      change frM l pol p (i + 1) = (frM l pol p i || newAt l pol p i) at hfr
      change dfM l pol p (i + 1) = (dfM l pol p i || difAt l pol p i) at hdf
      unfold newAt at hfr
      unfold difAt at hdf
      cases ho : atB l pol (p.at_ + (i : Nat)) with
      | none =>
        simp only [ho, numB, Option.isSome_none, Option.isNone_none] at h75 hfr hdf
        simp (disch := first | rfl | omega | exact byE_w | exact inE_w | exact boE_w | exact stE_w | exact pcE_w | exact lt_new _ | assumption | (simp only [List.length_append, List.length_singleton, List.length_set, List.length_take, List.length_drop, List.length_map]; done) | (simp only [List.length_append, List.length_singleton, List.length_set, List.length_take, List.length_drop, List.length_map]; omega)) only [r59_0, r59_1, r59_2, r59_3, r59_4, r59_5, r59_6, r59_7, l59_8, r59_9, c59, rs59, gc59, ldB hlt, ↓reduceIte, go_sem, Nat.add_zero, Nat.zero_add, Nat.sub_zero, List.drop_zero, Nat.reduceLT, Nat.reduceEqDiff, Nat.reduceAdd, Nat.reduceMul, Nat.reduceSub, Int.reduceAdd, Int.reduceSub, Nat.reduceLeDiff, Int.reduceLT, Int.reduceLE, Int.reduceEq, Int.reduceNeg, Int.reduceToNat, IntWalk.i64_in, Bool.or_self, Bool.or_false, Bool.or_true, Bool.and_false, Bool.and_true, Bool.false_or, Bool.true_or, Bool.false_eq_true, Bool.true_eq_false, *]
        repeat' ((first | refine guardB_dec (fun hy => ?_) (fun hy => ?_) | refine guardB_bool (fun hy => ?_) (fun hy => ?_) | refine guardQ_ite (fun hy => ?_) (fun hy => ?_) | refine brQ_dec (fun hy => ?_) (fun hy => ?_) | refine brQ_bool (fun hy => ?_) (fun hy => ?_)) <;> (try simp only [Bool.not_eq_true', Bool.not_eq_false', Bool.and_eq_true, Bool.or_eq_false_iff, decide_eq_true_eq, decide_eq_false_iff_not] at hy) <;> simp (disch := first | rfl | omega | exact byE_w | exact inE_w | exact boE_w | exact stE_w | exact pcE_w | exact lt_new _ | assumption | (simp only [List.length_append, List.length_singleton, List.length_set, List.length_take, List.length_drop, List.length_map]; done) | (simp only [List.length_append, List.length_singleton, List.length_set, List.length_take, List.length_drop, List.length_map]; omega)) only [r59_0, r59_1, r59_2, r59_3, r59_4, r59_5, r59_6, r59_7, l59_8, r59_9, c59, rs59, gc59, ldB hlt, ↓reduceIte, go_sem, Nat.add_zero, Nat.zero_add, Nat.sub_zero, List.drop_zero, Nat.reduceLT, Nat.reduceEqDiff, Nat.reduceAdd, Nat.reduceMul, Nat.reduceSub, Int.reduceAdd, Int.reduceSub, Nat.reduceLeDiff, Int.reduceLT, Int.reduceLE, Int.reduceEq, Int.reduceNeg, Int.reduceToNat, IntWalk.i64_in, Bool.or_self, Bool.or_false, Bool.or_true, Bool.and_false, Bool.and_true, Bool.false_or, Bool.true_or, Bool.false_eq_true, Bool.true_eq_false, *])
        all_goals (try first | omega | (refine ⟨_, by omega, i + 1, rfl, hlt, ?_⟩; simp [*]; done) | (refine ⟨_, by omega, i + 1, rfl, hlt, ?_⟩; simp_all; done) | (refine ⟨_, by omega, i + 1, rfl, hlt, ?_⟩; grind))
      | some y =>
        simp only [ho, numB, Option.isSome_some, Option.isNone_some, ne_eq] at h75 hfr hdf
        simp (disch := first | rfl | omega | exact byE_w | exact inE_w | exact boE_w | exact stE_w | exact pcE_w | exact lt_new _ | assumption | (simp only [List.length_append, List.length_singleton, List.length_set, List.length_take, List.length_drop, List.length_map]; done) | (simp only [List.length_append, List.length_singleton, List.length_set, List.length_take, List.length_drop, List.length_map]; omega)) only [r59_0, r59_1, r59_2, r59_3, r59_4, r59_5, r59_6, r59_7, l59_8, r59_9, c59, rs59, gc59, ldB hlt, u8_ne, ↓reduceIte, go_sem, Nat.add_zero, Nat.zero_add, Nat.sub_zero, List.drop_zero, Nat.reduceLT, Nat.reduceEqDiff, Nat.reduceAdd, Nat.reduceMul, Nat.reduceSub, Int.reduceAdd, Int.reduceSub, Nat.reduceLeDiff, Int.reduceLT, Int.reduceLE, Int.reduceEq, Int.reduceNeg, Int.reduceToNat, IntWalk.i64_in, Bool.or_self, Bool.or_false, Bool.or_true, Bool.and_false, Bool.and_true, Bool.false_or, Bool.true_or, Bool.false_eq_true, Bool.true_eq_false, *]
        repeat' ((first | refine guardB_dec (fun hy => ?_) (fun hy => ?_) | refine guardB_bool (fun hy => ?_) (fun hy => ?_) | refine guardQ_ite (fun hy => ?_) (fun hy => ?_) | refine brQ_dec (fun hy => ?_) (fun hy => ?_) | refine brQ_bool (fun hy => ?_) (fun hy => ?_)) <;> (try simp only [Bool.not_eq_true', Bool.not_eq_false', Bool.and_eq_true, Bool.or_eq_false_iff, decide_eq_true_eq, decide_eq_false_iff_not] at hy) <;> simp (disch := first | rfl | omega | exact byE_w | exact inE_w | exact boE_w | exact stE_w | exact pcE_w | exact lt_new _ | assumption | (simp only [List.length_append, List.length_singleton, List.length_set, List.length_take, List.length_drop, List.length_map]; done) | (simp only [List.length_append, List.length_singleton, List.length_set, List.length_take, List.length_drop, List.length_map]; omega)) only [r59_0, r59_1, r59_2, r59_3, r59_4, r59_5, r59_6, r59_7, l59_8, r59_9, c59, rs59, gc59, ldB hlt, u8_ne, ↓reduceIte, go_sem, Nat.add_zero, Nat.zero_add, Nat.sub_zero, List.drop_zero, Nat.reduceLT, Nat.reduceEqDiff, Nat.reduceAdd, Nat.reduceMul, Nat.reduceSub, Int.reduceAdd, Int.reduceSub, Nat.reduceLeDiff, Int.reduceLT, Int.reduceLE, Int.reduceEq, Int.reduceNeg, Int.reduceToNat, IntWalk.i64_in, Bool.or_self, Bool.or_false, Bool.or_true, Bool.and_false, Bool.and_true, Bool.false_or, Bool.true_or, Bool.false_eq_true, Bool.true_eq_false, *])
        all_goals (try first | omega | (refine ⟨_, by omega, i + 1, rfl, hlt, ?_⟩; simp [*]; done) | (refine ⟨_, by omega, i + 1, rfl, hlt, ?_⟩; simp_all; done) | (refine ⟨_, by omega, i + 1, rfl, hlt, ?_⟩; grind))
    · obtain rfl : i = p.data.length := by omega
      have hlt' : ¬ p.at_ + (p.data.length : Int) < pcEnd p := by unfold pcEnd; omega
      simp (disch := first | rfl | omega | exact byE_w | exact inE_w | exact boE_w | exact stE_w | exact pcE_w | exact lt_new _ | assumption | (simp only [List.length_append, List.length_singleton, List.length_set, List.length_take, List.length_drop, List.length_map]; done) | (simp only [List.length_append, List.length_singleton, List.length_set, List.length_take, List.length_drop, List.length_map]; omega)) only [r59_0, r59_1, r59_2, r59_3, r59_4, r59_5, r59_6, r59_7, l59_8, r59_9, c59, rs59, gc59, ↓reduceIte, go_sem, Nat.add_zero, Nat.zero_add, Nat.sub_zero, List.drop_zero, Nat.reduceLT, Nat.reduceEqDiff, Nat.reduceAdd, Nat.reduceMul, Nat.reduceSub, Int.reduceAdd, Int.reduceSub, Nat.reduceLeDiff, Int.reduceLT, Int.reduceLE, Int.reduceEq, Int.reduceNeg, Int.reduceToNat, IntWalk.i64_in, Bool.or_self, Bool.or_false, Bool.or_true, Bool.and_false, Bool.and_true, Bool.false_or, Bool.true_or, Bool.false_eq_true, Bool.true_eq_false, *]
      repeat' ((first | refine guardB_dec (fun hy => ?_) (fun hy => ?_) | refine guardB_bool (fun hy => ?_) (fun hy => ?_) | refine guardQ_ite (fun hy => ?_) (fun hy => ?_) | refine brQ_dec (fun hy => ?_) (fun hy => ?_) | refine brQ_bool (fun hy => ?_) (fun hy => ?_)) <;> (try simp only [Bool.not_eq_true', Bool.not_eq_false', Bool.and_eq_true, Bool.or_eq_false_iff, decide_eq_true_eq, decide_eq_false_iff_not] at hy) <;> simp (disch := first | rfl | omega | exact byE_w | exact inE_w | exact boE_w | exact stE_w | exact pcE_w | exact lt_new _ | assumption | (simp only [List.length_append, List.length_singleton, List.length_set, List.length_take, List.length_drop, List.length_map]; done) | (simp only [List.length_append, List.length_singleton, List.length_set, List.length_take, List.length_drop, List.length_map]; omega)) only [r59_0, r59_1, r59_2, r59_3, r59_4, r59_5, r59_6, r59_7, l59_8, r59_9, c59, rs59, gc59, ↓reduceIte, go_sem, Nat.add_zero, Nat.zero_add, Nat.sub_zero, List.drop_zero, Nat.reduceLT, Nat.reduceEqDiff, Nat.reduceAdd, Nat.reduceMul, Nat.reduceSub, Int.reduceAdd, Int.reduceSub, Nat.reduceLeDiff, Int.reduceLT, Int.reduceLE, Int.reduceEq, Int.reduceNeg, Int.reduceToNat, IntWalk.i64_in, Bool.or_self, Bool.or_false, Bool.or_true, Bool.and_false, Bool.and_true, Bool.false_or, Bool.true_or, Bool.false_eq_true, Bool.true_eq_false, *])
      all_goals (try ((first | refine finQ_same ?_ | refine finQ_app ?_ | (rw [List.append_assoc]; refine finQ_app ?_)) <;> simp (disch := first | rfl | omega | exact byE_w | exact inE_w | exact boE_w | exact stE_w | exact pcE_w | exact lt_new _ | assumption | (simp only [List.length_append, List.length_singleton, List.length_set, List.length_take, List.length_drop, List.length_map]; done) | (simp only [List.length_append, List.length_singleton, List.length_set, List.length_take, List.length_drop, List.length_map]; omega)) only [↓reduceIte, go_sem, Nat.add_zero, Nat.zero_add, Nat.sub_zero, List.drop_zero, Nat.reduceLT, Nat.reduceEqDiff, Nat.reduceAdd, Nat.reduceMul, Nat.reduceSub, Int.reduceAdd, Int.reduceSub, Nat.reduceLeDiff, Int.reduceLT, Int.reduceLE, Int.reduceEq, Int.reduceNeg, Int.reduceToNat, IntWalk.i64_in, Bool.or_self, Bool.or_false, Bool.or_true, Bool.and_false, Bool.and_true, Bool.false_or, Bool.true_or, Bool.false_eq_true, Bool.true_eq_false, List.append_assoc, List.cons_append, List.nil_append, *]))
      all_goals (try first | rfl | (simp [*]; done) | grind)
  · exact ⟨0, by simp [go_sem, frM, dfM]⟩
def strM (l : List Pc) (p : Pc) : Bool := (decide (0 ≤ toldM l) && (decide (0 < p.data.length) && decide (toldM l < pcEnd p))) || (!p.more && ((decide (0 ≤ toldM l) && decide (toldM l ≠ pcEnd p)) || decide (pcEnd p < behM l)))
set_option maxHeartbeats 1000000 in
theorem fn60 {b : Bool} {l : List Pc} (p : Pc) (hn : ∀ p ∈ l, Near p) (np : Near p) (hlen : l.length ≤ 1000) (H : Hp) : callL Try.prog pr 60 [slV b pcE l, .agg (pcE.f p)] H = some (.bool (strM l p), H) := by
  have h37 := fn37 p np.ok (by have := np.hi; omega)
  have h62 := fn62 (b := b) hn hlen
  have h76 := fn76 (b := b) hn hlen
  refine run60 (Nat.le_of_ble_eq_true rfl) ?_
  unfold strM
  simp (disch := first | rfl | omega | exact byE_w | exact inE_w | exact boE_w | exact stE_w | exact pcE_w | exact lt_new _ | assumption | (simp only [List.length_append, List.length_singleton, List.length_set, List.length_take, List.length_drop, List.length_map]; done) | (simp only [List.length_append, List.length_singleton, List.length_set, List.length_take, List.length_drop, List.length_map]; omega)) only [r60_0, r60_1, r60_2, r60_3, r60_4, c60, rs60, gc60, ↓reduceIte, go_sem, Nat.add_zero, Nat.zero_add, Nat.sub_zero, List.drop_zero, Nat.reduceLT, Nat.reduceEqDiff, Nat.reduceAdd, Nat.reduceMul, Nat.reduceSub, Int.reduceAdd, Int.reduceSub, Nat.reduceLeDiff, Int.reduceLT, Int.reduceLE, Int.reduceEq, Int.reduceNeg, Int.reduceToNat, IntWalk.i64_in, Bool.or_self, Bool.or_false, Bool.or_true, Bool.and_false, Bool.and_true, Bool.false_or, Bool.true_or, Bool.false_eq_true, Bool.true_eq_false, *]
  repeat' ((first | refine guardB_dec (fun hy => ?_) (fun hy => ?_) | refine guardB_bool (fun hy => ?_) (fun hy => ?_) | refine guardQ_ite (fun hy => ?_) (fun hy => ?_) | refine brQ_dec (fun hy => ?_) (fun hy => ?_) | refine brQ_bool (fun hy => ?_) (fun hy => ?_)) <;> (try simp only [Bool.not_eq_true', Bool.not_eq_false', Bool.and_eq_true, Bool.or_eq_false_iff, decide_eq_true_eq, decide_eq_false_iff_not] at hy) <;> simp (disch := first | rfl | omega | exact byE_w | exact inE_w | exact boE_w | exact stE_w | exact pcE_w | exact lt_new _ | assumption | (simp only [List.length_append, List.length_singleton, List.length_set, List.length_take, List.length_drop, List.length_map]; done) | (simp only [List.length_append, List.length_singleton, List.length_set, List.length_take, List.length_drop, List.length_map]; omega)) only [r60_0, r60_1, r60_2, r60_3, r60_4, c60, rs60, gc60, ↓reduceIte, go_sem, Nat.add_zero, Nat.zero_add, Nat.sub_zero, List.drop_zero, Nat.reduceLT, Nat.reduceEqDiff, Nat.reduceAdd, Nat.reduceMul, Nat.reduceSub, Int.reduceAdd, Int.reduceSub, Nat.reduceLeDiff, Int.reduceLT, Int.reduceLE, Int.reduceEq, Int.reduceNeg, Int.reduceToNat, IntWalk.i64_in, Bool.or_self, Bool.or_false, Bool.or_true, Bool.and_false, Bool.and_true, Bool.false_or, Bool.true_or, Bool.false_eq_true, Bool.true_eq_false, *])
  all_goals (try ((first | refine finQ_same ?_ | refine finQ_app ?_ | (rw [List.append_assoc]; refine finQ_app ?_)) <;> simp (disch := first | rfl | omega | exact byE_w | exact inE_w | exact boE_w | exact stE_w | exact pcE_w | exact lt_new _ | assumption | (simp only [List.length_append, List.length_singleton, List.length_set, List.length_take, List.length_drop, List.length_map]; done) | (simp only [List.length_append, List.length_singleton, List.length_set, List.length_take, List.length_drop, List.length_map]; omega)) only [↓reduceIte, go_sem, Nat.add_zero, Nat.zero_add, Nat.sub_zero, List.drop_zero, Nat.reduceLT, Nat.reduceEqDiff, Nat.reduceAdd, Nat.reduceMul, Nat.reduceSub, Int.reduceAdd, Int.reduceSub, Nat.reduceLeDiff, Int.reduceLT, Int.reduceLE, Int.reduceEq, Int.reduceNeg, Int.reduceToNat, IntWalk.i64_in, Bool.or_self, Bool.or_false, Bool.or_true, Bool.and_false, Bool.and_true, Bool.false_or, Bool.true_or, Bool.false_eq_true, Bool.true_eq_false, List.append_assoc, List.cons_append, List.nil_append, *]))
  all_goals (try first | rfl | (simp [*]; done) | grind)
end Go.Proofs.Ytdpdlobaabcjjab
/-
  Bytes cut into pieces, walked. No statement of the seat stands here.
-/
namespace Go.Proofs.Ytdpdlobaabcjjab
open Go Go.An
set_option maxRecDepth 4000
set_option linter.unusedSimpArgs false
set_option linter.unusedVariables false

theorem askI_of {p : Pc} (h1 : isPieceB p = true) (h2 : isFarB p = false) : askedI p = 0 := by
  unfold askedI
  rw [if_pos h1, if_neg (by rw [h2]; simp)]
theorem fn38 {b : Bool} {l : List UInt8} (hl : 0 < l.length) (hs : l.length ≤ 4000) (H : Hp) : callL Try.prog pr 38 [slV b byE l] H = some (slV false byE l, H) := by
  have e : slV b byE l = .isl (flatE byE l) l.length 1 := slV_some hl
  have e2 : slV false byE l = .isl (flatE byE l) l.length 1 := slV_some hl
  have hfl := flatE_len (E := byE) (l := l)
  rw [byE_w] at hfl
  have hap : appOf 1 1 (H ++ [.row 0 [] true]) (.slice H.length 0 0 0 1 .full) (slV b byE l) = some (.slice H.length 1 0 l.length 1 .full, H ++ [.row 1 (flatE byE l) true]) := by
    unfold appOf
    rw [src_slV]
    simp only [Option.bind_some]
    rw [if_pos ⟨by omega, flatE_cells byE l⟩, getRow_lastN rfl]
    simp only [Option.bind_some, List.length_nil]
    rw [if_pos ⟨trivial, by omega, by omega, by omega⟩, if_neg (by omega), if_pos trivial, if_neg (by omega), if_pos trivial]
    simp [set_lastN]
  have hb0 : ((b && decide (l.length = 0)) = false) := by rw [decide_eq_false (by omega), Bool.and_false]
  refine run38 (Nat.le_of_ble_eq_true rfl) ?_
  simp (disch := first | rfl | omega | exact byE_w | exact inE_w | exact boE_w | exact stE_w | exact pcE_w | exact celE_w | exact lt_new _ | assumption | (simp only [List.length_append, List.length_singleton, List.length_set, List.length_take, List.length_drop, List.length_map]; done) | (simp only [List.length_append, List.length_singleton, List.length_set, List.length_take, List.length_drop, List.length_map]; omega)) only [r38_0, r38_1, r38_2, r38_3, c38, rs38, gc38, hap, hb0, ↓reduceIte, go_sem, Nat.add_zero, Nat.zero_add, Nat.sub_zero, List.drop_zero, Nat.reduceLT, Nat.reduceEqDiff, Nat.reduceAdd, Nat.reduceMul, Nat.reduceSub, Int.reduceAdd, Int.reduceSub, Nat.reduceLeDiff, Int.reduceLT, Int.reduceLE, Int.reduceEq, Int.reduceNeg, Int.reduceToNat, IntWalk.i64_in, Bool.or_self, Bool.or_false, Bool.or_true, Bool.and_false, Bool.and_true, Bool.false_or, Bool.true_or, Bool.false_eq_true, Bool.true_eq_false]
  repeat' ((first | refine guardB_dec (fun hy => ?_) (fun hy => ?_) | refine guardB_bool (fun hy => ?_) (fun hy => ?_) | refine guardQ_ite (fun hy => ?_) (fun hy => ?_) | refine brQ_dec (fun hy => ?_) (fun hy => ?_) | refine brQ_bool (fun hy => ?_) (fun hy => ?_)) <;> (try simp only [Bool.not_eq_true', Bool.not_eq_false', Bool.and_eq_true, Bool.or_eq_false_iff, decide_eq_true_eq, decide_eq_false_iff_not] at hy) <;> simp (disch := first | rfl | omega | exact byE_w | exact inE_w | exact boE_w | exact stE_w | exact pcE_w | exact celE_w | exact lt_new _ | assumption | (simp only [List.length_append, List.length_singleton, List.length_set, List.length_take, List.length_drop, List.length_map]; done) | (simp only [List.length_append, List.length_singleton, List.length_set, List.length_take, List.length_drop, List.length_map]; omega)) only [r38_0, r38_1, r38_2, r38_3, c38, rs38, gc38, hap, hb0, ↓reduceIte, go_sem, Nat.add_zero, Nat.zero_add, Nat.sub_zero, List.drop_zero, Nat.reduceLT, Nat.reduceEqDiff, Nat.reduceAdd, Nat.reduceMul, Nat.reduceSub, Int.reduceAdd, Int.reduceSub, Nat.reduceLeDiff, Int.reduceLT, Int.reduceLE, Int.reduceEq, Int.reduceNeg, Int.reduceToNat, IntWalk.i64_in, Bool.or_self, Bool.or_false, Bool.or_true, Bool.and_false, Bool.and_true, Bool.false_or, Bool.true_or, Bool.false_eq_true, Bool.true_eq_false, hy])
  refine finQ_app ?_
  have hi := inlB_row (n := H.length) (f := 6) (id := H.length) (g := 1) (len := l.length) (w := 1) (H' := H ++ [.row 1 (flatE byE l) true]) (cs := flatE byE l) (Nat.le_refl _) (by simp) (by omega) flatE_imm
  have hi2 : inlR H.length (H ++ [.row 1 (flatE byE l) true]) 8 (.slice H.length 1 0 l.length 1 .full) = some (.isl (flatE byE l) l.length 1) := hi
  simp only [↓reduceIte, go_sem, Nat.add_zero, Nat.zero_add, Nat.sub_zero, List.drop_zero, Nat.reduceLT, Nat.reduceEqDiff, Nat.reduceAdd, Nat.reduceMul, Nat.reduceSub, Int.reduceAdd, Int.reduceSub, Nat.reduceLeDiff, Int.reduceLT, Int.reduceLE, Int.reduceEq, Int.reduceNeg, Int.reduceToNat, IntWalk.i64_in, Bool.or_self, Bool.or_false, Bool.or_true, Bool.and_false, Bool.and_true, Bool.false_or, Bool.true_or, Bool.false_eq_true, Bool.true_eq_false, hi2, e2]
/-- Pieces of these bytes. -/
structure Part (B : List UInt8) (p : Pc) : Prop where
  id : p.id = 7
  ok : PcOk p
  ask : askedI p = 0
  byt : ∀ k : Int, hasB p k = true → 0 ≤ k ∧ k < B.length ∧ atV p k = byE.at B k.toNat
  hi : pcEnd p ≤ B.length
  fin : p.more = false → pcEnd p = B.length
/-- All of them together. -/
structure Parts (B : List UInt8) (ps : List Pc) : Prop where
  each : ∀ p ∈ ps, Part B p
  cov : ∀ k : Nat, k < B.length → ∃ p ∈ ps, hasB p k = true
  fin : ∃ p ∈ ps, p.more = false
  num : ps.length ≤ 201
def chunk (B : List UInt8) (i z : Nat) : Pc := ⟨7, i, decide (i + z < B.length), false, (B.drop i).take (min (i + z) B.length - i), 0⟩
theorem chunk_part {B : List UInt8} {i z : Nat} (hi : i < B.length) (hz : 0 < z) (hB : B.length ≤ 4000) : Part B (chunk B i z) ∧ ∀ k : Nat, i ≤ k → k < min (i + z) B.length → hasB (chunk B i z) k = true := by
  have hl : (chunk B i z).data.length = min (i + z) B.length - i := by
    show ((B.drop i).take _).length = _
    rw [List.length_take, List.length_drop]; omega
  have he : pcEnd (chunk B i z) = (min (i + z) B.length : Nat) := by
    unfold pcEnd
    rw [hl]
    show (i : Int) + _ = _
    omega
  have ha : (chunk B i z).at_ = i := rfl
  have hok : PcOk (chunk B i z) := ⟨by omega, ⟨by show (-9223372036854775808 : Int) ≤ 7; omega, by show (7 : Int) ≤ _; omega⟩, ⟨by rw [ha]; omega, by rw [ha]; omega⟩, ⟨by show (-9223372036854775808 : Int) ≤ 0; omega, by show (0 : Int) ≤ _; omega⟩⟩
  refine ⟨⟨rfl, hok, ?_, fun k hk => ?_, by rw [he]; omega, fun hm => ?_⟩, fun k h1 h2 => ?_⟩
  · refine askI_of ?_ ?_
    · unfold isPieceB okTime
      show (decide ((0 : Int) ≤ 7) && decide ((7 : Int) ≤ 4294967295) && decide ((0 : Int) ≤ i) && (decide ((0 : Int) ≤ 0) && decide ((0 : Int) ≤ 1000000000000000))) = true
      simp
    · unfold isFarB
      rw [he, ha, decide_eq_false (by omega), decide_eq_false (by omega)]; rfl
  · have h := hasB_iff.1 hk
    rw [hl, ha] at h
    refine ⟨by omega, by omega, ?_⟩
    unfold atV
    rw [ha]
    show byE.at ((B.drop i).take _) _ = _
    simp only [Enc.at, List.getD]
    rw [List.getElem?_take, if_pos (by omega), List.getElem?_drop]
    congr 2
    omega
  · rw [he]
    have : ¬ i + z < B.length := by simpa [chunk] using hm
    omega
  · rw [hasB_iff, hl, ha]
    omega
end Go.Proofs.Ytdpdlobaabcjjab
/-
  Cut, walked. No statement of the seat stands here.
-/
namespace Go.Proofs.Ytdpdlobaabcjjab
open Go Go.An
set_option maxRecDepth 4000
set_option linter.unusedSimpArgs false
set_option linter.unusedVariables false

theorem pcE_sa' (p : Pc) : setAt [.int .i64 0, .int .i64 0, .bool false, .nilslice, .int .i64 0] 0 (pcE.f p) = pcE.f p := rfl
def zPc : Pc := ⟨7, 0, false, true, [], 0⟩
/-- What holds between two pieces that are cut. -/
def CutI (H : Hp) (b : Bool) (B : List UInt8) (z : Nat) (m : Nat) (T : Fr) (D : Dfr) (H' : Hp) : Prop := ∃ (i : Nat) (ps : List Pc) (ov : V), m = B.length - i ∧ D = [] ∧ OwnE pcE H' ov ps ∧ (∀ j, At ov j → H.length ≤ j) ∧ (∀ j, j < H.length → H'[j]? = H[j]?) ∧ H.length ≤ H'.length ∧ (i = 0 → ps = [zPc]) ∧ (0 < i → ps.length * z = i ∧ i < B.length + z ∧ (∀ p ∈ ps, Part B p) ∧ (∀ k : Nat, k < i → k < B.length → ∃ p ∈ ps, hasB p k = true) ∧ (B.length ≤ i → ∃ p ∈ ps, p.more = false)) ∧ get T 0 = .int .i64 7 ∧ get T 1 = slV b byE B ∧ get T 2 = .int .i64 z ∧ get T 3 = .int .i64 0 ∧ get T 10 = ov ∧ get T 11 = .int .i64 i
set_option maxHeartbeats 4000000 in
theorem cut_step {H H' : Hp} {b : Bool} {B : List UInt8} {z m : Nat} {T : Fr} {D : Dfr} {R : Ex → Fr → Dfr → Hp → Prop} (h : CutI H b B z m T D H') (hm : 0 < m) (hB : B.length ≤ 4000) (hz : 0 < z) (hz2 : z ≤ 4000) :
    Wp Try.prog (callL Try.prog pr) 78 l18_16 T D H' (loopQ (fun T D H' => ∃ m' < m, CutI H b B z m' T D H') R) := by
  obtain ⟨i, ps, ov, rfl, rfl, hov, hat, hfr, hle, hi0, hi1, t0, t1, t2, t3, t10, t11⟩ := h
  have hi : i < B.length := by omega
  have hi' : (i : Int) < B.length := by omega
  obtain ⟨hpart, hcov⟩ := chunk_part (B := B) hi hz hB
  obtain ⟨e, he⟩ : ∃ e, min (i + z) B.length = e := ⟨_, rfl⟩
  have hei : i < e ∧ e ≤ B.length := by omega
  have hmin : (if (B.length : Int) < (i : Int) + z then (B.length : Int) else (i : Int) + z) = (e : Int) := by split <;> omega
  have hcut : sliceV Try.prog 25 H' (slV b byE B) (some (.int .i64 i)) (some (.int .i64 e)) = some (slV (b && decide (B.length = 0)) byE ((B.drop i).take (e - i))) := by
    have := ct25 (H := H') (E := byE) (l := B) (b := b) (k := .i64) (k' := .i64) (lo := i) (hi := e) rfl (by omega)
    simpa using this
  have h38 := fun H => fn38 (b := b && decide (B.length = 0)) (l := (B.drop i).take (e - i)) (by simp; omega) (by simp; omega) H
  have hmo : decide ((e : Int) < B.length) = decide (i + z < B.length) := by
    by_cases h : i + z < B.length
    · rw [decide_eq_true h, decide_eq_true (by omega)]
    · rw [decide_eq_false h, decide_eq_false (by omega)]
  have hfold : ([.int .i64 7, .int .i64 i, .bool (decide (i + z < B.length)), slV false byE ((B.drop i).take (e - i)), .int .i64 0] : List V) = pcE.f (chunk B i z) := by rw [← he]; rfl
  obtain ⟨C, hC⟩ : ∃ C, chunk B i z = C := ⟨_, rfl⟩
  have hCm : C.more = decide (i + z < B.length) := by rw [← hC]; rfl
  have hs4 : setAt (pcE.f C) 4 [.int .i64 0] = pcE.f C := by rw [← hC]; rfl
  rw [hC] at hfold hpart hcov
  have hps8 : ps.length ≤ 8000 := by
    by_cases h0 : i = 0
    · rw [hi0 h0]; simp
    · have := (hi1 (by omega)).1
      have := Nat.le_mul_of_pos_right ps.length hz
      omega
  have hcat : ∀ ov2 : V, (∀ j, At ov2 j → At ov j ∨ (H' ++ [AB.row 0 (pcE.f C) true]).length ≤ j) → ∀ j, At ov2 j → H.length ≤ j := fun ov2 h j hj => by
    rcases h j hj with h | h
    · exact hat j h
    · simp at h; omega
  unfold CutI
  by_cases h0 : i = 0
  · obtain ⟨ov2, H2, e1, o2, f2, l2, a2⟩ := (ownE_nil pcE (H' ++ [.row 0 (pcE.f C) true])).push (w := 5) (by_ := 56) C rfl (by simp) (by simp)
    have hd0 : decide ((i : Int) = 0) = true := decide_eq_true (by omega)
    have hfr2 : ∀ j, j < H.length → H2[j]? = H[j]? := fun j hj => by
      rw [f2 j (by simp; omega) (fun h => by obtain ⟨_, _, _, _, _, e⟩ := h; cases e), List.getElem?_append_left (by omega)]
      exact hfr j hj
    have hat2 : ∀ j, At ov2 j → H.length ≤ j := fun j hj => by
      rcases a2 j hj with h | h
      · obtain ⟨_, _, _, _, _, e⟩ := h; cases e
      · simp at h; omega
    simp at l2
    simp (disch := first | rfl | omega | exact byE_w | exact inE_w | exact boE_w | exact stE_w | exact pcE_w | exact celE_w | exact lt_new _ | assumption | (simp only [List.length_append, List.length_singleton, List.length_set, List.length_take, List.length_drop, List.length_map]; done) | (simp only [List.length_append, List.length_singleton, List.length_set, List.length_take, List.length_drop, List.length_map]; omega)) only [l18_16, r18_9, r18_10, r18_11, r18_12, r18_13, r18_14, r18_15, t0, t1, t2, t3, t10, t11, hi', decide_true, hmin, hcut, h38, hmo, hfold, hs4, e1, hd0, pcE_sa', loadV_ptr, storeV_ptr, getRow_app', getRow_setS, getRow_setO, getRow_lastN, set_lastN, set_app, List.set_set, bl_nil, bl_all, getRow_bl, set_bl, fillV, ↓reduceIte, go_sem, Nat.add_zero, Nat.zero_add, Nat.sub_zero, List.drop_zero, Nat.reduceLT, Nat.reduceEqDiff, Nat.reduceAdd, Nat.reduceMul, Nat.reduceSub, Int.reduceAdd, Int.reduceSub, Nat.reduceLeDiff, Int.reduceLT, Int.reduceLE, Int.reduceEq, Int.reduceNeg, Int.reduceToNat, IntWalk.i64_in, Bool.or_self, Bool.or_false, Bool.or_true, Bool.and_false, Bool.and_true, Bool.false_or, Bool.true_or, Bool.false_eq_true, Bool.true_eq_false]
    repeat' ((first | refine guardB_dec (fun hy => ?_) (fun hy => ?_) | refine guardB_bool (fun hy => ?_) (fun hy => ?_) | refine guardQ_ite (fun hy => ?_) (fun hy => ?_) | refine brQ_dec (fun hy => ?_) (fun hy => ?_) | refine brQ_bool (fun hy => ?_) (fun hy => ?_)) <;> (try simp only [Bool.not_eq_true', Bool.not_eq_false', Bool.and_eq_true, Bool.or_eq_false_iff, decide_eq_true_eq, decide_eq_false_iff_not] at hy) <;> simp (disch := first | rfl | omega | exact byE_w | exact inE_w | exact boE_w | exact stE_w | exact pcE_w | exact celE_w | exact lt_new _ | assumption | (simp only [List.length_append, List.length_singleton, List.length_set, List.length_take, List.length_drop, List.length_map]; done) | (simp only [List.length_append, List.length_singleton, List.length_set, List.length_take, List.length_drop, List.length_map]; omega)) only [l18_16, r18_9, r18_10, r18_11, r18_12, r18_13, r18_14, r18_15, t0, t1, t2, t3, t10, t11, hi', decide_true, hmin, hcut, h38, hmo, hfold, hs4, e1, hd0, pcE_sa', loadV_ptr, storeV_ptr, getRow_app', getRow_setS, getRow_setO, getRow_lastN, set_lastN, set_app, List.set_set, bl_nil, bl_all, getRow_bl, set_bl, fillV, ↓reduceIte, go_sem, Nat.add_zero, Nat.zero_add, Nat.sub_zero, List.drop_zero, Nat.reduceLT, Nat.reduceEqDiff, Nat.reduceAdd, Nat.reduceMul, Nat.reduceSub, Int.reduceAdd, Int.reduceSub, Nat.reduceLeDiff, Int.reduceLT, Int.reduceLE, Int.reduceEq, Int.reduceNeg, Int.reduceToNat, IntWalk.i64_in, Bool.or_self, Bool.or_false, Bool.or_true, Bool.and_false, Bool.and_true, Bool.false_or, Bool.true_or, Bool.false_eq_true, Bool.true_eq_false, hy])
    exact ⟨_, by omega, i + z, [C], ov2, rfl, o2, hat2, hfr2, by omega, fun h => by omega, fun _ => ⟨by simp; omega, by omega, fun p hp => by rw [List.mem_singleton.1 hp]; exact hpart, fun k h1 h2 => ⟨C, by simp, hcov k (by omega) (by omega)⟩, fun h => ⟨C, by simp, by rw [hCm]; exact decide_eq_false (by omega)⟩⟩, rfl, rfl⟩
  · obtain ⟨ov2, H2, e1, o2, f2, l2, a2⟩ := (hov.app [.row 0 (pcE.f C) true]).push (w := 5) (by_ := 56) C rfl (by omega) (by omega)
    have hoc := hov.cell
    have hd0 : decide ((i : Int) = 0) = false := decide_eq_false (by omega)
    have hfr2 : ∀ j, j < H.length → H2[j]? = H[j]? := fun j hj => by
      rw [f2 j (by simp; omega) (fun h => by have := hat j h; omega), List.getElem?_append_left (by omega)]
      exact hfr j hj
    simp at l2
    simp (disch := first | rfl | omega | exact byE_w | exact inE_w | exact boE_w | exact stE_w | exact pcE_w | exact celE_w | exact lt_new _ | assumption | (simp only [List.length_append, List.length_singleton, List.length_set, List.length_take, List.length_drop, List.length_map]; done) | (simp only [List.length_append, List.length_singleton, List.length_set, List.length_take, List.length_drop, List.length_map]; omega)) only [l18_16, r18_9, r18_10, r18_11, r18_12, r18_13, r18_14, r18_15, t0, t1, t2, t3, t10, t11, hi', decide_true, hmin, hcut, h38, hmo, hfold, hs4, e1, hd0, hoc, pcE_sa', loadV_ptr, storeV_ptr, getRow_app', getRow_setS, getRow_setO, getRow_lastN, set_lastN, set_app, List.set_set, bl_nil, bl_all, getRow_bl, set_bl, fillV, ↓reduceIte, go_sem, Nat.add_zero, Nat.zero_add, Nat.sub_zero, List.drop_zero, Nat.reduceLT, Nat.reduceEqDiff, Nat.reduceAdd, Nat.reduceMul, Nat.reduceSub, Int.reduceAdd, Int.reduceSub, Nat.reduceLeDiff, Int.reduceLT, Int.reduceLE, Int.reduceEq, Int.reduceNeg, Int.reduceToNat, IntWalk.i64_in, Bool.or_self, Bool.or_false, Bool.or_true, Bool.and_false, Bool.and_true, Bool.false_or, Bool.true_or, Bool.false_eq_true, Bool.true_eq_false]
    repeat' ((first | refine guardB_dec (fun hy => ?_) (fun hy => ?_) | refine guardB_bool (fun hy => ?_) (fun hy => ?_) | refine guardQ_ite (fun hy => ?_) (fun hy => ?_) | refine brQ_dec (fun hy => ?_) (fun hy => ?_) | refine brQ_bool (fun hy => ?_) (fun hy => ?_)) <;> (try simp only [Bool.not_eq_true', Bool.not_eq_false', Bool.and_eq_true, Bool.or_eq_false_iff, decide_eq_true_eq, decide_eq_false_iff_not] at hy) <;> simp (disch := first | rfl | omega | exact byE_w | exact inE_w | exact boE_w | exact stE_w | exact pcE_w | exact celE_w | exact lt_new _ | assumption | (simp only [List.length_append, List.length_singleton, List.length_set, List.length_take, List.length_drop, List.length_map]; done) | (simp only [List.length_append, List.length_singleton, List.length_set, List.length_take, List.length_drop, List.length_map]; omega)) only [l18_16, r18_9, r18_10, r18_11, r18_12, r18_13, r18_14, r18_15, t0, t1, t2, t3, t10, t11, hi', decide_true, hmin, hcut, h38, hmo, hfold, hs4, e1, hd0, hoc, pcE_sa', loadV_ptr, storeV_ptr, getRow_app', getRow_setS, getRow_setO, getRow_lastN, set_lastN, set_app, List.set_set, bl_nil, bl_all, getRow_bl, set_bl, fillV, ↓reduceIte, go_sem, Nat.add_zero, Nat.zero_add, Nat.sub_zero, List.drop_zero, Nat.reduceLT, Nat.reduceEqDiff, Nat.reduceAdd, Nat.reduceMul, Nat.reduceSub, Int.reduceAdd, Int.reduceSub, Nat.reduceLeDiff, Int.reduceLT, Int.reduceLE, Int.reduceEq, Int.reduceNeg, Int.reduceToNat, IntWalk.i64_in, Bool.or_self, Bool.or_false, Bool.or_true, Bool.and_false, Bool.and_true, Bool.false_or, Bool.true_or, Bool.false_eq_true, Bool.true_eq_false, hy])
    obtain ⟨n1, n2, n3, n4, n5⟩ := hi1 (by omega)
    refine ⟨_, by omega, i + z, ps ++ [C], ov2, rfl, o2, hcat ov2 a2, hfr2, by omega, fun h => by omega, fun _ => ⟨by rw [List.length_append, Nat.add_mul, n1]; simp, by omega, fun p hp => ?_, fun k h1 h2 => ?_, fun h => ⟨C, by simp, by rw [hCm]; exact decide_eq_false (by omega)⟩⟩, rfl, rfl⟩
    · rcases List.mem_append.1 hp with hp | hp
      · exact n3 p hp
      · rw [List.mem_singleton.1 hp]; exact hpart
    · by_cases hk : k < i
      · obtain ⟨p, hp, hh⟩ := n4 k hk h2
        exact ⟨p, List.mem_append.2 (.inl hp), hh⟩
      · exact ⟨C, by simp, hcov k (by omega) (by omega)⟩
theorem zPc_part : Part [] zPc := by
  refine ⟨rfl, ⟨by simp [zPc], by unfold Inx zPc; simp, by unfold Inx zPc; simp, by unfold Inx zPc; simp⟩, by unfold askedI isPieceB isFarB okTime pcEnd zPc; simp, fun k hk => ?_, by simp [pcEnd, zPc], fun _ => by simp [pcEnd, zPc]⟩
  have := hasB_iff.1 hk
  simp [zPc] at this
  omega
set_option maxHeartbeats 2000000 in
theorem fn18 {b : Bool} {B : List UInt8} (zI : Int) (hB0 : B.length ≤ 140737488355328) (hzI : Inx zI) (H : Hp) : ∃ (e : Int) (ps : List Pc), callL Try.prog pr 18 [.int .i64 7, slV b byE B, .int .i64 zI, .int .i64 0] H = some (.tup [slV true pcE ps, .int .i64 e], H) ∧ (e = 0 → Parts B ps) := by
  suffices h : ∃ r, callL Try.prog pr 18 [.int .i64 7, slV b byE B, .int .i64 zI, .int .i64 0] H = some r ∧ ∃ (e : Int) (ps : List Pc), r = (.tup [slV true pcE ps, .int .i64 e], H) ∧ (e = 0 → Parts B ps) by
    obtain ⟨r, h1, e, ps, rfl, h2⟩ := h
    exact ⟨e, ps, h1, h2⟩
  have h34 := fun H => fn34 zPc H
  simp only [pcE_f, zPc, slV_nil] at h34
  have hip : isPieceB ⟨7, 0, false, true, [], 0⟩ = true := by simp [isPieceB, okTime]
  rw [hip] at h34
  unfold Inx at hzI
  refine ex18 (Nat.le_of_ble_eq_true rfl) ?_
  by_cases hz : zI < 1 ∨ 4000 < zI
  · by_cases hz1 : zI < 1
    · simp (disch := first | rfl | omega | exact byE_w | exact inE_w | exact boE_w | exact stE_w | exact pcE_w | exact celE_w | exact lt_new _ | assumption | (simp only [List.length_append, List.length_singleton, List.length_set, List.length_take, List.length_drop, List.length_map]; done) | (simp only [List.length_append, List.length_singleton, List.length_set, List.length_take, List.length_drop, List.length_map]; omega)) only [r18_0, r18_1, r18_2, r18_3, r18_4, r18_5, r18_6, r18_7, r18_8, r18_9, r18_10, r18_11, r18_12, r18_13, r18_14, r18_15, r18_17, c18, rs18, gc18, ↓reduceIte, go_sem, Nat.add_zero, Nat.zero_add, Nat.sub_zero, List.drop_zero, Nat.reduceLT, Nat.reduceEqDiff, Nat.reduceAdd, Nat.reduceMul, Nat.reduceSub, Int.reduceAdd, Int.reduceSub, Nat.reduceLeDiff, Int.reduceLT, Int.reduceLE, Int.reduceEq, Int.reduceNeg, Int.reduceToNat, IntWalk.i64_in, Bool.or_self, Bool.or_false, Bool.or_true, Bool.and_false, Bool.and_true, Bool.false_or, Bool.true_or, Bool.false_eq_true, Bool.true_eq_false, hz1, decide_true]
      exact ⟨1, [], by rw [slV_nil]; exact finQ_same (by simp only [↓reduceIte, go_sem, Nat.add_zero, Nat.zero_add, Nat.sub_zero, List.drop_zero, Nat.reduceLT, Nat.reduceEqDiff, Nat.reduceAdd, Nat.reduceMul, Nat.reduceSub, Int.reduceAdd, Int.reduceSub, Nat.reduceLeDiff, Int.reduceLT, Int.reduceLE, Int.reduceEq, Int.reduceNeg, Int.reduceToNat, IntWalk.i64_in, Bool.or_self, Bool.or_false, Bool.or_true, Bool.and_false, Bool.and_true, Bool.false_or, Bool.true_or, Bool.false_eq_true, Bool.true_eq_false]), by simp⟩
    · have hz2 : 4000 < zI := by omega
      simp (disch := first | rfl | omega | exact byE_w | exact inE_w | exact boE_w | exact stE_w | exact pcE_w | exact celE_w | exact lt_new _ | assumption | (simp only [List.length_append, List.length_singleton, List.length_set, List.length_take, List.length_drop, List.length_map]; done) | (simp only [List.length_append, List.length_singleton, List.length_set, List.length_take, List.length_drop, List.length_map]; omega)) only [r18_0, r18_1, r18_2, r18_3, r18_4, r18_5, r18_6, r18_7, r18_8, r18_9, r18_10, r18_11, r18_12, r18_13, r18_14, r18_15, r18_17, c18, rs18, gc18, ↓reduceIte, go_sem, Nat.add_zero, Nat.zero_add, Nat.sub_zero, List.drop_zero, Nat.reduceLT, Nat.reduceEqDiff, Nat.reduceAdd, Nat.reduceMul, Nat.reduceSub, Int.reduceAdd, Int.reduceSub, Nat.reduceLeDiff, Int.reduceLT, Int.reduceLE, Int.reduceEq, Int.reduceNeg, Int.reduceToNat, IntWalk.i64_in, Bool.or_self, Bool.or_false, Bool.or_true, Bool.and_false, Bool.and_true, Bool.false_or, Bool.true_or, Bool.false_eq_true, Bool.true_eq_false, hz1, hz2, decide_true, decide_false]
      exact ⟨1, [], by rw [slV_nil]; exact finQ_same (by simp only [↓reduceIte, go_sem, Nat.add_zero, Nat.zero_add, Nat.sub_zero, List.drop_zero, Nat.reduceLT, Nat.reduceEqDiff, Nat.reduceAdd, Nat.reduceMul, Nat.reduceSub, Int.reduceAdd, Int.reduceSub, Nat.reduceLeDiff, Int.reduceLT, Int.reduceLE, Int.reduceEq, Int.reduceNeg, Int.reduceToNat, IntWalk.i64_in, Bool.or_self, Bool.or_false, Bool.or_true, Bool.and_false, Bool.and_true, Bool.false_or, Bool.true_or, Bool.false_eq_true, Bool.true_eq_false]), by simp⟩
  · obtain ⟨z, rfl⟩ : ∃ z : Nat, zI = z := ⟨zI.toNat, by omega⟩
    have hz1 : ¬ (z : Int) < 1 := by omega
    have hz2 : ¬ (4000 : Int) < z := by omega
    have hz0 : ¬ (z : Int) = 0 := by omega
    by_cases hB : B.length ≤ 4000
    · have hB' : ¬ (4000 : Int) < B.length := by omega
      obtain ⟨q, hq⟩ : ∃ q, ((B.length : Int) + z - 1).tdiv z = q := ⟨_, rfl⟩
      have hqn : q = ((B.length + z - 1) / z : Nat) := by
        rw [← hq, show (B.length : Int) + z - 1 = ((B.length + z - 1 : Nat) : Int) by omega]
        rfl
      have hqb : 0 ≤ q ∧ q ≤ 8000 := by
        have := Nat.div_le_self (B.length + z - 1) z
        rw [hqn]
        generalize (B.length + z - 1) / z = d at this ⊢
        omega
      by_cases hq2 : 200 < q
      · simp (disch := first | rfl | omega | exact byE_w | exact inE_w | exact boE_w | exact stE_w | exact pcE_w | exact celE_w | exact lt_new _ | assumption | (simp only [List.length_append, List.length_singleton, List.length_set, List.length_take, List.length_drop, List.length_map]; done) | (simp only [List.length_append, List.length_singleton, List.length_set, List.length_take, List.length_drop, List.length_map]; omega)) only [r18_0, r18_1, r18_2, r18_3, r18_4, r18_5, r18_6, r18_7, r18_8, r18_9, r18_10, r18_11, r18_12, r18_13, r18_14, r18_15, r18_17, c18, rs18, gc18, ↓reduceIte, go_sem, Nat.add_zero, Nat.zero_add, Nat.sub_zero, List.drop_zero, Nat.reduceLT, Nat.reduceEqDiff, Nat.reduceAdd, Nat.reduceMul, Nat.reduceSub, Int.reduceAdd, Int.reduceSub, Nat.reduceLeDiff, Int.reduceLT, Int.reduceLE, Int.reduceEq, Int.reduceNeg, Int.reduceToNat, IntWalk.i64_in, Bool.or_self, Bool.or_false, Bool.or_true, Bool.and_false, Bool.and_true, Bool.false_or, Bool.true_or, Bool.false_eq_true, Bool.true_eq_false, hz1, hz2, hB', hz0, hq, hq2, decide_true, decide_false]
        exact ⟨3, [], by rw [slV_nil]; exact finQ_same (by simp only [↓reduceIte, go_sem, Nat.add_zero, Nat.zero_add, Nat.sub_zero, List.drop_zero, Nat.reduceLT, Nat.reduceEqDiff, Nat.reduceAdd, Nat.reduceMul, Nat.reduceSub, Int.reduceAdd, Int.reduceSub, Nat.reduceLeDiff, Int.reduceLT, Int.reduceLE, Int.reduceEq, Int.reduceNeg, Int.reduceToNat, IntWalk.i64_in, Bool.or_self, Bool.or_false, Bool.or_true, Bool.and_false, Bool.and_true, Bool.false_or, Bool.true_or, Bool.false_eq_true, Bool.true_eq_false]), by simp⟩
      · simp (disch := first | rfl | omega | exact byE_w | exact inE_w | exact boE_w | exact stE_w | exact pcE_w | exact celE_w | exact lt_new _ | assumption | (simp only [List.length_append, List.length_singleton, List.length_set, List.length_take, List.length_drop, List.length_map]; done) | (simp only [List.length_append, List.length_singleton, List.length_set, List.length_take, List.length_drop, List.length_map]; omega)) only [r18_0, r18_1, r18_2, r18_3, r18_4, r18_5, r18_6, r18_7, r18_8, r18_9, r18_10, r18_11, r18_12, r18_13, r18_14, r18_15, r18_17, c18, rs18, gc18, ↓reduceIte, go_sem, Nat.add_zero, Nat.zero_add, Nat.sub_zero, List.drop_zero, Nat.reduceLT, Nat.reduceEqDiff, Nat.reduceAdd, Nat.reduceMul, Nat.reduceSub, Int.reduceAdd, Int.reduceSub, Nat.reduceLeDiff, Int.reduceLT, Int.reduceLE, Int.reduceEq, Int.reduceNeg, Int.reduceToNat, IntWalk.i64_in, Bool.or_self, Bool.or_false, Bool.or_true, Bool.and_false, Bool.and_true, Bool.false_or, Bool.true_or, Bool.false_eq_true, Bool.true_eq_false, hz1, hz2, hB', hz0, hq, hq2, decide_true, decide_false, h34, fillV, loadV_ptr, storeV_ptr, getRow_app', getRow_setS, getRow_setO, getRow_lastN, set_lastN, set_app, List.set_set, bl_nil, bl_all, getRow_bl, set_bl]
        have hlen : B.length ≤ 200 * z := by
          have h1 : (B.length + z - 1) / z < 201 := by
            generalize (B.length + z - 1) / z = d at hqn ⊢
            omega
          have h2 := (Nat.div_lt_iff_lt_mul (by omega)).1 h1
          omega
        have hz0' : 0 < z := by omega
        refine Wp_loop (CutI H b B z) ?_ B.length _ _ _ ?_
        · intro m T D H' hI
          by_cases hm : 0 < m
          · exact cut_step hI hm hB hz0' (by omega)
          · obtain ⟨i, ps, ov, rfl, rfl, hov, hat, hfr, hle, hi0, hi1, t0, t1, t2, t3, t10, t11⟩ := hI
            have hil : ¬ (i : Int) < B.length := by omega
            have hoc := hov.cell
            have hi2 : inlA H.length H' 8 ov = some (slV true pcE ps) := by
              have hi := hov.inl (f := 6) hat
              rcases hov with ⟨rfl, _⟩ | ⟨id, g, rfl, _⟩ <;> exact hi
            simp (disch := first | rfl | omega | exact byE_w | exact inE_w | exact boE_w | exact stE_w | exact pcE_w | exact celE_w | exact lt_new _ | assumption | (simp only [List.length_append, List.length_singleton, List.length_set, List.length_take, List.length_drop, List.length_map]; done) | (simp only [List.length_append, List.length_singleton, List.length_set, List.length_take, List.length_drop, List.length_map]; omega)) only [l18_16, r18_9, r18_17, rs18, gc18, ↓reduceIte, go_sem, Nat.add_zero, Nat.zero_add, Nat.sub_zero, List.drop_zero, Nat.reduceLT, Nat.reduceEqDiff, Nat.reduceAdd, Nat.reduceMul, Nat.reduceSub, Int.reduceAdd, Int.reduceSub, Nat.reduceLeDiff, Int.reduceLT, Int.reduceLE, Int.reduceEq, Int.reduceNeg, Int.reduceToNat, IntWalk.i64_in, Bool.or_self, Bool.or_false, Bool.or_true, Bool.and_false, Bool.and_true, Bool.false_or, Bool.true_or, Bool.false_eq_true, Bool.true_eq_false, t0, t1, t2, t3, t10, t11, hil, decide_false, hoc]
            refine ⟨0, ps, gcF_of hfr (by simp only [↓reduceIte, go_sem, Nat.add_zero, Nat.zero_add, Nat.sub_zero, List.drop_zero, Nat.reduceLT, Nat.reduceEqDiff, Nat.reduceAdd, Nat.reduceMul, Nat.reduceSub, Int.reduceAdd, Int.reduceSub, Nat.reduceLeDiff, Int.reduceLT, Int.reduceLE, Int.reduceEq, Int.reduceNeg, Int.reduceToNat, IntWalk.i64_in, Bool.or_self, Bool.or_false, Bool.or_true, Bool.and_false, Bool.and_true, Bool.false_or, Bool.true_or, Bool.false_eq_true, Bool.true_eq_false, hi2]), fun _ => ?_⟩
            by_cases h0 : i = 0
            · have hBn : B = [] := List.eq_nil_of_length_eq_zero (by omega)
              subst hBn
              rw [hi0 h0]
              exact ⟨fun p hp => by rw [List.mem_singleton.1 hp]; exact zPc_part, fun k hk => by simp at hk, ⟨zPc, by simp, rfl⟩, by simp⟩
            · obtain ⟨n1, n2, n3, n4, n5⟩ := hi1 (by omega)
              refine ⟨n3, fun k hk => n4 k (by omega) hk, n5 (by omega), ?_⟩
              have h3 : ps.length * z < 201 * z := by omega
              have := Nat.lt_of_mul_lt_mul_right h3
              omega
        · refine ⟨0, [zPc], .slice H.length 0 0 1 5 .full, by omega, rfl, .inr ⟨H.length, 0, rfl, by simp, by simp [flatE, pcE_f, zPc, slV_nil]⟩, fun j hj => ?_, fun j hj => List.getElem?_append_left hj, by simp, fun _ => rfl, fun h => by omega, ?_⟩
          · obtain ⟨_, _, _, _, _, e⟩ := hj
            injection e with e1
            omega
          · simp (disch := first | rfl | omega | exact byE_w | exact inE_w | exact boE_w | exact stE_w | exact pcE_w | exact celE_w | exact lt_new _ | assumption | (simp only [List.length_append, List.length_singleton, List.length_set, List.length_take, List.length_drop, List.length_map]; done) | (simp only [List.length_append, List.length_singleton, List.length_set, List.length_take, List.length_drop, List.length_map]; omega)) only [↓reduceIte, go_sem, Nat.add_zero, Nat.zero_add, Nat.sub_zero, List.drop_zero, Nat.reduceLT, Nat.reduceEqDiff, Nat.reduceAdd, Nat.reduceMul, Nat.reduceSub, Int.reduceAdd, Int.reduceSub, Nat.reduceLeDiff, Int.reduceLT, Int.reduceLE, Int.reduceEq, Int.reduceNeg, Int.reduceToNat, IntWalk.i64_in, Bool.or_self, Bool.or_false, Bool.or_true, Bool.and_false, Bool.and_true, Bool.false_or, Bool.true_or, Bool.false_eq_true, Bool.true_eq_false]
    · have hB' : (4000 : Int) < B.length := by omega
      simp (disch := first | rfl | omega | exact byE_w | exact inE_w | exact boE_w | exact stE_w | exact pcE_w | exact celE_w | exact lt_new _ | assumption | (simp only [List.length_append, List.length_singleton, List.length_set, List.length_take, List.length_drop, List.length_map]; done) | (simp only [List.length_append, List.length_singleton, List.length_set, List.length_take, List.length_drop, List.length_map]; omega)) only [r18_0, r18_1, r18_2, r18_3, r18_4, r18_5, r18_6, r18_7, r18_8, r18_9, r18_10, r18_11, r18_12, r18_13, r18_14, r18_15, r18_17, c18, rs18, gc18, ↓reduceIte, go_sem, Nat.add_zero, Nat.zero_add, Nat.sub_zero, List.drop_zero, Nat.reduceLT, Nat.reduceEqDiff, Nat.reduceAdd, Nat.reduceMul, Nat.reduceSub, Int.reduceAdd, Int.reduceSub, Nat.reduceLeDiff, Int.reduceLT, Int.reduceLE, Int.reduceEq, Int.reduceNeg, Int.reduceToNat, IntWalk.i64_in, Bool.or_self, Bool.or_false, Bool.or_true, Bool.and_false, Bool.and_true, Bool.false_or, Bool.true_or, Bool.false_eq_true, Bool.true_eq_false, hz1, hz2, hB', decide_true, decide_false]
      exact ⟨3, [], by rw [slV_nil]; exact finQ_same (by simp only [↓reduceIte, go_sem, Nat.add_zero, Nat.zero_add, Nat.sub_zero, List.drop_zero, Nat.reduceLT, Nat.reduceEqDiff, Nat.reduceAdd, Nat.reduceMul, Nat.reduceSub, Int.reduceAdd, Int.reduceSub, Nat.reduceLeDiff, Int.reduceLT, Int.reduceLE, Int.reduceEq, Int.reduceNeg, Int.reduceToNat, IntWalk.i64_in, Bool.or_self, Bool.or_false, Bool.or_true, Bool.and_false, Bool.and_true, Bool.false_or, Bool.true_or, Bool.false_eq_true, Bool.true_eq_false]), by simp⟩
end Go.Proofs.Ytdpdlobaabcjjab
/-
  A whole of the table: its cells; whether a piece fits, whether it is complete, its bytes; walked. No statement of the seat stands here.
-/
namespace Go.Proofs.Ytdpdlobaabcjjab
open Go Go.An
set_option maxRecDepth 4000
set_option linter.unusedSimpArgs false
set_option linter.unusedVariables false

/-- A cell of a whole. -/
structure Cl where
  is : Bool
  b : UInt8
  beg : Int
def celE : Enc Cl := ⟨fun c => [.bool c.is, .int .u8 c.b.toNat, .int .i64 c.beg], 3, ⟨false, 0, 0⟩, fun _ => rfl, by decide, fun _ => rfl⟩
theorem celE_f (c : Cl) : celE.f c = [.bool c.is, .int .u8 c.b.toNat, .int .i64 c.beg] := rfl
@[go_sem] theorem celE_w : celE.w = 3 := rfl
@[go_sem] theorem celE_l (c : Cl) : (celE.f c).length = 3 := rfl
@[go_sem] theorem celE_0 (c : Cl) : (celE.f c)[0]? = some (.bool c.is) := rfl
@[go_sem] theorem celE_1 (c : Cl) : (celE.f c)[1]? = some (.int .u8 c.b.toNat) := rfl
@[go_sem] theorem celE_2 (c : Cl) : (celE.f c)[2]? = some (.int .i64 c.beg) := rfl
@[go_sem] theorem celE_t (c : Cl) : (celE.f c).take 3 = celE.f c := rfl
theorem celE_s (c : Cl) : setAt [.bool false, .int .u8 0, .int .i64 0] 0 (celE.f c) = celE.f c := rfl
/-- A whole in memory. -/
structure Wm (H : Hp) (w : Nat) (cv : V) (cs : List Cl) (tot beg : Int) : Prop where
  row : H[w]? = some (.row 0 [cv, .int .i64 tot, .int .i64 beg] true)
  own : OwnE celE H cv cs
  sep : ¬ At cv w
theorem Wm.lt {H : Hp} {w : Nat} {cv : V} {cs : List Cl} {tot beg : Int} (h : Wm H w cv cs tot beg) : w < H.length := (List.getElem?_eq_some_iff.1 h.row).1
theorem Wm.frame {H H' : Hp} {w : Nat} {cv : V} {cs : List Cl} {tot beg : Int} (h : Wm H w cv cs tot beg) (h1 : H'[w]? = H[w]?) (h2 : ∀ i, At cv i → H'[i]? = H[i]?) : Wm H' w cv cs tot beg := ⟨by rw [h1]; exact h.row, h.own.frame h2, h.sep⟩
theorem Wm.app {H L : Hp} {w : Nat} {cv : V} {cs : List Cl} {tot beg : Int} (h : Wm H w cv cs tot beg) : Wm (H ++ L) w cv cs tot beg := h.frame (List.getElem?_append_left h.lt) fun i hi => List.getElem?_append_left (h.own.lt hi)
def fitsB (n : Nat) (tot : Int) (p : Pc) : Bool := !(decide (0 ≤ tot) && ((decide (tot < pcEnd p) && decide (0 < p.data.length)) || (!p.more && decide (pcEnd p ≠ tot)))) && (p.more || decide ((n : Int) ≤ pcEnd p))
theorem fn44 {H : Hp} {w : Nat} {cv : V} {cs : List Cl} {tot beg : Int} {p : Pc} (hw : Wm H w cv cs tot beg) (np : Near p) (hn : cs.length ≤ 5000) : callL Try.prog pr 44 [.ptr w 0 0, .agg (pcE.f p)] H = some (.bool (fitsB cs.length tot p), H) := by
  have hlo := np.lo
  have hhi := np.hi
  have hr := getRow_of hw.row
  have hr2 := fun L => (getRow_app' (L := L) (g := 0) hw.lt).trans hr
  have hln := fun H' => hw.own.len (P := Try.prog) s84 H'
  have hce := hw.own.cell
  refine run44 (Nat.le_of_ble_eq_true rfl) ?_
  unfold fitsB pcEnd
  simp (disch := first | rfl | omega | exact byE_w | exact inE_w | exact boE_w | exact stE_w | exact pcE_w | exact celE_w | exact lt_new _ | assumption | (simp only [List.length_append, List.length_singleton, List.length_set, List.length_take, List.length_drop, List.length_map]; done) | (simp only [List.length_append, List.length_singleton, List.length_set, List.length_take, List.length_drop, List.length_map]; omega)) only [r44_0, r44_1, r44_2, r44_3, r44_4, c44, rs44, gc44, loadV_ptr, storeV_ptr, getRow_app', getRow_setS, getRow_setO, getRow_lastN, set_lastN, set_app, List.set_set, bl_nil, bl_all, getRow_bl, set_bl, ↓reduceIte, go_sem, Nat.add_zero, Nat.zero_add, Nat.sub_zero, List.drop_zero, Nat.reduceLT, Nat.reduceEqDiff, Nat.reduceAdd, Nat.reduceMul, Nat.reduceSub, Int.reduceAdd, Int.reduceSub, Nat.reduceLeDiff, Int.reduceLT, Int.reduceLE, Int.reduceEq, Int.reduceNeg, Int.reduceToNat, IntWalk.i64_in, Bool.or_self, Bool.or_false, Bool.or_true, Bool.and_false, Bool.and_true, Bool.false_or, Bool.true_or, Bool.false_eq_true, Bool.true_eq_false, *]
  repeat' ((first | refine guardB_dec (fun hy => ?_) (fun hy => ?_) | refine guardB_bool (fun hy => ?_) (fun hy => ?_) | refine guardQ_ite (fun hy => ?_) (fun hy => ?_) | refine brQ_dec (fun hy => ?_) (fun hy => ?_) | refine brQ_bool (fun hy => ?_) (fun hy => ?_)) <;> (try simp only [Bool.not_eq_true', Bool.not_eq_false', Bool.and_eq_true, Bool.or_eq_false_iff, decide_eq_true_eq, decide_eq_false_iff_not] at hy) <;> simp (disch := first | rfl | omega | exact byE_w | exact inE_w | exact boE_w | exact stE_w | exact pcE_w | exact celE_w | exact lt_new _ | assumption | (simp only [List.length_append, List.length_singleton, List.length_set, List.length_take, List.length_drop, List.length_map]; done) | (simp only [List.length_append, List.length_singleton, List.length_set, List.length_take, List.length_drop, List.length_map]; omega)) only [r44_0, r44_1, r44_2, r44_3, r44_4, c44, rs44, gc44, loadV_ptr, storeV_ptr, getRow_app', getRow_setS, getRow_setO, getRow_lastN, set_lastN, set_app, List.set_set, bl_nil, bl_all, getRow_bl, set_bl, ↓reduceIte, go_sem, Nat.add_zero, Nat.zero_add, Nat.sub_zero, List.drop_zero, Nat.reduceLT, Nat.reduceEqDiff, Nat.reduceAdd, Nat.reduceMul, Nat.reduceSub, Int.reduceAdd, Int.reduceSub, Nat.reduceLeDiff, Int.reduceLT, Int.reduceLE, Int.reduceEq, Int.reduceNeg, Int.reduceToNat, IntWalk.i64_in, Bool.or_self, Bool.or_false, Bool.or_true, Bool.and_false, Bool.and_true, Bool.false_or, Bool.true_or, Bool.false_eq_true, Bool.true_eq_false, *])
  all_goals (try ((first | refine finQ_same ?_ | refine finQ_app ?_ | (rw [List.append_assoc]; refine finQ_app ?_)) <;> simp (disch := first | rfl | omega | exact byE_w | exact inE_w | exact boE_w | exact stE_w | exact pcE_w | exact celE_w | exact lt_new _ | assumption | (simp only [List.length_append, List.length_singleton, List.length_set, List.length_take, List.length_drop, List.length_map]; done) | (simp only [List.length_append, List.length_singleton, List.length_set, List.length_take, List.length_drop, List.length_map]; omega)) only [↓reduceIte, go_sem, Nat.add_zero, Nat.zero_add, Nat.sub_zero, List.drop_zero, Nat.reduceLT, Nat.reduceEqDiff, Nat.reduceAdd, Nat.reduceMul, Nat.reduceSub, Int.reduceAdd, Int.reduceSub, Nat.reduceLeDiff, Int.reduceLT, Int.reduceLE, Int.reduceEq, Int.reduceNeg, Int.reduceToNat, IntWalk.i64_in, Bool.or_self, Bool.or_false, Bool.or_true, Bool.and_false, Bool.and_true, Bool.false_or, Bool.true_or, Bool.false_eq_true, Bool.true_eq_false, List.append_assoc, List.cons_append, List.nil_append, *]))
  all_goals (try first | rfl | (simp [*]; done) | grind)
theorem fn71 (c : Cl) (H : Hp) : callL Try.prog pr 71 [.agg (celE.f c)] H = some (.bool (!c.is), H) := by
  refine run71 (Nat.le_of_ble_eq_true rfl) ?_
  simp (disch := first | rfl | omega | exact byE_w | exact inE_w | exact boE_w | exact stE_w | exact pcE_w | exact celE_w | exact lt_new _ | assumption | (simp only [List.length_append, List.length_singleton, List.length_set, List.length_take, List.length_drop, List.length_map]; done) | (simp only [List.length_append, List.length_singleton, List.length_set, List.length_take, List.length_drop, List.length_map]; omega)) only [r71_0, r71_1, c71, rs71, gc71, ↓reduceIte, go_sem, Nat.add_zero, Nat.zero_add, Nat.sub_zero, List.drop_zero, Nat.reduceLT, Nat.reduceEqDiff, Nat.reduceAdd, Nat.reduceMul, Nat.reduceSub, Int.reduceAdd, Int.reduceSub, Nat.reduceLeDiff, Int.reduceLT, Int.reduceLE, Int.reduceEq, Int.reduceNeg, Int.reduceToNat, IntWalk.i64_in, Bool.or_self, Bool.or_false, Bool.or_true, Bool.and_false, Bool.and_true, Bool.false_or, Bool.true_or, Bool.false_eq_true, Bool.true_eq_false, *]
  repeat' ((first | refine guardB_dec (fun hy => ?_) (fun hy => ?_) | refine guardB_bool (fun hy => ?_) (fun hy => ?_) | refine guardQ_ite (fun hy => ?_) (fun hy => ?_) | refine brQ_dec (fun hy => ?_) (fun hy => ?_) | refine brQ_bool (fun hy => ?_) (fun hy => ?_)) <;> (try simp only [Bool.not_eq_true', Bool.not_eq_false', Bool.and_eq_true, Bool.or_eq_false_iff, decide_eq_true_eq, decide_eq_false_iff_not] at hy) <;> simp (disch := first | rfl | omega | exact byE_w | exact inE_w | exact boE_w | exact stE_w | exact pcE_w | exact celE_w | exact lt_new _ | assumption | (simp only [List.length_append, List.length_singleton, List.length_set, List.length_take, List.length_drop, List.length_map]; done) | (simp only [List.length_append, List.length_singleton, List.length_set, List.length_take, List.length_drop, List.length_map]; omega)) only [r71_0, r71_1, c71, rs71, gc71, ↓reduceIte, go_sem, Nat.add_zero, Nat.zero_add, Nat.sub_zero, List.drop_zero, Nat.reduceLT, Nat.reduceEqDiff, Nat.reduceAdd, Nat.reduceMul, Nat.reduceSub, Int.reduceAdd, Int.reduceSub, Nat.reduceLeDiff, Int.reduceLT, Int.reduceLE, Int.reduceEq, Int.reduceNeg, Int.reduceToNat, IntWalk.i64_in, Bool.or_self, Bool.or_false, Bool.or_true, Bool.and_false, Bool.and_true, Bool.false_or, Bool.true_or, Bool.false_eq_true, Bool.true_eq_false, *])
  all_goals (try ((first | refine finQ_same ?_ | refine finQ_app ?_ | (rw [List.append_assoc]; refine finQ_app ?_)) <;> simp (disch := first | rfl | omega | exact byE_w | exact inE_w | exact boE_w | exact stE_w | exact pcE_w | exact celE_w | exact lt_new _ | assumption | (simp only [List.length_append, List.length_singleton, List.length_set, List.length_take, List.length_drop, List.length_map]; done) | (simp only [List.length_append, List.length_singleton, List.length_set, List.length_take, List.length_drop, List.length_map]; omega)) only [↓reduceIte, go_sem, Nat.add_zero, Nat.zero_add, Nat.sub_zero, List.drop_zero, Nat.reduceLT, Nat.reduceEqDiff, Nat.reduceAdd, Nat.reduceMul, Nat.reduceSub, Int.reduceAdd, Int.reduceSub, Nat.reduceLeDiff, Int.reduceLT, Int.reduceLE, Int.reduceEq, Int.reduceNeg, Int.reduceToNat, IntWalk.i64_in, Bool.or_self, Bool.or_false, Bool.or_true, Bool.and_false, Bool.and_true, Bool.false_or, Bool.true_or, Bool.false_eq_true, Bool.true_eq_false, List.append_assoc, List.cons_append, List.nil_append, *]))
  all_goals (try first | rfl | (simp [*]; done) | grind)
theorem fn85L {α : Type} {E : Enc α} {s : V} {l : List α} {H : Hp} (hs : LstE E H s l) (hw : E.w = 3) (hlen : l.length < 2 ^ 62) (p : α → Bool) (f : Nat) (ca cb : List V) (hf : ∀ x ∈ l, callL Try.prog pr f (ca ++ [.agg (E.f x)] ++ cb) H = some (.bool (p x), H)) : callL Try.prog pr 85 [s, .fn f ca cb] H = some (.int .i64 (findI p l 0), H) := by
  have hs' : (∃ b, s = slV b E l ∧ E.w = 3) ∨ ∃ id g, s = .slice id g 0 l.length 3 .full ∧ getRow H id g = some (flatE E l, true) := by
    rcases hs with ⟨b, h⟩ | h
    · exact .inl ⟨b, h, hw⟩
    · exact .inr (by rw [← hw]; exact h)
  clear hs
  refine run85 (Nat.le_of_ble_eq_true rfl) ?_
  have hl0 : ∀ H', lenV Try.prog 84 H' s = some (.int .i64 l.length) := fun H' => by
    rcases hs' with ⟨b, rfl, hr⟩ | ⟨id, g, rfl, hr⟩
    · exact ns84 b E l
    · exact n84 ..
  have he : eqA s s = true ∧ s.isTup = false := by
    rcases hs' with ⟨b, rfl, hr⟩ | ⟨id, g, rfl, hr⟩
    · exact ⟨slV_eqA b E l, slV_nt b E l⟩
    · exact ⟨eqA_slice .., rfl⟩
  simp (disch := first | rfl | omega | exact byE_w | exact inE_w | exact boE_w | exact stE_w | exact pcE_w | exact celE_w | exact lt_new _ | assumption | (simp only [List.length_append, List.length_singleton, List.length_set, List.length_take, List.length_drop, List.length_map]; done) | (simp only [List.length_append, List.length_singleton, List.length_set, List.length_take, List.length_drop, List.length_map]; omega)) only [r85_0, r85_1, r85_2, r85_3, r85_4, r85_5, r85_6, r85_8, c85, rs85, gc85, ↓reduceIte, go_sem, Nat.add_zero, Nat.zero_add, Nat.sub_zero, List.drop_zero, Nat.reduceLT, Nat.reduceEqDiff, Nat.reduceAdd, Nat.reduceMul, Nat.reduceSub, Int.reduceAdd, Int.reduceSub, Nat.reduceLeDiff, Int.reduceLT, Int.reduceLE, Int.reduceEq, Int.reduceNeg, Int.reduceToNat, IntWalk.i64_in, Bool.or_self, Bool.or_false, Bool.or_true, Bool.and_false, Bool.and_true, Bool.false_or, Bool.true_or, Bool.false_eq_true, Bool.true_eq_false, hl0, he]
  refine Wp_loop (fun m T D H' => ∃ i, m = l.length - i ∧ i ≤ l.length ∧ D = [] ∧ H' = H ∧ get T 0 = s ∧ get T 1 = .fn f ca cb ∧ get T 7 = .int .i64 l.length ∧ get T 8 = .int .i64 i ∧ findI p l 0 = findI p (l.drop i) i) ?_ l.length _ _ _ ?_
  · rintro m T D H' ⟨i, rfl, hi, rfl, rfl, h0, h1, h7, h8, hp⟩
    have hld := fun (hi : i < l.length) H => @ld_agg _ Try.prog H α E l 97 3 i g97 z97 hw hi
    have hld0 := fun (ha : aggT Try.prog 97 = some false) (hi : i < l.length) H => @ld_cell0 _ Try.prog H α E l 97 3 i ha hw hi
    have hlq := fun (hi : i < l.length) => @lq_agg _ Try.prog α E l 97 3 i g97 z97 hw hi
    have hlq0 := fun (ha : aggT Try.prog 97 = some false) (hi : i < l.length) => @lq_cell0 _ Try.prog α E l 97 3 i ha hw hi
    have hfi := fun (h : i < l.length) => hf _ (E.at_mem h)
    by_cases hlt : i < l.length
    · have hlt' : (i : Int) < l.length := by omega
      have hpi := findI_drop p (E.at_some hlt) i
      rcases hs' with ⟨b, rfl, hr⟩ | ⟨id, g, rfl, hr⟩
      all_goals
        simp (disch := first | rfl | omega | exact byE_w | exact inE_w | exact boE_w | exact stE_w | exact pcE_w | exact celE_w | exact lt_new _ | assumption | (simp only [List.length_append, List.length_singleton, List.length_set, List.length_take, List.length_drop, List.length_map]; done) | (simp only [List.length_append, List.length_singleton, List.length_set, List.length_take, List.length_drop, List.length_map]; omega)) only [r85_0, r85_1, r85_2, r85_3, r85_4, r85_5, r85_6, l85_7, r85_8, c85, rs85, gc85, ↓reduceIte, go_sem, Nat.add_zero, Nat.zero_add, Nat.sub_zero, List.drop_zero, Nat.reduceLT, Nat.reduceEqDiff, Nat.reduceAdd, Nat.reduceMul, Nat.reduceSub, Int.reduceAdd, Int.reduceSub, Nat.reduceLeDiff, Int.reduceLT, Int.reduceLE, Int.reduceEq, Int.reduceNeg, Int.reduceToNat, IntWalk.i64_in, Bool.or_self, Bool.or_false, Bool.or_true, Bool.and_false, Bool.and_true, Bool.false_or, Bool.true_or, Bool.false_eq_true, Bool.true_eq_false, h0, h1, h7, h8, hld, hld0, hlq, hlq0, ldR, hr, hfi, hlt', decide_true]
        refine brQ_bool (fun hy => ?_) (fun hy => ?_)
        · rw [if_pos hy] at hpi
          simp (disch := first | rfl | omega | exact byE_w | exact inE_w | exact boE_w | exact stE_w | exact pcE_w | exact celE_w | exact lt_new _ | assumption | (simp only [List.length_append, List.length_singleton, List.length_set, List.length_take, List.length_drop, List.length_map]; done) | (simp only [List.length_append, List.length_singleton, List.length_set, List.length_take, List.length_drop, List.length_map]; omega)) only [r85_0, r85_1, r85_2, r85_3, r85_4, r85_5, r85_6, l85_7, r85_8, c85, rs85, gc85, ↓reduceIte, go_sem, Nat.add_zero, Nat.zero_add, Nat.sub_zero, List.drop_zero, Nat.reduceLT, Nat.reduceEqDiff, Nat.reduceAdd, Nat.reduceMul, Nat.reduceSub, Int.reduceAdd, Int.reduceSub, Nat.reduceLeDiff, Int.reduceLT, Int.reduceLE, Int.reduceEq, Int.reduceNeg, Int.reduceToNat, IntWalk.i64_in, Bool.or_self, Bool.or_false, Bool.or_true, Bool.and_false, Bool.and_true, Bool.false_or, Bool.true_or, Bool.false_eq_true, Bool.true_eq_false, h0, h1, h7, h8]
          refine finQ_same ?_
          simp (disch := first | rfl | omega | exact byE_w | exact inE_w | exact boE_w | exact stE_w | exact pcE_w | exact celE_w | exact lt_new _ | assumption | (simp only [List.length_append, List.length_singleton, List.length_set, List.length_take, List.length_drop, List.length_map]; done) | (simp only [List.length_append, List.length_singleton, List.length_set, List.length_take, List.length_drop, List.length_map]; omega)) only [↓reduceIte, go_sem, Nat.add_zero, Nat.zero_add, Nat.sub_zero, List.drop_zero, Nat.reduceLT, Nat.reduceEqDiff, Nat.reduceAdd, Nat.reduceMul, Nat.reduceSub, Int.reduceAdd, Int.reduceSub, Nat.reduceLeDiff, Int.reduceLT, Int.reduceLE, Int.reduceEq, Int.reduceNeg, Int.reduceToNat, IntWalk.i64_in, Bool.or_self, Bool.or_false, Bool.or_true, Bool.and_false, Bool.and_true, Bool.false_or, Bool.true_or, Bool.false_eq_true, Bool.true_eq_false, hp, hpi]
        · rw [if_neg (by simp [hy])] at hpi
          simp (disch := first | rfl | omega | exact byE_w | exact inE_w | exact boE_w | exact stE_w | exact pcE_w | exact celE_w | exact lt_new _ | assumption | (simp only [List.length_append, List.length_singleton, List.length_set, List.length_take, List.length_drop, List.length_map]; done) | (simp only [List.length_append, List.length_singleton, List.length_set, List.length_take, List.length_drop, List.length_map]; omega)) only [r85_0, r85_1, r85_2, r85_3, r85_4, r85_5, r85_6, l85_7, r85_8, c85, rs85, gc85, ↓reduceIte, go_sem, Nat.add_zero, Nat.zero_add, Nat.sub_zero, List.drop_zero, Nat.reduceLT, Nat.reduceEqDiff, Nat.reduceAdd, Nat.reduceMul, Nat.reduceSub, Int.reduceAdd, Int.reduceSub, Nat.reduceLeDiff, Int.reduceLT, Int.reduceLE, Int.reduceEq, Int.reduceNeg, Int.reduceToNat, IntWalk.i64_in, Bool.or_self, Bool.or_false, Bool.or_true, Bool.and_false, Bool.and_true, Bool.false_or, Bool.true_or, Bool.false_eq_true, Bool.true_eq_false, h0, h1, h7, h8]
          exact ⟨_, by omega, i + 1, rfl, hlt, rfl, by rw [hp, hpi]; rfl⟩
    · obtain rfl : i = l.length := by omega
      simp (disch := first | rfl | omega | exact byE_w | exact inE_w | exact boE_w | exact stE_w | exact pcE_w | exact celE_w | exact lt_new _ | assumption | (simp only [List.length_append, List.length_singleton, List.length_set, List.length_take, List.length_drop, List.length_map]; done) | (simp only [List.length_append, List.length_singleton, List.length_set, List.length_take, List.length_drop, List.length_map]; omega)) only [r85_0, r85_1, r85_2, r85_3, r85_4, r85_5, r85_6, l85_7, r85_8, c85, rs85, gc85, ↓reduceIte, go_sem, Nat.add_zero, Nat.zero_add, Nat.sub_zero, List.drop_zero, Nat.reduceLT, Nat.reduceEqDiff, Nat.reduceAdd, Nat.reduceMul, Nat.reduceSub, Int.reduceAdd, Int.reduceSub, Nat.reduceLeDiff, Int.reduceLT, Int.reduceLE, Int.reduceEq, Int.reduceNeg, Int.reduceToNat, IntWalk.i64_in, Bool.or_self, Bool.or_false, Bool.or_true, Bool.and_false, Bool.and_true, Bool.false_or, Bool.true_or, Bool.false_eq_true, Bool.true_eq_false, h0, h1, h7, h8, Int.lt_irrefl, decide_false]
      refine finQ_same ?_
      rw [hp, List.drop_length]
      simp (disch := first | rfl | omega | exact byE_w | exact inE_w | exact boE_w | exact stE_w | exact pcE_w | exact celE_w | exact lt_new _ | assumption | (simp only [List.length_append, List.length_singleton, List.length_set, List.length_take, List.length_drop, List.length_map]; done) | (simp only [List.length_append, List.length_singleton, List.length_set, List.length_take, List.length_drop, List.length_map]; omega)) only [↓reduceIte, go_sem, Nat.add_zero, Nat.zero_add, Nat.sub_zero, List.drop_zero, Nat.reduceLT, Nat.reduceEqDiff, Nat.reduceAdd, Nat.reduceMul, Nat.reduceSub, Int.reduceAdd, Int.reduceSub, Nat.reduceLeDiff, Int.reduceLT, Int.reduceLE, Int.reduceEq, Int.reduceNeg, Int.reduceToNat, IntWalk.i64_in, Bool.or_self, Bool.or_false, Bool.or_true, Bool.and_false, Bool.and_true, Bool.false_or, Bool.true_or, Bool.false_eq_true, Bool.true_eq_false, findI]
  · exact ⟨0, by simp [go_sem]⟩

theorem fn70L {α : Type} {E : Enc α} {s : V} {l : List α} {H : Hp} (hs : LstE E H s l) (hw : E.w = 3) (hlen : l.length < 2 ^ 62) (p : α → Bool) (f : Nat) (ca cb : List V) (hf : ∀ x ∈ l, callL Try.prog pr f (ca ++ [.agg (E.f x)] ++ cb) H = some (.bool (p x), H)) : callL Try.prog pr 70 [s, .fn f ca cb] H = some (.bool (l.any p), H) := by
  have he : eqA s s = true ∧ s.isTup = false := by
    rcases hs with ⟨b, rfl⟩ | ⟨id, g, rfl, hr⟩
    · exact ⟨slV_eqA b E l, slV_nt b E l⟩
    · exact ⟨eqA_slice .., rfl⟩
  refine run70 (Nat.le_of_ble_eq_true rfl) ?_
  simp (disch := first | rfl | omega | exact byE_w | exact inE_w | exact boE_w | exact stE_w | exact pcE_w | exact celE_w | exact lt_new _ | assumption | (simp only [List.length_append, List.length_singleton, List.length_set, List.length_take, List.length_drop, List.length_map]; done) | (simp only [List.length_append, List.length_singleton, List.length_set, List.length_take, List.length_drop, List.length_map]; omega)) only [r70_0, r70_1, c70, rs70, gc70, ↓reduceIte, go_sem, Nat.add_zero, Nat.zero_add, Nat.sub_zero, List.drop_zero, Nat.reduceLT, Nat.reduceEqDiff, Nat.reduceAdd, Nat.reduceMul, Nat.reduceSub, Int.reduceAdd, Int.reduceSub, Nat.reduceLeDiff, Int.reduceLT, Int.reduceLE, Int.reduceEq, Int.reduceNeg, Int.reduceToNat, IntWalk.i64_in, Bool.or_self, Bool.or_false, Bool.or_true, Bool.and_false, Bool.and_true, Bool.false_or, Bool.true_or, Bool.false_eq_true, Bool.true_eq_false, he, fn85L hs hw hlen p f ca cb hf]
  refine finQ_same ?_
  simp (disch := first | rfl | omega | exact byE_w | exact inE_w | exact boE_w | exact stE_w | exact pcE_w | exact celE_w | exact lt_new _ | assumption | (simp only [List.length_append, List.length_singleton, List.length_set, List.length_take, List.length_drop, List.length_map]; done) | (simp only [List.length_append, List.length_singleton, List.length_set, List.length_take, List.length_drop, List.length_map]; omega)) only [↓reduceIte, go_sem, Nat.add_zero, Nat.zero_add, Nat.sub_zero, List.drop_zero, Nat.reduceLT, Nat.reduceEqDiff, Nat.reduceAdd, Nat.reduceMul, Nat.reduceSub, Int.reduceAdd, Int.reduceSub, Nat.reduceLeDiff, Int.reduceLT, Int.reduceLE, Int.reduceEq, Int.reduceNeg, Int.reduceToNat, IntWalk.i64_in, Bool.or_self, Bool.or_false, Bool.or_true, Bool.and_false, Bool.and_true, Bool.false_or, Bool.true_or, Bool.false_eq_true, Bool.true_eq_false, findI_any p l 0 (by omega)]

def fullB (cs : List Cl) (tot : Int) : Bool := decide (tot = (cs.length : Int)) && !(cs.any fun c => !c.is)
theorem fn46 {H : Hp} {w : Nat} {cv : V} {cs : List Cl} {tot beg : Int} (hw : Wm H w cv cs tot beg) (hn : cs.length ≤ 5000) : callL Try.prog pr 46 [.ptr w 0 0] H = some (.bool (fullB cs tot), H) := by
  have hr := getRow_of hw.row
  have hln := fun H' => hw.own.len (P := Try.prog) s84 H'
  have hce := hw.own.cell
  have h70 := fn70L (hw.own.lst) rfl (by omega) (fun c : Cl => !c.is) 71 [] [] (fun c _ => fn71 c H)
  (try simp only [List.nil_append, List.append_nil] at h70)
  refine run46 (Nat.le_of_ble_eq_true rfl) ?_
  unfold fullB
  simp (disch := first | rfl | omega | exact byE_w | exact inE_w | exact boE_w | exact stE_w | exact pcE_w | exact celE_w | exact lt_new _ | assumption | (simp only [List.length_append, List.length_singleton, List.length_set, List.length_take, List.length_drop, List.length_map]; done) | (simp only [List.length_append, List.length_singleton, List.length_set, List.length_take, List.length_drop, List.length_map]; omega)) only [r46_0, r46_1, c46, rs46, gc46, loadV_ptr, ↓reduceIte, go_sem, Nat.add_zero, Nat.zero_add, Nat.sub_zero, List.drop_zero, Nat.reduceLT, Nat.reduceEqDiff, Nat.reduceAdd, Nat.reduceMul, Nat.reduceSub, Int.reduceAdd, Int.reduceSub, Nat.reduceLeDiff, Int.reduceLT, Int.reduceLE, Int.reduceEq, Int.reduceNeg, Int.reduceToNat, IntWalk.i64_in, Bool.or_self, Bool.or_false, Bool.or_true, Bool.and_false, Bool.and_true, Bool.false_or, Bool.true_or, Bool.false_eq_true, Bool.true_eq_false, *]
  repeat' ((first | refine guardB_dec (fun hy => ?_) (fun hy => ?_) | refine guardB_bool (fun hy => ?_) (fun hy => ?_) | refine guardQ_ite (fun hy => ?_) (fun hy => ?_) | refine brQ_dec (fun hy => ?_) (fun hy => ?_) | refine brQ_bool (fun hy => ?_) (fun hy => ?_)) <;> (try simp only [Bool.not_eq_true', Bool.not_eq_false', Bool.and_eq_true, Bool.or_eq_false_iff, decide_eq_true_eq, decide_eq_false_iff_not] at hy) <;> simp (disch := first | rfl | omega | exact byE_w | exact inE_w | exact boE_w | exact stE_w | exact pcE_w | exact celE_w | exact lt_new _ | assumption | (simp only [List.length_append, List.length_singleton, List.length_set, List.length_take, List.length_drop, List.length_map]; done) | (simp only [List.length_append, List.length_singleton, List.length_set, List.length_take, List.length_drop, List.length_map]; omega)) only [r46_0, r46_1, c46, rs46, gc46, loadV_ptr, ↓reduceIte, go_sem, Nat.add_zero, Nat.zero_add, Nat.sub_zero, List.drop_zero, Nat.reduceLT, Nat.reduceEqDiff, Nat.reduceAdd, Nat.reduceMul, Nat.reduceSub, Int.reduceAdd, Int.reduceSub, Nat.reduceLeDiff, Int.reduceLT, Int.reduceLE, Int.reduceEq, Int.reduceNeg, Int.reduceToNat, IntWalk.i64_in, Bool.or_self, Bool.or_false, Bool.or_true, Bool.and_false, Bool.and_true, Bool.false_or, Bool.true_or, Bool.false_eq_true, Bool.true_eq_false, *])
  all_goals (try ((first | refine finQ_same ?_ | refine finQ_app ?_ | (rw [List.append_assoc]; refine finQ_app ?_)) <;> simp (disch := first | rfl | omega | exact byE_w | exact inE_w | exact boE_w | exact stE_w | exact pcE_w | exact celE_w | exact lt_new _ | assumption | (simp only [List.length_append, List.length_singleton, List.length_set, List.length_take, List.length_drop, List.length_map]; done) | (simp only [List.length_append, List.length_singleton, List.length_set, List.length_take, List.length_drop, List.length_map]; omega)) only [↓reduceIte, go_sem, Nat.add_zero, Nat.zero_add, Nat.sub_zero, List.drop_zero, Nat.reduceLT, Nat.reduceEqDiff, Nat.reduceAdd, Nat.reduceMul, Nat.reduceSub, Int.reduceAdd, Int.reduceSub, Nat.reduceLeDiff, Int.reduceLT, Int.reduceLE, Int.reduceEq, Int.reduceNeg, Int.reduceToNat, IntWalk.i64_in, Bool.or_self, Bool.or_false, Bool.or_true, Bool.and_false, Bool.and_true, Bool.false_or, Bool.true_or, Bool.false_eq_true, Bool.true_eq_false, List.append_assoc, List.cons_append, List.nil_append, *]))
  all_goals (try first | rfl | (simp [*]; done) | grind)
theorem fn47 {H : Hp} {w : Nat} {cv : V} {cs : List Cl} {tot beg : Int} (hw : Wm H w cv cs tot beg) (hn : cs.length ≤ 5000) : callL Try.prog pr 47 [.ptr w 0 0] H = some (slV true byE (cs.map (·.b)), H) := by
  have hr := getRow_of hw.row
  have hln := fun H' => hw.own.len (P := Try.prog) s84 H'
  have hce := hw.own.cell
  refine run47 (Nat.le_of_ble_eq_true rfl) ?_
  simp (disch := first | rfl | omega | exact byE_w | exact inE_w | exact boE_w | exact stE_w | exact pcE_w | exact celE_w | exact lt_new _ | assumption | (simp only [List.length_append, List.length_singleton, List.length_set, List.length_take, List.length_drop, List.length_map]; done) | (simp only [List.length_append, List.length_singleton, List.length_set, List.length_take, List.length_drop, List.length_map]; omega)) only [r47_0, r47_1, r47_2, r47_3, r47_4, r47_5, r47_6, r47_8, c47, rs47, gc47, ↓reduceIte, go_sem, Nat.add_zero, Nat.zero_add, Nat.sub_zero, List.drop_zero, Nat.reduceLT, Nat.reduceEqDiff, Nat.reduceAdd, Nat.reduceMul, Nat.reduceSub, Int.reduceAdd, Int.reduceSub, Nat.reduceLeDiff, Int.reduceLT, Int.reduceLE, Int.reduceEq, Int.reduceNeg, Int.reduceToNat, IntWalk.i64_in, Bool.or_self, Bool.or_false, Bool.or_true, Bool.and_false, Bool.and_true, Bool.false_or, Bool.true_or, Bool.false_eq_true, Bool.true_eq_false, loadV_ptr, hr, hln, hce]
  refine Wp_loop (fun m T D H' => ∃ i, ∃ v : V, m = cs.length - i ∧ i ≤ cs.length ∧ D = [] ∧ (∀ id, id < H.length → H'[id]? = H[id]?) ∧ H.length ≤ H'.length ∧ OwnE byE H' v ((cs.take i).map (·.b)) ∧ (∀ id, At v id → H.length ≤ id) ∧ get T 9 = cv ∧ get T 10 = .int .i64 cs.length ∧ get T 11 = .int .i64 i ∧ get T 3 = v) ?_ cs.length _ _ _ ?_
  · rintro m T D H' ⟨i, v, rfl, hi, rfl, hfr, hle, hov, hat, t9, t10, t11, t3⟩
    by_cases hlt : i < cs.length
    · have hlt' : (i : Int) < cs.length := by omega
      have hix := fun kk => hw.own.idx (P := Try.prog) s84 rfl (kk := kk) (j := (i : Int)) (by omega)
      have hwr : OwnE celE H' cv cs := hw.own.frame fun id ha => hfr id (hw.own.lt ha)
      have hrw := hwr.row (by omega)
      have hlq := lq_agg (P := Try.prog) (E := celE) g97 z97 rfl hlt
      obtain ⟨v2, H2, ha2, ho2, hf2, hl2, hv2⟩ := (hov.app [.row 0 (celE.f (celE.at cs i)) true]).push (w := 1) (by_ := 1) (celE.at cs i).b rfl (by simp; omega) (by simp; omega)
      rw [byE_f] at ha2
      have hvc := hov.cell
      have htk : (cs.take (i + 1)).map (·.b) = (cs.take i).map (·.b) ++ [(celE.at cs i).b] := by rw [celE.take_at hlt]; simp
      simp (disch := first | rfl | omega | exact byE_w | exact inE_w | exact boE_w | exact stE_w | exact pcE_w | exact celE_w | exact lt_new _ | assumption | (simp only [List.length_append, List.length_singleton, List.length_set, List.length_take, List.length_drop, List.length_map]; done) | (simp only [List.length_append, List.length_singleton, List.length_set, List.length_take, List.length_drop, List.length_map]; omega)) only [r47_0, r47_1, r47_2, r47_3, r47_4, r47_5, r47_6, l47_7, r47_8, c47, rs47, gc47, loadV_ptr, storeV_ptr, getRow_app', getRow_setS, getRow_setO, getRow_lastN, set_lastN, set_app, List.set_set, bl_nil, bl_all, getRow_bl, set_bl, celE_s, ↓reduceIte, go_sem, Nat.add_zero, Nat.zero_add, Nat.sub_zero, List.drop_zero, Nat.reduceLT, Nat.reduceEqDiff, Nat.reduceAdd, Nat.reduceMul, Nat.reduceSub, Int.reduceAdd, Int.reduceSub, Nat.reduceLeDiff, Int.reduceLT, Int.reduceLE, Int.reduceEq, Int.reduceNeg, Int.reduceToNat, IntWalk.i64_in, Bool.or_self, Bool.or_false, Bool.or_true, Bool.and_false, Bool.and_true, Bool.false_or, Bool.true_or, Bool.false_eq_true, Bool.true_eq_false, *]
      repeat' ((first | refine guardB_dec (fun hy => ?_) (fun hy => ?_) | refine guardB_bool (fun hy => ?_) (fun hy => ?_) | refine guardQ_ite (fun hy => ?_) (fun hy => ?_) | refine brQ_dec (fun hy => ?_) (fun hy => ?_) | refine brQ_bool (fun hy => ?_) (fun hy => ?_)) <;> (try simp only [Bool.not_eq_true', Bool.not_eq_false', Bool.and_eq_true, Bool.or_eq_false_iff, decide_eq_true_eq, decide_eq_false_iff_not] at hy) <;> simp (disch := first | rfl | omega | exact byE_w | exact inE_w | exact boE_w | exact stE_w | exact pcE_w | exact celE_w | exact lt_new _ | assumption | (simp only [List.length_append, List.length_singleton, List.length_set, List.length_take, List.length_drop, List.length_map]; done) | (simp only [List.length_append, List.length_singleton, List.length_set, List.length_take, List.length_drop, List.length_map]; omega)) only [r47_0, r47_1, r47_2, r47_3, r47_4, r47_5, r47_6, l47_7, r47_8, c47, rs47, gc47, loadV_ptr, storeV_ptr, getRow_app', getRow_setS, getRow_setO, getRow_lastN, set_lastN, set_app, List.set_set, bl_nil, bl_all, getRow_bl, set_bl, celE_s, ↓reduceIte, go_sem, Nat.add_zero, Nat.zero_add, Nat.sub_zero, List.drop_zero, Nat.reduceLT, Nat.reduceEqDiff, Nat.reduceAdd, Nat.reduceMul, Nat.reduceSub, Int.reduceAdd, Int.reduceSub, Nat.reduceLeDiff, Int.reduceLT, Int.reduceLE, Int.reduceEq, Int.reduceNeg, Int.reduceToNat, IntWalk.i64_in, Bool.or_self, Bool.or_false, Bool.or_true, Bool.and_false, Bool.and_true, Bool.false_or, Bool.true_or, Bool.false_eq_true, Bool.true_eq_false, *])

      refine ⟨_, by omega, i + 1, v2, rfl, hlt, fun id hid => ?_, ?_, ?_, ?_, rfl, rfl⟩
      · rw [hf2 id (by simp; omega) (fun ha => by have := hat id ha; omega), List.getElem?_append_left (by omega)]
        exact hfr id hid
      · simp at hl2; omega
      · rw [htk]; exact ho2
      · intro id ha
        rcases hv2 id ha with h | h
        · exact hat id h
        · simp at h; omega
    · obtain rfl : i = cs.length := by omega
      rw [List.take_length] at hov
      have hvc := hov.cell
      simp (disch := first | rfl | omega | exact byE_w | exact inE_w | exact boE_w | exact stE_w | exact pcE_w | exact celE_w | exact lt_new _ | assumption | (simp only [List.length_append, List.length_singleton, List.length_set, List.length_take, List.length_drop, List.length_map]; done) | (simp only [List.length_append, List.length_singleton, List.length_set, List.length_take, List.length_drop, List.length_map]; omega)) only [r47_0, r47_1, r47_2, r47_3, r47_4, r47_5, r47_6, l47_7, r47_8, c47, rs47, gc47, Int.lt_irrefl, decide_false, ↓reduceIte, go_sem, Nat.add_zero, Nat.zero_add, Nat.sub_zero, List.drop_zero, Nat.reduceLT, Nat.reduceEqDiff, Nat.reduceAdd, Nat.reduceMul, Nat.reduceSub, Int.reduceAdd, Int.reduceSub, Nat.reduceLeDiff, Int.reduceLT, Int.reduceLE, Int.reduceEq, Int.reduceNeg, Int.reduceToNat, IntWalk.i64_in, Bool.or_self, Bool.or_false, Bool.or_true, Bool.and_false, Bool.and_true, Bool.false_or, Bool.true_or, Bool.false_eq_true, Bool.true_eq_false, *]
      repeat' ((first | refine guardB_dec (fun hy => ?_) (fun hy => ?_) | refine guardB_bool (fun hy => ?_) (fun hy => ?_) | refine guardQ_ite (fun hy => ?_) (fun hy => ?_) | refine brQ_dec (fun hy => ?_) (fun hy => ?_) | refine brQ_bool (fun hy => ?_) (fun hy => ?_)) <;> (try simp only [Bool.not_eq_true', Bool.not_eq_false', Bool.and_eq_true, Bool.or_eq_false_iff, decide_eq_true_eq, decide_eq_false_iff_not] at hy) <;> simp (disch := first | rfl | omega | exact byE_w | exact inE_w | exact boE_w | exact stE_w | exact pcE_w | exact celE_w | exact lt_new _ | assumption | (simp only [List.length_append, List.length_singleton, List.length_set, List.length_take, List.length_drop, List.length_map]; done) | (simp only [List.length_append, List.length_singleton, List.length_set, List.length_take, List.length_drop, List.length_map]; omega)) only [r47_0, r47_1, r47_2, r47_3, r47_4, r47_5, r47_6, l47_7, r47_8, c47, rs47, gc47, Int.lt_irrefl, decide_false, ↓reduceIte, go_sem, Nat.add_zero, Nat.zero_add, Nat.sub_zero, List.drop_zero, Nat.reduceLT, Nat.reduceEqDiff, Nat.reduceAdd, Nat.reduceMul, Nat.reduceSub, Int.reduceAdd, Int.reduceSub, Nat.reduceLeDiff, Int.reduceLT, Int.reduceLE, Int.reduceEq, Int.reduceNeg, Int.reduceToNat, IntWalk.i64_in, Bool.or_self, Bool.or_false, Bool.or_true, Bool.and_false, Bool.and_true, Bool.false_or, Bool.true_or, Bool.false_eq_true, Bool.true_eq_false, *])
      refine gcF_of hfr ?_
      have := hov.inl (f := 6) hat
      rcases hov with ⟨rfl, _⟩ | ⟨id, g, rfl, _⟩ <;> exact this
  · exact ⟨0, by simp [go_sem, ownE_nil, At]⟩
end Go.Proofs.Ytdpdlobaabcjjab
/-
  A piece put into a whole of the table, walked. No statement of the seat stands here.
-/
namespace Go.Proofs.Ytdpdlobaabcjjab
open Go Go.An
set_option maxRecDepth 4000
set_option linter.unusedSimpArgs false
set_option linter.unusedVariables false

def zCl : Cl := ⟨false, 0, 0⟩
/-- The cells, as many as a piece asks for. -/
def growC (cs : List Cl) (p : Pc) : List Cl := if 0 < p.data.length then cs ++ List.replicate ((pcEnd p).toNat - cs.length) zCl else cs
def keepB (pol at_ : Int) (b : UInt8) (c : Cl) : Bool := (c.is && decide (c.b = b)) && (!decide (pol = 2) || decide (c.beg ≤ at_))
def takeB (pol at_ : Int) (c : Cl) : Bool := (!c.is || decide (pol = 1)) || (decide (pol = 2) && decide (at_ < c.beg))
/-- What becomes of a cell. -/
def cellP (pol at_ : Int) (b : UInt8) (c : Cl) : Cl := if keepB pol at_ b c = true then c else if takeB pol at_ c = true then ⟨true, b, at_⟩ else c
def newC (b : UInt8) (c : Cl) : Bool := !c.is || decide (c.b ≠ b)
def difC (b : UInt8) (c : Cl) : Bool := c.is && decide (c.b ≠ b)
/-- The cells behind the first bytes. -/
def putC (pol : Int) (p : Pc) (cs : List Cl) : Nat → List Cl
  | 0 => cs
  | i + 1 => (putC pol p cs i).set (p.at_.toNat + i) (cellP pol p.at_ (byE.at p.data i) (celE.at cs (p.at_.toNat + i)))
theorem putC_len (pol : Int) (p : Pc) (cs : List Cl) : ∀ n, (putC pol p cs n).length = cs.length
  | 0 => rfl
  | n + 1 => by rw [putC, List.length_set, putC_len pol p cs n]
theorem set_at {α : Type} (E : Enc α) {l : List α} {i j : Nat} {a : α} : E.at (l.set i a) j = if i = j ∧ j < l.length then a else E.at l j := by
  simp only [Enc.at, List.getD, List.getElem?_set]
  by_cases h : i = j
  · subst h
    by_cases h2 : i < l.length
    · simp [h2]
    · simp [h2]
  · simp [h]
theorem putC_at (pol : Int) (p : Pc) (cs : List Cl) : ∀ n k, p.at_.toNat + n ≤ k → celE.at (putC pol p cs n) k = celE.at cs k
  | 0, _, _ => rfl
  | n + 1, k, h => by
    rw [putC, set_at, if_neg (by omega), putC_at pol p cs n k (by omega)]
def anyN (p : Pc) (cs : List Cl) (n : Nat) : Bool := (List.range n).any fun i => newC (byE.at p.data i) (celE.at cs (p.at_.toNat + i))
def anyD (p : Pc) (cs : List Cl) (n : Nat) : Bool := (List.range n).any fun i => difC (byE.at p.data i) (celE.at cs (p.at_.toNat + i))
theorem grow_len (cs : List Cl) (p : Pc) (np : Near p) : (growC cs p).length = if 0 < p.data.length then max cs.length (p.at_.toNat + p.data.length) else cs.length := by
  have hlo := np.lo
  unfold growC pcEnd
  split
  · rw [List.length_append, List.length_replicate]; omega
  · rfl
/-- What stays when a whole is changed. -/
def Fram (H H' : Hp) (w : Nat) (cv : V) : Prop := H.length ≤ H'.length ∧ ∀ j, j < H.length → j ≠ w → ¬ At cv j → H'[j]? = H[j]?
theorem Fram.refl (H : Hp) (w : Nat) (cv : V) : Fram H H w cv := ⟨Nat.le_refl _, fun _ _ _ _ => rfl⟩
/-- The first loop: cells of nothing are laid behind. -/
theorem Wm.grow {H : Hp} {w : Nat} {cv : V} {cs : List Cl} {tot beg : Int} (hw : Wm H w cv cs tot beg) (hb : cs.length ≤ 5000) :
    ∃ cv' H1, appOf 3 16 H cv (.isl (celE.f zCl) 1 3) = some (cv', H1) ∧ getRow H1 w 0 = some ([cv, .int .i64 tot, .int .i64 beg], true) ∧ Wm (H1.set w (.row 0 [cv', .int .i64 tot, .int .i64 beg] true)) w cv' (cs ++ [zCl]) tot beg ∧ Fram H (H1.set w (.row 0 [cv', .int .i64 tot, .int .i64 beg] true)) w cv ∧ cv'.isCell = true ∧ cv'.cells = [cv'] ∧ (∀ j, At cv' j → At cv j ∨ H.length ≤ j) := by
  obtain ⟨cv', H1, h1, h2, h3, h4, h5⟩ := hw.own.push (w := 3) (by_ := 16) zCl rfl (by omega) (by omega)
  have hwl := hw.lt
  have hrw : H1[w]? = H[w]? := h3 w hwl hw.sep
  have hsep : ¬ At cv' w := fun h => by
    rcases h5 w h with h | h
    · exact hw.sep h
    · omega
  refine ⟨cv', H1, h1, getRow_of (by rw [hrw]; exact hw.row), ⟨?_, h2.frame fun j hj => ?_, hsep⟩, ⟨by simpa using h4, fun j hj hne hna => ?_⟩, h2.cell.1, h2.cell.2.1, h5⟩
  · rw [List.getElem?_set_self (by omega)]
  · rw [List.getElem?_set_ne (fun e => hsep (by subst e; exact hj))]
  · rw [List.getElem?_set_ne (fun e => hne e.symm), h3 j hj hna]
theorem Fram.trans {H H1 H2 : Hp} {w : Nat} {cv cv1 : V} (h : Fram H H1 w cv) (k : Fram H1 H2 w cv1) (ha : ∀ j, At cv1 j → At cv j ∨ H.length ≤ j) : Fram H H2 w cv := by
  have h1 := h.1
  refine ⟨Nat.le_trans h.1 k.1, fun j hj hne hna => ?_⟩
  rw [k.2 j (by omega) hne (fun hc => ?_), h.2 j hj hne hna]
  rcases ha j hc with e | e
  · exact hna e
  · omega
theorem set_self {α : Type} (E : Enc α) {l : List α} {i : Nat} : l.set i (E.at l i) = l := by
  apply List.ext_getElem?
  intro j
  rw [List.getElem?_set]
  split
  · rename_i e; subst e
    split
    · rename_i h; exact (E.at_some h).symm
    · rename_i h; rw [List.getElem?_eq_none (by omega)]
  · rfl
/-- What holds between two bytes. -/
def PutI (H : Hp) (w : Nat) (cv : V) (cs1 : List Cl) (tot beg : Int) (p : Pc) (pol : Int) (m : Nat) (T : Fr) (D : Dfr) (H' : Hp) : Prop := ∃ i cv1, m = p.data.length - i ∧ i ≤ p.data.length ∧ D = [] ∧ Wm H' w cv1 (putC pol p cs1 i) tot beg ∧ Fram H H' w cv ∧ (∀ j, At cv1 j → At cv j ∨ H.length ≤ j) ∧ get T 0 = .ptr w 0 0 ∧ get T 2 = .int .i64 pol ∧ get T 4 = .ipt (pcE.f p) 0 ∧ get T 42 = slV p.nl byE p.data ∧ get T 43 = .int .i64 p.data.length ∧ get T 44 = .int .i64 i ∧ get T 8 = .bool (anyN p cs1 i) ∧ get T 9 = .bool (anyD p cs1 i)
set_option maxHeartbeats 4000000 in
theorem put_step {H H' : Hp} {w : Nat} {cv : V} {cs1 : List Cl} {tot beg : Int} {p : Pc} {pol : Int} {m : Nat} {T : Fr} {D : Dfr} {R : Ex → Fr → Dfr → Hp → Prop} (h : PutI H w cv cs1 tot beg p pol m T D H') (hm : 0 < m) (np : Near p) (hl : p.at_.toNat + p.data.length ≤ cs1.length) (hl2 : cs1.length ≤ 9000) :
    Wp Try.prog (callL Try.prog pr) 161 l45_16 T D H' (loopQ (fun T D H' => ∃ m' < m, PutI H w cv cs1 tot beg p pol m' T D H') R) := by
  obtain ⟨i, cv1, rfl, hi, rfl, hw1, hf1, ha1, t0, t2, t4, t42, t43, t44, t8, t9⟩ := h
  have hlo := np.lo
  have hhi := np.hi
  have hlt : i < p.data.length := by omega
  have hlt' : (i : Int) < p.data.length := by omega
  obtain ⟨q, hq⟩ : ∃ q, q = p.at_.toNat + i := ⟨_, rfl⟩
  have hqi : p.at_ + (i : Int) = (q : Int) := by omega
  have hpl := putC_len pol p cs1 i
  have hql : q < (putC pol p cs1 i).length := by omega
  have hix := fun kk => hw1.own.idx (P := Try.prog) s84 rfl (kk := kk) (j := (q : Int)) (by omega)
  have hrw := hw1.own.row (by omega)
  have hrt := getRow_of hw1.row
  have hce := hw1.own.cell
  have hca := putC_at pol p cs1 i q (by omega)
  have l0 := lq_cell0 (w := 3) (P := Try.prog) (E := celE) g4 rfl hql
  have l1 := lq_cell (w := 3) (P := Try.prog) (E := celE) (j := 1) g5 rfl hql (by decide)
  have l2 := lq_cell (w := 3) (P := Try.prog) (E := celE) (j := 2) g3 rfl hql (by decide)
  rw [hca] at l0 l1 l2
  obtain ⟨c, hc⟩ : ∃ c, celE.at cs1 q = c := ⟨_, rfl⟩
  obtain ⟨y, hyb⟩ : ∃ y, byE.at p.data i = y := ⟨_, rfl⟩
  have lb := fun H => ldB (H := H) hlt
  rw [hyb] at lb
  rw [hc] at l0 l1 l2 hca
  have hn1 := any_next (fun i => newC (byE.at p.data i) (celE.at cs1 (p.at_.toNat + i))) i
  have hd1 := any_next (fun i => difC (byE.at p.data i) (celE.at cs1 (p.at_.toNat + i))) i
  change anyN p cs1 (i + 1) = (anyN p cs1 i || newC _ _) at hn1
  change anyD p cs1 (i + 1) = (anyD p cs1 i || difC _ _) at hd1
  rw [← hq, hc, hyb] at hn1 hd1
  have hp1 : putC pol p cs1 (i + 1) = (putC pol p cs1 i).set q (cellP pol p.at_ y c) := by rw [putC, ← hq, hc, hyb]
  have hfl : q * 3 + 3 ≤ (flatE celE (putC pol p cs1 i)).length := by rw [flatE_len]; show _ ≤ (putC pol p cs1 i).length * 3; omega
  have hsa : setAt (flatE celE (putC pol p cs1 i)) (q * 3) [.bool true, .int .u8 y.toNat, .int .i64 p.at_] = flatE celE ((putC pol p cs1 i).set q ⟨true, y, p.at_⟩) := flatE_setE (E := celE) (a := ⟨true, y, p.at_⟩) hql
  have hslf : (putC pol p cs1 i).set q c = putC pol p cs1 i := by rw [← hca]; exact set_self celE
  have hat := hw1.own.at_ (by omega)
  have hwset : Wm (H'.set (vid cv1) (.row (vgen cv1) (flatE celE ((putC pol p cs1 i).set q ⟨true, y, p.at_⟩)) true)) w cv1 ((putC pol p cs1 i).set q ⟨true, y, p.at_⟩) tot beg := ⟨by rw [List.getElem?_set_ne (fun e => hw1.sep (by rw [← e]; exact hat))]; exact hw1.row, hw1.own.set (by omega) (by simp), hw1.sep⟩
  have hfset : Fram H (H'.set (vid cv1) (.row (vgen cv1) (flatE celE ((putC pol p cs1 i).set q ⟨true, y, p.at_⟩)) true)) w cv := by
    refine ⟨by simpa using hf1.1, fun j hj hne hna => ?_⟩
    rw [List.getElem?_set_ne (fun e => ?_), hf1.2 j hj hne hna]
    rcases ha1 _ hat with h | h
    · exact hna (by rw [← e]; exact h)
    · omega
  have hun : ∀ x, x = cellP pol p.at_ y c → putC pol p cs1 (i + 1) = (putC pol p cs1 i).set q x := fun x e => by rw [e]; exact hp1
  unfold newC at hn1
  unfold difC at hd1
  unfold PutI
  clear hp1 hca hc hyb hpl hq
  obtain ⟨d1, hd1e⟩ : ∃ d, decide (pol = 1) = d := ⟨_, rfl⟩
  obtain ⟨d2, hd2e⟩ : ∃ d, decide (pol = 2) = d := ⟨_, rfl⟩
  have hcp : cellP pol p.at_ y c = if ((c.is && decide (c.b = y)) && (!d2 || decide (c.beg ≤ p.at_))) = true then c else if ((!c.is || d1) || (d2 && decide (p.at_ < c.beg))) = true then ⟨true, y, p.at_⟩ else c := by unfold cellP keepB takeB; rw [hd1e, hd2e]
  simp (disch := first | rfl | omega | exact byE_w | exact inE_w | exact boE_w | exact stE_w | exact pcE_w | exact celE_w | exact lt_new _ | assumption | (simp only [List.length_append, List.length_singleton, List.length_set, List.length_take, List.length_drop, List.length_map]; done) | (simp only [List.length_append, List.length_singleton, List.length_set, List.length_take, List.length_drop, List.length_map]; omega)) only [l45_16, r45_6, r45_7, r45_8, r45_9, r45_10, r45_11, r45_12, r45_13, r45_14, r45_15, loadV_ptr, storeV_ptr, getRow_app', getRow_setS, getRow_setO, getRow_lastN, set_lastN, set_app, List.set_set, bl_nil, bl_all, getRow_bl, set_bl, u8_ne, decide_not, ↓reduceIte, go_sem, Nat.add_zero, Nat.zero_add, Nat.sub_zero, List.drop_zero, Nat.reduceLT, Nat.reduceEqDiff, Nat.reduceAdd, Nat.reduceMul, Nat.reduceSub, Int.reduceAdd, Int.reduceSub, Nat.reduceLeDiff, Int.reduceLT, Int.reduceLE, Int.reduceEq, Int.reduceNeg, Int.reduceToNat, IntWalk.i64_in, Bool.or_self, Bool.or_false, Bool.or_true, Bool.and_false, Bool.and_true, Bool.false_or, Bool.true_or, Bool.false_eq_true, Bool.true_eq_false, *]
  repeat' ((first | refine guardB_dec (fun hy => ?_) (fun hy => ?_) | refine guardB_bool (fun hy => ?_) (fun hy => ?_) | refine guardQ_ite (fun hy => ?_) (fun hy => ?_) | refine brQ_dec (fun hy => ?_) (fun hy => ?_) | refine brQ_bool (fun hy => ?_) (fun hy => ?_)) <;> (try simp only [Bool.not_eq_true', Bool.not_eq_false', Bool.and_eq_true, Bool.or_eq_false_iff, decide_eq_true_eq, decide_eq_false_iff_not] at hy) <;> simp (disch := first | rfl | omega | exact byE_w | exact inE_w | exact boE_w | exact stE_w | exact pcE_w | exact celE_w | exact lt_new _ | assumption | (simp only [List.length_append, List.length_singleton, List.length_set, List.length_take, List.length_drop, List.length_map]; done) | (simp only [List.length_append, List.length_singleton, List.length_set, List.length_take, List.length_drop, List.length_map]; omega)) only [l45_16, r45_6, r45_7, r45_8, r45_9, r45_10, r45_11, r45_12, r45_13, r45_14, r45_15, loadV_ptr, storeV_ptr, getRow_app', getRow_setS, getRow_setO, getRow_lastN, set_lastN, set_app, List.set_set, bl_nil, bl_all, getRow_bl, set_bl, u8_ne, decide_not, ↓reduceIte, go_sem, Nat.add_zero, Nat.zero_add, Nat.sub_zero, List.drop_zero, Nat.reduceLT, Nat.reduceEqDiff, Nat.reduceAdd, Nat.reduceMul, Nat.reduceSub, Int.reduceAdd, Int.reduceSub, Nat.reduceLeDiff, Int.reduceLT, Int.reduceLE, Int.reduceEq, Int.reduceNeg, Int.reduceToNat, IntWalk.i64_in, Bool.or_self, Bool.or_false, Bool.or_true, Bool.and_false, Bool.and_true, Bool.false_or, Bool.true_or, Bool.false_eq_true, Bool.true_eq_false, *])
  all_goals (try (exfalso; omega))
  all_goals
    refine ⟨_, by omega, i + 1, cv1, rfl, hlt, ?_, ?_, rfl, ?_, ?_⟩
    · first | (rw [hun c (by rw [hcp]; simp [*]), hslf]; exact hw1) | (rw [hun ⟨true, y, p.at_⟩ (by rw [hcp]; simp [*])]; exact hwset)
    · first | exact ha1 | exact fun j h => ha1 j h | exact fun _ _ => trivial
    · rw [hn1]; simp [*]
    · rw [hd1]; simp [*]
def endB (tot : Int) (p : Pc) : Bool := !p.more && decide (tot < 0)
set_option maxHeartbeats 2000000 in
theorem fn45 {H : Hp} {w : Nat} {cv : V} {cs : List Cl} {tot beg : Int} {p : Pc} (hw : Wm H w cv cs tot beg) (np : Near p) (hb : cs.length ≤ 4000) (pol : Int) :
    ∃ H' cv', callL Try.prog pr 45 [.ptr w 0 0, .agg (pcE.f p), .int .i64 pol] H = some (.tup [.bool (anyN p (growC cs p) p.data.length || endB tot p), .bool (anyD p (growC cs p) p.data.length)], H') ∧ Wm H' w cv' (putC pol p (growC cs p) p.data.length) (if endB tot p = true then pcEnd p else tot) beg ∧ Fram H H' w cv ∧ ∀ j, At cv' j → At cv j ∨ H.length ≤ j := by
  have hlo := np.lo
  have hhi := np.hi
  have hwl := hw.lt
  suffices h : ∃ r, callL Try.prog pr 45 [.ptr w 0 0, .agg (pcE.f p), .int .i64 pol] H = some r ∧ ∃ H' cv', r = (.tup [.bool (anyN p (growC cs p) p.data.length || endB tot p), .bool (anyD p (growC cs p) p.data.length)], H') ∧ Wm H' w cv' (putC pol p (growC cs p) p.data.length) (if endB tot p = true then pcEnd p else tot) beg ∧ Fram H H' w cv ∧ ∀ j, At cv' j → At cv j ∨ H.length ≤ j by
    obtain ⟨r, h1, H', cv', rfl, h2⟩ := h
    exact ⟨H', cv', h1, h2⟩
  refine ex45 (Nat.le_of_ble_eq_true rfl) ?_
  simp (disch := first | rfl | omega | exact byE_w | exact inE_w | exact boE_w | exact stE_w | exact pcE_w | exact celE_w | exact lt_new _ | assumption | (simp only [List.length_append, List.length_singleton, List.length_set, List.length_take, List.length_drop, List.length_map]; done) | (simp only [List.length_append, List.length_singleton, List.length_set, List.length_take, List.length_drop, List.length_map]; omega)) only [r45_0, r45_1, r45_2, r45_3, r45_5, r45_6, r45_7, r45_8, r45_9, r45_10, r45_11, r45_12, r45_13, r45_14, r45_15, r45_17, r45_18, r45_19, r45_20, c45, rs45, gc45, ↓reduceIte, go_sem, Nat.add_zero, Nat.zero_add, Nat.sub_zero, List.drop_zero, Nat.reduceLT, Nat.reduceEqDiff, Nat.reduceAdd, Nat.reduceMul, Nat.reduceSub, Int.reduceAdd, Int.reduceSub, Nat.reduceLeDiff, Int.reduceLT, Int.reduceLE, Int.reduceEq, Int.reduceNeg, Int.reduceToNat, IntWalk.i64_in, Bool.or_self, Bool.or_false, Bool.or_true, Bool.and_false, Bool.and_true, Bool.false_or, Bool.true_or, Bool.false_eq_true, Bool.true_eq_false]
  refine Wp_loop (fun m T D H' => ∃ k cv', m = 9000 - k ∧ k ≤ 9000 ∧ (k = 0 ∨ (0 < p.data.length ∧ cs.length + k ≤ (pcEnd p).toNat)) ∧ D = [] ∧ Wm H' w cv' (cs ++ List.replicate k zCl) tot beg ∧ Fram H H' w cv ∧ (∀ j, At cv' j → At cv j ∨ H.length ≤ j) ∧ get T 0 = .ptr w 0 0 ∧ get T 2 = .int .i64 pol ∧ get T 4 = .ipt (pcE.f p) 0 ∧ get T 8 = .bool false ∧ get T 9 = .bool false) ?_ 9000 _ _ _ ?_
  · rintro m T D H' ⟨k, cv1, rfl, hk, hk2, rfl, hw1, hf1, ha1, t0, t2, t4, t8, t9⟩
    have hr := getRow_of hw1.row
    have hln := fun H' => hw1.own.len (P := Try.prog) s84 H'
    have hce := hw1.own.cell
    have hpe : pcEnd p = p.at_ + p.data.length := rfl
    have hl1 : (cs ++ List.replicate k zCl).length = cs.length + k := by simp
    rw [hl1] at hln
    by_cases hgo : cs.length + k < (pcEnd p).toNat ∧ 0 < p.data.length
    · have hgo1 : ((cs.length + k : Nat) : Int) < p.at_ + p.data.length := by omega
      have hgo2 : (0 : Int) < p.data.length := by omega
      obtain ⟨cv2, H1, g1, g2, g3, g4, g5, g6, g7⟩ := hw1.grow (by rw [hl1]; omega)
      have g1' : appOf 3 16 H' cv1 (.isl [.bool false, .int .u8 0, .int .i64 0] 1 3) = some (cv2, H1) := g1
      simp (disch := first | rfl | omega | exact byE_w | exact inE_w | exact boE_w | exact stE_w | exact pcE_w | exact celE_w | exact lt_new _ | assumption | (simp only [List.length_append, List.length_singleton, List.length_set, List.length_take, List.length_drop, List.length_map]; done) | (simp only [List.length_append, List.length_singleton, List.length_set, List.length_take, List.length_drop, List.length_map]; omega)) only [l45_4, r45_2, r45_3, loadV_ptr, storeV_ptr, getRow_app', getRow_setS, getRow_setO, getRow_lastN, set_lastN, set_app, List.set_set, bl_nil, bl_all, getRow_bl, set_bl, ↓reduceIte, go_sem, Nat.add_zero, Nat.zero_add, Nat.sub_zero, List.drop_zero, Nat.reduceLT, Nat.reduceEqDiff, Nat.reduceAdd, Nat.reduceMul, Nat.reduceSub, Int.reduceAdd, Int.reduceSub, Nat.reduceLeDiff, Int.reduceLT, Int.reduceLE, Int.reduceEq, Int.reduceNeg, Int.reduceToNat, IntWalk.i64_in, Bool.or_self, Bool.or_false, Bool.or_true, Bool.and_false, Bool.and_true, Bool.false_or, Bool.true_or, Bool.false_eq_true, Bool.true_eq_false, *]
      repeat' ((first | refine guardB_dec (fun hy => ?_) (fun hy => ?_) | refine guardB_bool (fun hy => ?_) (fun hy => ?_) | refine guardQ_ite (fun hy => ?_) (fun hy => ?_) | refine brQ_dec (fun hy => ?_) (fun hy => ?_) | refine brQ_bool (fun hy => ?_) (fun hy => ?_)) <;> (try simp only [Bool.not_eq_true', Bool.not_eq_false', Bool.and_eq_true, Bool.or_eq_false_iff, decide_eq_true_eq, decide_eq_false_iff_not] at hy) <;> simp (disch := first | rfl | omega | exact byE_w | exact inE_w | exact boE_w | exact stE_w | exact pcE_w | exact celE_w | exact lt_new _ | assumption | (simp only [List.length_append, List.length_singleton, List.length_set, List.length_take, List.length_drop, List.length_map]; done) | (simp only [List.length_append, List.length_singleton, List.length_set, List.length_take, List.length_drop, List.length_map]; omega)) only [l45_4, r45_2, r45_3, loadV_ptr, storeV_ptr, getRow_app', getRow_setS, getRow_setO, getRow_lastN, set_lastN, set_app, List.set_set, bl_nil, bl_all, getRow_bl, set_bl, ↓reduceIte, go_sem, Nat.add_zero, Nat.zero_add, Nat.sub_zero, List.drop_zero, Nat.reduceLT, Nat.reduceEqDiff, Nat.reduceAdd, Nat.reduceMul, Nat.reduceSub, Int.reduceAdd, Int.reduceSub, Nat.reduceLeDiff, Int.reduceLT, Int.reduceLE, Int.reduceEq, Int.reduceNeg, Int.reduceToNat, IntWalk.i64_in, Bool.or_self, Bool.or_false, Bool.or_true, Bool.and_false, Bool.and_true, Bool.false_or, Bool.true_or, Bool.false_eq_true, Bool.true_eq_false, *])
      refine ⟨_, by omega, k + 1, cv2, rfl, by omega, by omega, ?_, hf1.trans g4 ha1, fun j hj => ?_⟩
      · rw [List.append_assoc, ← List.replicate_succ'] at g3
        exact g3
      · rcases g7 j hj with h | h
        · exact ha1 j h
        · have := hf1.1; exact .inr (by omega)
    · have hcs : cs ++ List.replicate k zCl = growC cs p := by
        unfold growC
        split
        · rcases hk2 with rfl | hk2
          · rw [show (pcEnd p).toNat - cs.length = 0 by omega]
          · rw [show (pcEnd p).toNat - cs.length = k by omega]
        · obtain rfl : k = 0 := by omega
          simp
      rw [hcs] at hw1
      have hgl := grow_len cs p np
      have hcc : ¬ ((cs.length + k : Nat) : Int) < p.at_ + p.data.length ∨ (p.data.length : Int) = 0 := by omega
      have hcc : decide (((cs.length + k : Nat) : Int) < p.at_ + p.data.length) = false ∨ decide ((0 : Int) < p.data.length) = false := by
        rcases hcc with h | h
        · exact .inl (decide_eq_false h)
        · exact .inr (decide_eq_false (by omega))
      rcases hcc with hcc | hcc
      all_goals
        simp (disch := first | rfl | omega | exact byE_w | exact inE_w | exact boE_w | exact stE_w | exact pcE_w | exact celE_w | exact lt_new _ | assumption | (simp only [List.length_append, List.length_singleton, List.length_set, List.length_take, List.length_drop, List.length_map]; done) | (simp only [List.length_append, List.length_singleton, List.length_set, List.length_take, List.length_drop, List.length_map]; omega)) only [l45_4, r45_2, r45_3, r45_5, loadV_ptr, storeV_ptr, getRow_app', getRow_setS, getRow_setO, getRow_lastN, set_lastN, set_app, List.set_set, bl_nil, bl_all, getRow_bl, set_bl, t0, t2, t4, t8, t9, hr, hln, hce, hcc, ↓reduceIte, go_sem, Nat.add_zero, Nat.zero_add, Nat.sub_zero, List.drop_zero, Nat.reduceLT, Nat.reduceEqDiff, Nat.reduceAdd, Nat.reduceMul, Nat.reduceSub, Int.reduceAdd, Int.reduceSub, Nat.reduceLeDiff, Int.reduceLT, Int.reduceLE, Int.reduceEq, Int.reduceNeg, Int.reduceToNat, IntWalk.i64_in, Bool.or_self, Bool.or_false, Bool.or_true, Bool.and_false, Bool.and_true, Bool.false_or, Bool.true_or, Bool.false_eq_true, Bool.true_eq_false]
        repeat' ((first | refine guardB_dec (fun hy => ?_) (fun hy => ?_) | refine guardB_bool (fun hy => ?_) (fun hy => ?_) | refine guardQ_ite (fun hy => ?_) (fun hy => ?_) | refine brQ_dec (fun hy => ?_) (fun hy => ?_) | refine brQ_bool (fun hy => ?_) (fun hy => ?_)) <;> (try simp only [Bool.not_eq_true', Bool.not_eq_false', Bool.and_eq_true, Bool.or_eq_false_iff, decide_eq_true_eq, decide_eq_false_iff_not] at hy) <;> simp (disch := first | rfl | omega | exact byE_w | exact inE_w | exact boE_w | exact stE_w | exact pcE_w | exact celE_w | exact lt_new _ | assumption | (simp only [List.length_append, List.length_singleton, List.length_set, List.length_take, List.length_drop, List.length_map]; done) | (simp only [List.length_append, List.length_singleton, List.length_set, List.length_take, List.length_drop, List.length_map]; omega)) only [l45_4, r45_2, r45_3, r45_5, loadV_ptr, storeV_ptr, getRow_app', getRow_setS, getRow_setO, getRow_lastN, set_lastN, set_app, List.set_set, bl_nil, bl_all, getRow_bl, set_bl, t0, t2, t4, t8, t9, hr, hln, hce, hcc, ↓reduceIte, go_sem, Nat.add_zero, Nat.zero_add, Nat.sub_zero, List.drop_zero, Nat.reduceLT, Nat.reduceEqDiff, Nat.reduceAdd, Nat.reduceMul, Nat.reduceSub, Int.reduceAdd, Int.reduceSub, Nat.reduceLeDiff, Int.reduceLT, Int.reduceLE, Int.reduceEq, Int.reduceNeg, Int.reduceToNat, IntWalk.i64_in, Bool.or_self, Bool.or_false, Bool.or_true, Bool.and_false, Bool.and_true, Bool.false_or, Bool.true_or, Bool.false_eq_true, Bool.true_eq_false, hy])
      all_goals
        refine Wp_loop (PutI H w cv (growC cs p) tot beg p pol) ?_ p.data.length _ _ _ ?_
        · clear hln hce hr hw1 hf1 ha1 t0 t2 t4 t8 t9 hcc
          intro m T D H' hI
          by_cases hm : 0 < m
          · have hml : m ≤ p.data.length := by obtain ⟨i, _, e, _⟩ := hI; omega
            rw [if_pos (by omega)] at hgl
            exact put_step hI hm np (by omega) (by omega)
          · obtain ⟨i, cv1, rfl, hi, rfl, hw1, hf1, ha1, t0, t2, t4, t42, t43, t44, t8, t9⟩ := hI
            obtain rfl : i = p.data.length := by omega
            have hr := getRow_of hw1.row
            have hce := hw1.own.cell
            simp (disch := first | rfl | omega | exact byE_w | exact inE_w | exact boE_w | exact stE_w | exact pcE_w | exact celE_w | exact lt_new _ | assumption | (simp only [List.length_append, List.length_singleton, List.length_set, List.length_take, List.length_drop, List.length_map]; done) | (simp only [List.length_append, List.length_singleton, List.length_set, List.length_take, List.length_drop, List.length_map]; omega)) only [l45_16, r45_6, r45_17, r45_18, r45_19, r45_20, rs45, loadV_ptr, storeV_ptr, getRow_app', getRow_setS, getRow_setO, getRow_lastN, set_lastN, set_app, List.set_set, bl_nil, bl_all, getRow_bl, set_bl, Int.lt_irrefl, decide_false, t0, t2, t4, t42, t43, t44, t8, t9, hr, hce, ↓reduceIte, go_sem, Nat.add_zero, Nat.zero_add, Nat.sub_zero, List.drop_zero, Nat.reduceLT, Nat.reduceEqDiff, Nat.reduceAdd, Nat.reduceMul, Nat.reduceSub, Int.reduceAdd, Int.reduceSub, Nat.reduceLeDiff, Int.reduceLT, Int.reduceLE, Int.reduceEq, Int.reduceNeg, Int.reduceToNat, IntWalk.i64_in, Bool.or_self, Bool.or_false, Bool.or_true, Bool.and_false, Bool.and_true, Bool.false_or, Bool.true_or, Bool.false_eq_true, Bool.true_eq_false]
            repeat' ((first | refine guardB_dec (fun hy => ?_) (fun hy => ?_) | refine guardB_bool (fun hy => ?_) (fun hy => ?_) | refine guardQ_ite (fun hy => ?_) (fun hy => ?_) | refine brQ_dec (fun hy => ?_) (fun hy => ?_) | refine brQ_bool (fun hy => ?_) (fun hy => ?_)) <;> (try simp only [Bool.not_eq_true', Bool.not_eq_false', Bool.and_eq_true, Bool.or_eq_false_iff, decide_eq_true_eq, decide_eq_false_iff_not] at hy) <;> simp (disch := first | rfl | omega | exact byE_w | exact inE_w | exact boE_w | exact stE_w | exact pcE_w | exact celE_w | exact lt_new _ | assumption | (simp only [List.length_append, List.length_singleton, List.length_set, List.length_take, List.length_drop, List.length_map]; done) | (simp only [List.length_append, List.length_singleton, List.length_set, List.length_take, List.length_drop, List.length_map]; omega)) only [l45_16, r45_6, r45_17, r45_18, r45_19, r45_20, rs45, loadV_ptr, storeV_ptr, getRow_app', getRow_setS, getRow_setO, getRow_lastN, set_lastN, set_app, List.set_set, bl_nil, bl_all, getRow_bl, set_bl, Int.lt_irrefl, decide_false, t0, t2, t4, t42, t43, t44, t8, t9, hr, hce, ↓reduceIte, go_sem, Nat.add_zero, Nat.zero_add, Nat.sub_zero, List.drop_zero, Nat.reduceLT, Nat.reduceEqDiff, Nat.reduceAdd, Nat.reduceMul, Nat.reduceSub, Int.reduceAdd, Int.reduceSub, Nat.reduceLeDiff, Int.reduceLT, Int.reduceLE, Int.reduceEq, Int.reduceNeg, Int.reduceToNat, IntWalk.i64_in, Bool.or_self, Bool.or_false, Bool.or_true, Bool.and_false, Bool.and_true, Bool.false_or, Bool.true_or, Bool.false_eq_true, Bool.true_eq_false, hy])
            · have he : endB tot p = true := by unfold endB; rw [decide_eq_true (by assumption)]; simp_all
              rw [he]
              refine ⟨_, cv1, by rw [Bool.or_true], ⟨by rw [List.getElem?_set_self hw1.lt]; rfl, hw1.own.frame fun j hj => by rw [List.getElem?_set_ne (fun e => hw1.sep (by rw [e]; exact hj))], hw1.sep⟩, ⟨by simpa using hf1.1, fun j hj hne hna => by rw [List.getElem?_set_ne (fun e => hne e.symm)]; exact hf1.2 j hj hne hna⟩, ha1⟩
            · have he : endB tot p = false := by unfold endB; rw [decide_eq_false (by assumption)]; simp
              rw [he]
              exact ⟨_, cv1, by rw [Bool.or_false], hw1, hf1, ha1⟩
            · have he : endB tot p = false := by unfold endB; simp_all
              rw [he]
              exact ⟨_, cv1, by rw [Bool.or_false], hw1, hf1, ha1⟩
        · refine ⟨0, cv1, by omega, by omega, rfl, hw1, hf1, ha1, ?_⟩
          simp [go_sem, t0, t2, t4, t8, t9, anyN, anyD, hcc]
  · exact ⟨0, cv, by simp [go_sem]; exact ⟨hw, Fram.refl H w cv, fun j h => .inl h⟩⟩
end Go.Proofs.Ytdpdlobaabcjjab
/-
  The bytes of a whole; the reference's table: its wholes, found and let go. No statement of the seat stands here.
-/
namespace Go.Proofs.Ytdpdlobaabcjjab
open Go Go.An
set_option maxRecDepth 4000
set_option linter.unusedSimpArgs false
set_option linter.unusedVariables false

def allM (l : List Pc) (pol : Int) (n : Nat) : Bool := (List.range n).all fun k => (atB l pol (k : Nat)).isSome
def bytM (l : List Pc) (pol : Int) (n : Nat) : List UInt8 := (List.range n).map fun k => (atB l pol (k : Nat)).getD 0
theorem bytM_next (l : List Pc) (pol : Int) (n : Nat) {b : UInt8} (h : atB l pol (n : Nat) = some b) : bytM l pol (n + 1) = bytM l pol n ++ [b] := by
  unfold bytM
  rw [List.range_succ, List.map_append]
  simp [h]
theorem bytM_len (l : List Pc) (pol : Int) (n : Nat) : (bytM l pol n).length = n := by
  unfold bytM; simp
def resB (l : List Pc) (pol : Int) : List UInt8 × Bool := if allM l pol (toldM l).toNat = true then (bytM l pol (toldM l).toNat, decide (0 ≤ toldM l)) else ([], false)
theorem allM_not (l : List Pc) (pol : Int) {n i : Nat} (h : i < n) (h2 : atB l pol (i : Nat) = none) : allM l pol n = false := by
  unfold allM
  rw [List.all_eq_false]
  exact ⟨i, List.mem_range.2 h, by rw [h2]; simp⟩
theorem fn63L {l : List Pc} {s : V} {H : Hp} (hs : Lst H s l) (pol : Int) (hn : ∀ p ∈ l, Near p) (hlen : l.length ≤ 1000) (ht : toldM l ≤ 4000) : callL Try.prog pr 63 [s, .int .i64 pol] H = some (.tup [slV true byE (resB l pol).1, .bool (resB l pol).2], H) := by
  have h62 := fn62L hs hn hlen
  refine run63 (Nat.le_of_ble_eq_true rfl) ?_
  simp (disch := first | rfl | omega | exact byE_w | exact inE_w | exact boE_w | exact stE_w | exact pcE_w | exact whE_w | exact lt_new _ | assumption | (simp only [List.length_append, List.length_singleton, List.length_set, List.length_take, List.length_drop, List.length_map]; done) | (simp only [List.length_append, List.length_singleton, List.length_set, List.length_take, List.length_drop, List.length_map]; omega)) only [r63_0, r63_1, r63_2, r63_3, r63_4, r63_5, r63_6, r63_7, r63_8, r63_9, r63_11, c63, rs63, gc63, ↓reduceIte, go_sem, Nat.add_zero, Nat.zero_add, Nat.sub_zero, List.drop_zero, Nat.reduceLT, Nat.reduceEqDiff, Nat.reduceAdd, Nat.reduceMul, Nat.reduceSub, Int.reduceAdd, Int.reduceSub, Nat.reduceLeDiff, Int.reduceLT, Int.reduceLE, Int.reduceEq, Int.reduceNeg, Int.reduceToNat, IntWalk.i64_in, Bool.or_self, Bool.or_false, Bool.or_true, Bool.and_false, Bool.and_true, Bool.false_or, Bool.true_or, Bool.false_eq_true, Bool.true_eq_false, h62]
  refine Wp_loop (fun m T D H' => ∃ i g, m = (toldM l).toNat - i ∧ i ≤ (toldM l).toNat ∧ D = [] ∧ H' = H ++ blH g ((bytM l pol i).map byE.f) ∧ get T 0 = s ∧ get T 1 = .int .i64 pol ∧ get T 6 = .int .i64 (toldM l) ∧ get T 8 = .int .i64 i ∧ get T 7 = blV H.length g 1 ((bytM l pol i).map byE.f) ∧ allM l pol i = true) ?_ (toldM l).toNat _ _ _ ?_
  · rintro m T D H' ⟨i, g, rfl, hi, rfl, rfl, t0, t1, t6, t8, t7, hall⟩
    have h75 := fn75L (hs.app (blH g ((bytM l pol i).map byE.f))) pol (i : Nat) hn hlen
    by_cases hlt : i < (toldM l).toNat
    · have hlt' : (i : Int) < toldM l := by omega
      have hl := bytM_len l pol i
      have hal := all_next (fun k => (atB l pol (k : Nat)).isSome) i
      change allM l pol (i + 1) = (allM l pol i && _) at hal
      cases ho : atB l pol (i : Nat) with
      | none =>
        have hno := allM_not l pol hlt ho
        simp only [ho, numB, Option.isSome_none] at h75
        simp (disch := first | rfl | omega | exact byE_w | exact inE_w | exact boE_w | exact stE_w | exact pcE_w | exact whE_w | exact lt_new _ | assumption | (simp only [List.length_append, List.length_singleton, List.length_set, List.length_take, List.length_drop, List.length_map]; done) | (simp only [List.length_append, List.length_singleton, List.length_set, List.length_take, List.length_drop, List.length_map]; omega)) only [r63_0, r63_1, r63_2, r63_3, r63_4, r63_5, r63_6, r63_7, r63_8, r63_9, l63_10, r63_11, c63, rs63, gc63, h75, t0, t1, t6, t8, t7, hlt', decide_true, ↓reduceIte, go_sem, Nat.add_zero, Nat.zero_add, Nat.sub_zero, List.drop_zero, Nat.reduceLT, Nat.reduceEqDiff, Nat.reduceAdd, Nat.reduceMul, Nat.reduceSub, Int.reduceAdd, Int.reduceSub, Nat.reduceLeDiff, Int.reduceLT, Int.reduceLE, Int.reduceEq, Int.reduceNeg, Int.reduceToNat, IntWalk.i64_in, Bool.or_self, Bool.or_false, Bool.or_true, Bool.and_false, Bool.and_true, Bool.false_or, Bool.true_or, Bool.false_eq_true, Bool.true_eq_false]
        repeat' ((first | refine guardB_dec (fun hy => ?_) (fun hy => ?_) | refine guardB_bool (fun hy => ?_) (fun hy => ?_) | refine guardQ_ite (fun hy => ?_) (fun hy => ?_) | refine brQ_dec (fun hy => ?_) (fun hy => ?_) | refine brQ_bool (fun hy => ?_) (fun hy => ?_)) <;> (try simp only [Bool.not_eq_true', Bool.not_eq_false', Bool.and_eq_true, Bool.or_eq_false_iff, decide_eq_true_eq, decide_eq_false_iff_not] at hy) <;> simp (disch := first | rfl | omega | exact byE_w | exact inE_w | exact boE_w | exact stE_w | exact pcE_w | exact whE_w | exact lt_new _ | assumption | (simp only [List.length_append, List.length_singleton, List.length_set, List.length_take, List.length_drop, List.length_map]; done) | (simp only [List.length_append, List.length_singleton, List.length_set, List.length_take, List.length_drop, List.length_map]; omega)) only [r63_0, r63_1, r63_2, r63_3, r63_4, r63_5, r63_6, r63_7, r63_8, r63_9, l63_10, r63_11, c63, rs63, gc63, h75, t0, t1, t6, t8, t7, hlt', decide_true, ↓reduceIte, go_sem, Nat.add_zero, Nat.zero_add, Nat.sub_zero, List.drop_zero, Nat.reduceLT, Nat.reduceEqDiff, Nat.reduceAdd, Nat.reduceMul, Nat.reduceSub, Int.reduceAdd, Int.reduceSub, Nat.reduceLeDiff, Int.reduceLT, Int.reduceLE, Int.reduceEq, Int.reduceNeg, Int.reduceToNat, IntWalk.i64_in, Bool.or_self, Bool.or_false, Bool.or_true, Bool.and_false, Bool.and_true, Bool.false_or, Bool.true_or, Bool.false_eq_true, Bool.true_eq_false, hy])
        refine finQ_app ?_
        unfold resB
        rw [if_neg (by simp [hno])]
        simp only [↓reduceIte, go_sem, Nat.add_zero, Nat.zero_add, Nat.sub_zero, List.drop_zero, Nat.reduceLT, Nat.reduceEqDiff, Nat.reduceAdd, Nat.reduceMul, Nat.reduceSub, Int.reduceAdd, Int.reduceSub, Nat.reduceLeDiff, Int.reduceLT, Int.reduceLE, Int.reduceEq, Int.reduceNeg, Int.reduceToNat, IntWalk.i64_in, Bool.or_self, Bool.or_false, Bool.or_true, Bool.and_false, Bool.and_true, Bool.false_or, Bool.true_or, Bool.false_eq_true, Bool.true_eq_false, slV_nil]
      | some y =>
        have hbn := bytM_next l pol i ho
        have hp := bl_one (H := H) (n := H.length) (g := g) (w := 1) (by_ := 1) byE (bytM l pol i) y rfl rfl (by omega) (by omega)
        rw [byE_f] at hp
        simp only [ho, numB, Option.isSome_some] at h75
        simp (disch := first | rfl | omega | exact byE_w | exact inE_w | exact boE_w | exact stE_w | exact pcE_w | exact whE_w | exact lt_new _ | assumption | (simp only [List.length_append, List.length_singleton, List.length_set, List.length_take, List.length_drop, List.length_map]; done) | (simp only [List.length_append, List.length_singleton, List.length_set, List.length_take, List.length_drop, List.length_map]; omega)) only [r63_0, r63_1, r63_2, r63_3, r63_4, r63_5, r63_6, r63_7, r63_8, r63_9, l63_10, r63_11, c63, rs63, gc63, h75, t0, t1, t6, t8, t7, hlt', decide_true, hp, ↓reduceIte, go_sem, Nat.add_zero, Nat.zero_add, Nat.sub_zero, List.drop_zero, Nat.reduceLT, Nat.reduceEqDiff, Nat.reduceAdd, Nat.reduceMul, Nat.reduceSub, Int.reduceAdd, Int.reduceSub, Nat.reduceLeDiff, Int.reduceLT, Int.reduceLE, Int.reduceEq, Int.reduceNeg, Int.reduceToNat, IntWalk.i64_in, Bool.or_self, Bool.or_false, Bool.or_true, Bool.and_false, Bool.and_true, Bool.false_or, Bool.true_or, Bool.false_eq_true, Bool.true_eq_false]
        repeat' ((first | refine guardB_dec (fun hy => ?_) (fun hy => ?_) | refine guardB_bool (fun hy => ?_) (fun hy => ?_) | refine guardQ_ite (fun hy => ?_) (fun hy => ?_) | refine brQ_dec (fun hy => ?_) (fun hy => ?_) | refine brQ_bool (fun hy => ?_) (fun hy => ?_)) <;> (try simp only [Bool.not_eq_true', Bool.not_eq_false', Bool.and_eq_true, Bool.or_eq_false_iff, decide_eq_true_eq, decide_eq_false_iff_not] at hy) <;> simp (disch := first | rfl | omega | exact byE_w | exact inE_w | exact boE_w | exact stE_w | exact pcE_w | exact whE_w | exact lt_new _ | assumption | (simp only [List.length_append, List.length_singleton, List.length_set, List.length_take, List.length_drop, List.length_map]; done) | (simp only [List.length_append, List.length_singleton, List.length_set, List.length_take, List.length_drop, List.length_map]; omega)) only [r63_0, r63_1, r63_2, r63_3, r63_4, r63_5, r63_6, r63_7, r63_8, r63_9, l63_10, r63_11, c63, rs63, gc63, h75, t0, t1, t6, t8, t7, hlt', decide_true, hp, ↓reduceIte, go_sem, Nat.add_zero, Nat.zero_add, Nat.sub_zero, List.drop_zero, Nat.reduceLT, Nat.reduceEqDiff, Nat.reduceAdd, Nat.reduceMul, Nat.reduceSub, Int.reduceAdd, Int.reduceSub, Nat.reduceLeDiff, Int.reduceLT, Int.reduceLE, Int.reduceEq, Int.reduceNeg, Int.reduceToNat, IntWalk.i64_in, Bool.or_self, Bool.or_false, Bool.or_true, Bool.and_false, Bool.and_true, Bool.false_or, Bool.true_or, Bool.false_eq_true, Bool.true_eq_false, hy])
        exact ⟨_, by omega, i + 1, _, rfl, hlt, by rw [hbn], rfl, by rw [hbn], by rw [hal, hall, ho]; rfl⟩
    · have hi' : i = (toldM l).toNat := by omega
      have hlt' : ¬ (i : Int) < toldM l := by omega
      simp (disch := first | rfl | omega | exact byE_w | exact inE_w | exact boE_w | exact stE_w | exact pcE_w | exact whE_w | exact lt_new _ | assumption | (simp only [List.length_append, List.length_singleton, List.length_set, List.length_take, List.length_drop, List.length_map]; done) | (simp only [List.length_append, List.length_singleton, List.length_set, List.length_take, List.length_drop, List.length_map]; omega)) only [r63_0, r63_1, r63_2, r63_3, r63_4, r63_5, r63_6, r63_7, r63_8, r63_9, l63_10, r63_11, c63, rs63, gc63, t0, t1, t6, t8, t7, hlt', decide_false, ↓reduceIte, go_sem, Nat.add_zero, Nat.zero_add, Nat.sub_zero, List.drop_zero, Nat.reduceLT, Nat.reduceEqDiff, Nat.reduceAdd, Nat.reduceMul, Nat.reduceSub, Int.reduceAdd, Int.reduceSub, Nat.reduceLeDiff, Int.reduceLT, Int.reduceLE, Int.reduceEq, Int.reduceNeg, Int.reduceToNat, IntWalk.i64_in, Bool.or_self, Bool.or_false, Bool.or_true, Bool.and_false, Bool.and_true, Bool.false_or, Bool.true_or, Bool.false_eq_true, Bool.true_eq_false]
      repeat' ((first | refine guardB_dec (fun hy => ?_) (fun hy => ?_) | refine guardB_bool (fun hy => ?_) (fun hy => ?_) | refine guardQ_ite (fun hy => ?_) (fun hy => ?_) | refine brQ_dec (fun hy => ?_) (fun hy => ?_) | refine brQ_bool (fun hy => ?_) (fun hy => ?_)) <;> (try simp only [Bool.not_eq_true', Bool.not_eq_false', Bool.and_eq_true, Bool.or_eq_false_iff, decide_eq_true_eq, decide_eq_false_iff_not] at hy) <;> simp (disch := first | rfl | omega | exact byE_w | exact inE_w | exact boE_w | exact stE_w | exact pcE_w | exact whE_w | exact lt_new _ | assumption | (simp only [List.length_append, List.length_singleton, List.length_set, List.length_take, List.length_drop, List.length_map]; done) | (simp only [List.length_append, List.length_singleton, List.length_set, List.length_take, List.length_drop, List.length_map]; omega)) only [r63_0, r63_1, r63_2, r63_3, r63_4, r63_5, r63_6, r63_7, r63_8, r63_9, l63_10, r63_11, c63, rs63, gc63, t0, t1, t6, t8, t7, hlt', decide_false, ↓reduceIte, go_sem, Nat.add_zero, Nat.zero_add, Nat.sub_zero, List.drop_zero, Nat.reduceLT, Nat.reduceEqDiff, Nat.reduceAdd, Nat.reduceMul, Nat.reduceSub, Int.reduceAdd, Int.reduceSub, Nat.reduceLeDiff, Int.reduceLT, Int.reduceLE, Int.reduceEq, Int.reduceNeg, Int.reduceToNat, IntWalk.i64_in, Bool.or_self, Bool.or_false, Bool.or_true, Bool.and_false, Bool.and_true, Bool.false_or, Bool.true_or, Bool.false_eq_true, Bool.true_eq_false, hy])
      refine finQ_app ?_
      unfold resB
      rw [← hi', if_pos hall]
      simp only [↓reduceIte, go_sem, Nat.add_zero, Nat.zero_add, Nat.sub_zero, List.drop_zero, Nat.reduceLT, Nat.reduceEqDiff, Nat.reduceAdd, Nat.reduceMul, Nat.reduceSub, Int.reduceAdd, Int.reduceSub, Nat.reduceLeDiff, Int.reduceLT, Int.reduceLE, Int.reduceEq, Int.reduceNeg, Int.reduceToNat, IntWalk.i64_in, Bool.or_self, Bool.or_false, Bool.or_true, Bool.and_false, Bool.and_true, Bool.false_or, Bool.true_or, Bool.false_eq_true, Bool.true_eq_false, inlB_bl0 (H := H) (E := byE) (w := 1) rfl (Nat.le_refl _) rfl]
  · exact ⟨0, 0, by simp [go_sem, bytM, allM, blH_nil, blV_nil]⟩
theorem fn63 {b : Bool} {l : List Pc} (pol : Int) (hn : ∀ p ∈ l, Near p) (hlen : l.length ≤ 1000) (ht : toldM l ≤ 4000) (H : Hp) : callL Try.prog pr 63 [slV b pcE l, .int .i64 pol] H = some (.tup [slV true byE (resB l pol).1, .bool (resB l pol).2], H) := fn63L (.of H b l) pol hn hlen ht
/-- A whole of the reference. -/
structure Wh where
  id : Int
  nl : Bool
  l : List Pc
def whE : Enc Wh := ⟨fun w => [.int .i64 w.id, slV w.nl pcE w.l], 2, ⟨0, true, []⟩, fun _ => rfl, by decide, fun w => by simp only [immL, slV_imm]; rfl⟩
theorem whE_f (w : Wh) : whE.f w = [.int .i64 w.id, slV w.nl pcE w.l] := rfl
@[go_sem] theorem whE_w : whE.w = 2 := rfl
@[go_sem] theorem whE_l (p : Wh) : (whE.f p).length = 2 := rfl
@[go_sem] theorem whE_0 (p : Wh) : (whE.f p)[0]? = some (.int .i64 p.id) := rfl
@[go_sem] theorem whE_1 (p : Wh) : (whE.f p)[1]? = some (slV p.nl pcE p.l) := rfl
@[go_sem] theorem whE_t (p : Wh) : (whE.f p).take 2 = whE.f p := rfl
theorem ldW0 {l : List Wh} {i : Nat} {H : Hp} (h : i < l.length) : loadV Try.prog 3 H (.ipt (flatE whE l) (i * 2)) = some (.int .i64 (whE.at l i).id) := ld_cell0 g3 rfl h
theorem ldW1 {l : List Wh} {i : Nat} {H : Hp} (h : i < l.length) : loadV Try.prog 22 H (.ipt (flatE whE l) (i * 2 + 1)) = some (slV (whE.at l i).nl pcE (whE.at l i).l) := ld_cell (j := 1) g22 rfl h (by omega)
/-- The reference's table: its policy and its wholes. -/
abbrev tbC (pol : Int) (b : Bool) (ws : List Wh) : List V := [.int .i64 pol, slV b whE ws]
theorem gr_of {H : Hp} {tb g : Nat} {cs : List V} {o : Bool} (h : H[tb]? = some (.row g cs o)) : getRow H tb g = some (cs, o) := by simp [getRow, h]
theorem ld_row {H : Hp} {id g off : Nat} {cs : List V} {o : Bool} {t : TypeId} (h : H[id]? = some (.row g cs o)) : loadV Try.prog t H (.ptr id g off) = partV Try.prog t cs off := by
  rw [loadV_ptr, gr_of h]; rfl
def findW (ws : List Wh) (id : Int) : Int := findI (fun w => decide (w.id = id)) ws 0
theorem fn58 {tb : Nat} {pol id : Int} {b : Bool} {ws : List Wh} {H : Hp} (ht : H[tb]? = some (.row 0 (tbC pol b ws) true)) (hlen : ws.length ≤ 1000) : callL Try.prog pr 58 [.ptr tb 0 0, .int .i64 id] H = some (.int .i64 (findW ws id), H) := by
  have hr := fun t off => ld_row (t := t) (off := off) ht
  refine run58 (Nat.le_of_ble_eq_true rfl) ?_
  simp (disch := first | rfl | omega | exact byE_w | exact inE_w | exact boE_w | exact stE_w | exact pcE_w | exact whE_w | exact lt_new _ | assumption | (simp only [List.length_append, List.length_singleton, List.length_set, List.length_take, List.length_drop, List.length_map]; done) | (simp only [List.length_append, List.length_singleton, List.length_set, List.length_take, List.length_drop, List.length_map]; omega)) only [r58_0, r58_1, r58_2, r58_3, r58_4, r58_5, r58_7, c58, rs58, gc58, ↓reduceIte, go_sem, Nat.add_zero, Nat.zero_add, Nat.sub_zero, List.drop_zero, Nat.reduceLT, Nat.reduceEqDiff, Nat.reduceAdd, Nat.reduceMul, Nat.reduceSub, Int.reduceAdd, Int.reduceSub, Nat.reduceLeDiff, Int.reduceLT, Int.reduceLE, Int.reduceEq, Int.reduceNeg, Int.reduceToNat, IntWalk.i64_in, Bool.or_self, Bool.or_false, Bool.or_true, Bool.and_false, Bool.and_true, Bool.false_or, Bool.true_or, Bool.false_eq_true, Bool.true_eq_false]
  refine Wp_loop (fun m T D H' => ∃ i, m = ws.length - i ∧ i ≤ ws.length ∧ D = [] ∧ H' = H ∧ get T 0 = .ptr tb 0 0 ∧ get T 1 = .int .i64 id ∧ get T 5 = .int .i64 i ∧ findW ws id = findI (fun w => decide (w.id = id)) (ws.drop i) i) ?_ ws.length _ _ _ ?_
  · rintro m T D H' ⟨i, rfl, hi, rfl, rfl, t0, t1, t5, hp⟩
    by_cases hlt : i < ws.length
    · have hlt' : (i : Int) < ws.length := by omega
      have hpi := findI_drop (fun w => decide (w.id = id)) (whE.at_some hlt) i
      rw [hpi] at hp
      simp (disch := first | rfl | omega | exact byE_w | exact inE_w | exact boE_w | exact stE_w | exact pcE_w | exact whE_w | exact lt_new _ | assumption | (simp only [List.length_append, List.length_singleton, List.length_set, List.length_take, List.length_drop, List.length_map]; done) | (simp only [List.length_append, List.length_singleton, List.length_set, List.length_take, List.length_drop, List.length_map]; omega)) only [r58_0, r58_1, r58_2, r58_3, r58_4, r58_5, l58_6, r58_7, c58, rs58, gc58, t0, t1, t5, hlt', decide_true, hr, ldW0 hlt, ↓reduceIte, go_sem, Nat.add_zero, Nat.zero_add, Nat.sub_zero, List.drop_zero, Nat.reduceLT, Nat.reduceEqDiff, Nat.reduceAdd, Nat.reduceMul, Nat.reduceSub, Int.reduceAdd, Int.reduceSub, Nat.reduceLeDiff, Int.reduceLT, Int.reduceLE, Int.reduceEq, Int.reduceNeg, Int.reduceToNat, IntWalk.i64_in, Bool.or_self, Bool.or_false, Bool.or_true, Bool.and_false, Bool.and_true, Bool.false_or, Bool.true_or, Bool.false_eq_true, Bool.true_eq_false]
      repeat' ((first | refine guardB_dec (fun hy => ?_) (fun hy => ?_) | refine guardB_bool (fun hy => ?_) (fun hy => ?_) | refine guardQ_ite (fun hy => ?_) (fun hy => ?_) | refine brQ_dec (fun hy => ?_) (fun hy => ?_) | refine brQ_bool (fun hy => ?_) (fun hy => ?_)) <;> (try simp only [Bool.not_eq_true', Bool.not_eq_false', Bool.and_eq_true, Bool.or_eq_false_iff, decide_eq_true_eq, decide_eq_false_iff_not] at hy) <;> simp (disch := first | rfl | omega | exact byE_w | exact inE_w | exact boE_w | exact stE_w | exact pcE_w | exact whE_w | exact lt_new _ | assumption | (simp only [List.length_append, List.length_singleton, List.length_set, List.length_take, List.length_drop, List.length_map]; done) | (simp only [List.length_append, List.length_singleton, List.length_set, List.length_take, List.length_drop, List.length_map]; omega)) only [r58_0, r58_1, r58_2, r58_3, r58_4, r58_5, l58_6, r58_7, c58, rs58, gc58, t0, t1, t5, hlt', decide_true, hr, ldW0 hlt, ↓reduceIte, go_sem, Nat.add_zero, Nat.zero_add, Nat.sub_zero, List.drop_zero, Nat.reduceLT, Nat.reduceEqDiff, Nat.reduceAdd, Nat.reduceMul, Nat.reduceSub, Int.reduceAdd, Int.reduceSub, Nat.reduceLeDiff, Int.reduceLT, Int.reduceLE, Int.reduceEq, Int.reduceNeg, Int.reduceToNat, IntWalk.i64_in, Bool.or_self, Bool.or_false, Bool.or_true, Bool.and_false, Bool.and_true, Bool.false_or, Bool.true_or, Bool.false_eq_true, Bool.true_eq_false, hy])
      · rw [if_pos (by simpa using hy)] at hp
        all_goals (try ((first | refine finQ_same ?_ | refine finQ_app ?_ | (rw [List.append_assoc]; refine finQ_app ?_)) <;> simp (disch := first | rfl | omega | exact byE_w | exact inE_w | exact boE_w | exact stE_w | exact pcE_w | exact whE_w | exact lt_new _ | assumption | (simp only [List.length_append, List.length_singleton, List.length_set, List.length_take, List.length_drop, List.length_map]; done) | (simp only [List.length_append, List.length_singleton, List.length_set, List.length_take, List.length_drop, List.length_map]; omega)) only [↓reduceIte, go_sem, Nat.add_zero, Nat.zero_add, Nat.sub_zero, List.drop_zero, Nat.reduceLT, Nat.reduceEqDiff, Nat.reduceAdd, Nat.reduceMul, Nat.reduceSub, Int.reduceAdd, Int.reduceSub, Nat.reduceLeDiff, Int.reduceLT, Int.reduceLE, Int.reduceEq, Int.reduceNeg, Int.reduceToNat, IntWalk.i64_in, Bool.or_self, Bool.or_false, Bool.or_true, Bool.and_false, Bool.and_true, Bool.false_or, Bool.true_or, Bool.false_eq_true, Bool.true_eq_false, List.append_assoc, List.cons_append, List.nil_append, *]))
        all_goals (try first | rfl | (simp [*]; done) | grind)
      · rw [if_neg (by simpa using hy)] at hp
        exact ⟨_, by omega, i + 1, rfl, hlt, rfl, by rw [hp]; rfl⟩
    · obtain rfl : i = ws.length := by omega
      rw [List.drop_length] at hp
      simp (disch := first | rfl | omega | exact byE_w | exact inE_w | exact boE_w | exact stE_w | exact pcE_w | exact whE_w | exact lt_new _ | assumption | (simp only [List.length_append, List.length_singleton, List.length_set, List.length_take, List.length_drop, List.length_map]; done) | (simp only [List.length_append, List.length_singleton, List.length_set, List.length_take, List.length_drop, List.length_map]; omega)) only [r58_0, r58_1, r58_2, r58_3, r58_4, r58_5, l58_6, r58_7, c58, rs58, gc58, t0, t1, t5, Int.lt_irrefl, decide_false, hr, ↓reduceIte, go_sem, Nat.add_zero, Nat.zero_add, Nat.sub_zero, List.drop_zero, Nat.reduceLT, Nat.reduceEqDiff, Nat.reduceAdd, Nat.reduceMul, Nat.reduceSub, Int.reduceAdd, Int.reduceSub, Nat.reduceLeDiff, Int.reduceLT, Int.reduceLE, Int.reduceEq, Int.reduceNeg, Int.reduceToNat, IntWalk.i64_in, Bool.or_self, Bool.or_false, Bool.or_true, Bool.and_false, Bool.and_true, Bool.false_or, Bool.true_or, Bool.false_eq_true, Bool.true_eq_false]
      repeat' ((first | refine guardB_dec (fun hy => ?_) (fun hy => ?_) | refine guardB_bool (fun hy => ?_) (fun hy => ?_) | refine guardQ_ite (fun hy => ?_) (fun hy => ?_) | refine brQ_dec (fun hy => ?_) (fun hy => ?_) | refine brQ_bool (fun hy => ?_) (fun hy => ?_)) <;> (try simp only [Bool.not_eq_true', Bool.not_eq_false', Bool.and_eq_true, Bool.or_eq_false_iff, decide_eq_true_eq, decide_eq_false_iff_not] at hy) <;> simp (disch := first | rfl | omega | exact byE_w | exact inE_w | exact boE_w | exact stE_w | exact pcE_w | exact whE_w | exact lt_new _ | assumption | (simp only [List.length_append, List.length_singleton, List.length_set, List.length_take, List.length_drop, List.length_map]; done) | (simp only [List.length_append, List.length_singleton, List.length_set, List.length_take, List.length_drop, List.length_map]; omega)) only [r58_0, r58_1, r58_2, r58_3, r58_4, r58_5, l58_6, r58_7, c58, rs58, gc58, t0, t1, t5, Int.lt_irrefl, decide_false, hr, ↓reduceIte, go_sem, Nat.add_zero, Nat.zero_add, Nat.sub_zero, List.drop_zero, Nat.reduceLT, Nat.reduceEqDiff, Nat.reduceAdd, Nat.reduceMul, Nat.reduceSub, Int.reduceAdd, Int.reduceSub, Nat.reduceLeDiff, Int.reduceLT, Int.reduceLE, Int.reduceEq, Int.reduceNeg, Int.reduceToNat, IntWalk.i64_in, Bool.or_self, Bool.or_false, Bool.or_true, Bool.and_false, Bool.and_true, Bool.false_or, Bool.true_or, Bool.false_eq_true, Bool.true_eq_false, hy])
      refine finQ_same ?_
      simp only [↓reduceIte, go_sem, Nat.add_zero, Nat.zero_add, Nat.sub_zero, List.drop_zero, Nat.reduceLT, Nat.reduceEqDiff, Nat.reduceAdd, Nat.reduceMul, Nat.reduceSub, Int.reduceAdd, Int.reduceSub, Nat.reduceLeDiff, Int.reduceLT, Int.reduceLE, Int.reduceEq, Int.reduceNeg, Int.reduceToNat, IntWalk.i64_in, Bool.or_self, Bool.or_false, Bool.or_true, Bool.and_false, Bool.and_true, Bool.false_or, Bool.true_or, Bool.false_eq_true, Bool.true_eq_false, hp, findI]
  · exact ⟨0, by simp [go_sem, findW]⟩
theorem fn61 {tb : Nat} {pol : Int} {b : Bool} {ws : List Wh} {H : Hp} {k : Nat} (ht : H[tb]? = some (.row 0 (tbC pol b ws) true)) (hlen : ws.length ≤ 1000) (hk : k < ws.length) : callL Try.prog pr 61 [.ptr tb 0 0, .int .i64 k] H = some (.tup [], H.set tb (.row 0 (tbC pol true (ws.take k ++ ws.drop (k + 1))) true)) := by
  have hr := getRow_of ht
  have hlt : tb < H.length := (List.getElem?_eq_some_iff.1 ht).1
  have hr2 := fun L => (getRow_app' (L := L) (g := 0) hlt).trans hr
  refine run61 (Nat.le_of_ble_eq_true rfl) ?_
  simp (disch := first | rfl | omega | exact byE_w | exact inE_w | exact boE_w | exact stE_w | exact pcE_w | exact whE_w | exact lt_new _ | assumption | (simp only [List.length_append, List.length_singleton, List.length_set, List.length_take, List.length_drop, List.length_map]; done) | (simp only [List.length_append, List.length_singleton, List.length_set, List.length_take, List.length_drop, List.length_map]; omega)) only [r61_0, c61, rs61, gc61, loadV_ptr, storeV_ptr, getRow_app', getRow_setS, getRow_setO, getRow_lastN, set_lastN, set_app, List.set_set, bl_nil, bl_all, getRow_bl, set_bl, hr, hr2, ↓reduceIte, go_sem, Nat.add_zero, Nat.zero_add, Nat.sub_zero, List.drop_zero, Nat.reduceLT, Nat.reduceEqDiff, Nat.reduceAdd, Nat.reduceMul, Nat.reduceSub, Int.reduceAdd, Int.reduceSub, Nat.reduceLeDiff, Int.reduceLT, Int.reduceLE, Int.reduceEq, Int.reduceNeg, Int.reduceToNat, IntWalk.i64_in, Bool.or_self, Bool.or_false, Bool.or_true, Bool.and_false, Bool.and_true, Bool.false_or, Bool.true_or, Bool.false_eq_true, Bool.true_eq_false]
  repeat' ((first | refine guardB_dec (fun hy => ?_) (fun hy => ?_) | refine guardB_bool (fun hy => ?_) (fun hy => ?_) | refine guardQ_ite (fun hy => ?_) (fun hy => ?_) | refine brQ_dec (fun hy => ?_) (fun hy => ?_) | refine brQ_bool (fun hy => ?_) (fun hy => ?_)) <;> (try simp only [Bool.not_eq_true', Bool.not_eq_false', Bool.and_eq_true, Bool.or_eq_false_iff, decide_eq_true_eq, decide_eq_false_iff_not] at hy) <;> simp (disch := first | rfl | omega | exact byE_w | exact inE_w | exact boE_w | exact stE_w | exact pcE_w | exact whE_w | exact lt_new _ | assumption | (simp only [List.length_append, List.length_singleton, List.length_set, List.length_take, List.length_drop, List.length_map]; done) | (simp only [List.length_append, List.length_singleton, List.length_set, List.length_take, List.length_drop, List.length_map]; omega)) only [r61_0, c61, rs61, gc61, loadV_ptr, storeV_ptr, getRow_app', getRow_setS, getRow_setO, getRow_lastN, set_lastN, set_app, List.set_set, bl_nil, bl_all, getRow_bl, set_bl, hr, hr2, ↓reduceIte, go_sem, Nat.add_zero, Nat.zero_add, Nat.sub_zero, List.drop_zero, Nat.reduceLT, Nat.reduceEqDiff, Nat.reduceAdd, Nat.reduceMul, Nat.reduceSub, Int.reduceAdd, Int.reduceSub, Nat.reduceLeDiff, Int.reduceLT, Int.reduceLE, Int.reduceEq, Int.reduceNeg, Int.reduceToNat, IntWalk.i64_in, Bool.or_self, Bool.or_false, Bool.or_true, Bool.and_false, Bool.and_true, Bool.false_or, Bool.true_or, Bool.false_eq_true, Bool.true_eq_false, hy])
  have e1 : List.take (ws.length - ((k : Int) + 1).toNat) (List.drop ((k : Int) + 1).toNat ws) = ws.drop (k + 1) := by
    rw [show ((k : Int) + 1).toNat = k + 1 by omega, List.take_of_length_le (by simp)]
  refine gcF_set ht (by simp only [↓reduceIte, go_sem, Nat.add_zero, Nat.zero_add, Nat.sub_zero, List.drop_zero, Nat.reduceLT, Nat.reduceEqDiff, Nat.reduceAdd, Nat.reduceMul, Nat.reduceSub, Int.reduceAdd, Int.reduceSub, Nat.reduceLeDiff, Int.reduceLT, Int.reduceLE, Int.reduceEq, Int.reduceNeg, Int.reduceToNat, IntWalk.i64_in, Bool.or_self, Bool.or_false, Bool.or_true, Bool.and_false, Bool.and_true, Bool.false_or, Bool.true_or, Bool.false_eq_true, Bool.true_eq_false]) ?_
  simp (disch := first | rfl | omega | exact byE_w | exact inE_w | exact boE_w | exact stE_w | exact pcE_w | exact whE_w | exact lt_new _ | assumption | (simp only [List.length_append, List.length_singleton, List.length_set, List.length_take, List.length_drop, List.length_map]; done) | (simp only [List.length_append, List.length_singleton, List.length_set, List.length_take, List.length_drop, List.length_map]; omega)) only [↓reduceIte, go_sem, Nat.add_zero, Nat.zero_add, Nat.sub_zero, List.drop_zero, Nat.reduceLT, Nat.reduceEqDiff, Nat.reduceAdd, Nat.reduceMul, Nat.reduceSub, Int.reduceAdd, Int.reduceSub, Nat.reduceLeDiff, Int.reduceLT, Int.reduceLE, Int.reduceEq, Int.reduceNeg, Int.reduceToNat, IntWalk.i64_in, Bool.or_self, Bool.or_false, Bool.or_true, Bool.and_false, Bool.and_true, Bool.false_or, Bool.true_or, Bool.false_eq_true, Bool.true_eq_false, inlC_bl, e1]
end Go.Proofs.Ytdpdlobaabcjjab
