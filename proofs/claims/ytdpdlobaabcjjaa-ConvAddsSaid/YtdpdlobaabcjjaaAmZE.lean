/-
  The abstract machine, part ZE: arguments as lists of plain data. No statement of the seat stands here.
-/
import Derived.Test.YtdpdlobaabcjjaaAmZD
namespace Go.Am
open Go Go.RowKit

section
variable {P : Program} {H : Hp}
def structTys (P : Program) (t : TypeId) : Option (List TypeId) := match P.underlying t with
  | some (.struct fs) => some (fs.toList.map (·.type))
  | _ => none
def RdTs (P : Program) (H : Hp) (m : Nat) : List TypeId → List (List V) → Prop
  | [], [] => True
  | t :: ts, x :: xs => (x.length = P.cellsOf t ∧ RdT P H m t x) ∧ RdTs P H m ts xs
  | _, _ => False
theorem rdTs_of {m : Nat} : ∀ {fs : List Field} {xss : List (List V)}, xss.length = fs.length → (∀ (i : Nat) (fld : Field) (x : List V), fs[i]? = some fld → xss[i]? = some x → x.length = P.cellsOf fld.type ∧ RdT P H m fld.type x) → RdTs P H m (fs.map (·.type)) xss
  | [], [], _, _ => trivial
  | f :: fs, x :: xss, hl, h => ⟨h 0 f x rfl rfl, rdTs_of (by simpa using hl) fun i fld y h1 h2 => h (i + 1) fld y (by simpa using h1) (by simpa using h2)⟩
  | [], _ :: _, hl, _ => by simp at hl
  | _ :: _, [], hl, _ => by simp at hl
theorem rd_parts {m : Nat} {t : TypeId} {ts : List TypeId} {xs : List V} (hu : structTys P t = some ts) (h : RdT P H (m + 1) t xs) : ∃ xss, xs = xss.flatten ∧ RdTs P H m ts xss := by
  unfold structTys at hu
  split at hu
  · rename_i fs hs
    injection hu with hu
    subst hu
    obtain ⟨xss, h1, h2, h3⟩ := rd_struct hs h
    exact ⟨xss, h1, rdTs_of (by simpa using h2) fun i fld x h4 h5 => h3 i fld x (by simpa using h4) h5⟩
  · cases hu
theorem rdTs_cons {m : Nat} {t : TypeId} {ts : List TypeId} {xss : List (List V)} (h : RdTs P H m (t :: ts) xss) : ∃ x l, xss = x :: l ∧ RdT P H m t x ∧ RdTs P H m ts l := by
  cases xss with
  | nil => exact h.elim
  | cons x l => exact ⟨x, l, rfl, h.1.2, h.2⟩
theorem rdTs_nil {m : Nat} {xss : List (List V)} (h : RdTs P H m [] xss) : xss = [] := by
  cases xss with
  | nil => rfl
  | cons x l => exact h.elim
def Inx (n : Int) : Prop := -9223372036854775808 ≤ n ∧ n ≤ 9223372036854775807
theorem rd_i64 {m : Nat} {t : TypeId} {xs : List V} (hu : P.underlying t = some (.int .i64)) (h : RdT P H (m + 1) t xs) : ∃ n, xs = [.int .i64 n] ∧ Inx n := by
  obtain ⟨n, e, hw⟩ := rd_int hu h
  exact ⟨n, e, by simpa [Inx, Lit.wf, IntKind.min, IntKind.max, IntKind.signed, IntKind.bits] using hw⟩
theorem rd_u8 {m : Nat} {t : TypeId} {xs : List V} (hu : P.underlying t = some (.int .u8)) (h : RdT P H (m + 1) t xs) : ∃ n : UInt8, xs = [.int .u8 n.toNat] := by
  obtain ⟨n, e, hw⟩ := rd_int hu h
  have hr : 0 ≤ n ∧ n ≤ 255 := by simpa [Lit.wf, IntKind.min, IntKind.max, IntKind.signed, IntKind.bits] using hw
  refine ⟨UInt8.ofNat n.toNat, ?_⟩
  rw [e, UInt8.toNat_ofNat', Nat.mod_eq_of_lt (by omega)]
  congr 2
  omega
/-- A list of elements, read each by itself. -/
theorem dec_list {α : Type} {m : Nat} {e : TypeId} {enc : α → List V} {Ok : α → Prop} (dec : ∀ x, RdT P H m e x → ∃ a, x = enc a ∧ Ok a) : ∀ (xss : List (List V)), (∀ x ∈ xss, x.length = P.cellsOf e ∧ RdT P H m e x) → ∃ l : List α, xss = l.map enc ∧ ∀ a ∈ l, Ok a
  | [], _ => ⟨[], rfl, by simp⟩
  | x :: xss, h => by
    obtain ⟨l, rfl, hl⟩ := dec_list dec xss fun y hy => h y (by simp [hy])
    obtain ⟨a, rfl, ha⟩ := dec x (h x (by simp)).2
    refine ⟨a :: l, rfl, fun b hb => ?_⟩
    rcases List.mem_cons.1 hb with rfl | hb
    · exact ha
    · exact hl b hb
/-- What is known of a slice's value that came as an argument. -/
def Given (v : V) : Prop := v.isCell = true ∧ v.isTup = false ∧ eqC v v = true ∧ v.cells = [v] ∧ (v = .nilslice ∨ ∃ id g off n sz, v = .slice id g off n sz .unk)
theorem given_nil : Given .nilslice := ⟨rfl, rfl, rfl, rfl, .inl rfl⟩
theorem given_slice (id g off n sz : Nat) : Given (.slice id g off n sz .unk) := ⟨rfl, rfl, by simp [eqC, eqBase], rfl, .inr ⟨_, _, _, _, _, rfl⟩⟩
theorem rd_list {α : Type} {m : Nat} {t e : TypeId} {sz : Nat} {enc : α → List V} {Ok : α → Prop} (hu : P.underlying t = some (.slice e)) (hc : P.cellsOf e = sz) (hsz : ∀ a, (enc a).length = sz) (dec : ∀ x, RdT P H m e x → ∃ a, x = enc a ∧ Ok a) {xs : List V} (h : RdT P H (m + 1) t xs) :
    ∃ (v : V) (l : List α), xs = [v] ∧ Given v ∧ Sl H v sz (l.map enc) ∧ (∀ a ∈ l, Ok a) ∧ l.length * P.bytesOf e ≤ reachBytes ∧ l.length ≤ 9223372036854775807 := by
  rcases rd_slice hu h with rfl | ⟨id, xss, rfl, h1, h2, h3, h4⟩
  · exact ⟨.nilslice, [], rfl, given_nil, ⟨by simp, .inl ⟨rfl, rfl⟩⟩, by simp, by simp, by simp⟩
  · obtain ⟨l, rfl, hl⟩ := dec_list dec xss h4
    rw [List.length_map] at h2 h3
    have hz : ∀ x ∈ l.map enc, x.length = sz := by
      intro x hx
      obtain ⟨a, _, rfl⟩ := List.mem_map.1 hx
      exact hsz a
    refine ⟨_, l, rfl, given_slice .., ⟨hz, .inr ⟨id, 0, 0, .unk, _, false, by rw [hc], h1, ?_, ?_⟩⟩, hl, h2, h3⟩
    · rw [flat_len hz]; omega
    · rw [List.drop_zero, List.take_of_length_le]
      rw [flat_len hz]; omega
theorem arg_list {α : Type} {m : Nat} {t e : TypeId} {sz : Nat} {enc : α → List V} {Ok : α → Prop} (hu : P.underlying t = some (.slice e)) (hc : P.cellsOf e = sz) (hsz : ∀ a, (enc a).length = sz) (dec : ∀ x, RdT P H m e x → ∃ a, x = enc a ∧ Ok a) {x : V} (h : ArgT P H (m + 1) t x) :
    ∃ l : List α, Given x ∧ Sl H x sz (l.map enc) ∧ (∀ a ∈ l, Ok a) ∧ l.length * P.bytesOf e ≤ reachBytes ∧ l.length ≤ 9223372036854775807 := by
  unfold ArgT at h
  rw [hu] at h
  obtain ⟨v, l, e, r⟩ := rd_list hu hc hsz dec h
  injection e with e
  subst e
  exact ⟨l, r⟩
theorem arg_i64 {m : Nat} {t : TypeId} {x : V} (hu : P.underlying t = some (.int .i64)) (h : ArgT P H (m + 1) t x) : ∃ n, x = .int .i64 n ∧ Inx n := by
  unfold ArgT at h; rw [hu] at h
  obtain ⟨n, e, hw⟩ := rd_i64 hu h
  injection e with e
  exact ⟨n, e, hw⟩
/-- A byte's cells. -/
def byC (b : UInt8) : List V := [.int .u8 b.toNat]
theorem byC_len (b : UInt8) : (byC b).length = 1 := rfl
theorem rd_bytes {m : Nat} {t e : TypeId} (hu : P.underlying t = some (.slice e)) (he : P.underlying e = some (.int .u8)) (hc : P.cellsOf e = 1) {xs : List V} (h : RdT P H (m + 2) t xs) :
    ∃ (v : V) (l : List UInt8), xs = [v] ∧ Given v ∧ Sl H v 1 (l.map byC) ∧ (∀ b ∈ l, True) ∧ l.length * P.bytesOf e ≤ reachBytes ∧ l.length ≤ 9223372036854775807 :=
  rd_list (m := m + 1) (enc := byC) (Ok := fun _ => True) hu hc byC_len (fun _ hx => let ⟨n, e⟩ := rd_u8 (m := m) he hx; ⟨n, e, trivial⟩) h

/-! What a call leaves of its new rows. -/
theorem fresh_of {n : Nat} {id g : Nat} (h : n ≤ id) : fresh n [(id, g)] = [(id, g)] := by
  unfold fresh
  rw [List.filter_cons_of_pos (by simpa using h), List.filter_nil]
  rfl
theorem leaf_refB {w : V} (h : w.leaf = true) : refA w = [] ∧ fineA w = true ∧ ∀ f, renA f w = w := by
  cases w <;> simp [V.leaf] at h <;> exact ⟨rfl, rfl, fun _ => rfl⟩
theorem leaf_refs {ws : List V} (h : ws.all V.leaf = true) : ws.flatMap refA = [] ∧ ws.all fineA = true ∧ ∀ f, ws.map (renA f) = ws := by
  induction ws with
  | nil => exact ⟨rfl, rfl, fun _ => rfl⟩
  | cons w ws ih =>
    simp only [List.all_cons, Bool.and_eq_true] at h
    obtain ⟨h1, h2, h3⟩ := leaf_refB h.1
    obtain ⟨h4, h5, h6⟩ := ih h.2
    refine ⟨by rw [List.flatMap_cons, h1, h4]; rfl, by rw [List.all_cons, h2, h5]; rfl, fun f => by rw [List.map_cons, h3, h6]⟩
/-- A slice that was made by the call, alone or ahead of plain values. -/
theorem own_gc {H' : Hp} {v : V} {sz : Nat} {cs : List V} (ho : Own H' v sz cs) (hpre : ∀ id, id < H.length → H'[id]? = H[id]?) (hfr : ∀ id, At v id → H.length ≤ id) (hleaf : cs.all V.leaf = true) {ws : List V} (hw : ws.all V.leaf = true) :
    ∃ v2 H2, gcC H (.tup (v :: ws), H') = (.tup (v2 :: ws), H2) ∧ gcC H (v, H') = (v2, H2) ∧ Own H2 v2 sz cs ∧ (∃ G, H2 = H ++ G) ∧ (∀ id, At v2 id → H.length ≤ id) := by
  obtain ⟨h4, h5, h6⟩ := leaf_refs hw
  have hp : H'.take H.length = H := by
    obtain ⟨G, rfl⟩ := pre_of hpre
    simp
  rcases ho with ⟨rfl, rfl⟩ | ⟨id, g, n, rfl, h1, h2, h3⟩
  · refine ⟨.nilslice, H, ?_, ?_, own_nil _ _, ⟨[], by simp⟩, hfr⟩
    · refine gc_old hp ?_ ?_
      · simp only [fineR, List.all_cons, h5, Bool.and_true]; rfl
      · simp only [refR, List.flatMap_cons, h4, List.append_nil]; simp [refA, refB]
    · exact gc_old hp rfl (by simp [refR, refA, refB])
  · have hid : H.length ≤ id := hfr id ⟨_, _, _, _, _, rfl⟩
    have hm : moveTo H.length [(id, g)] id g = (H.length, 0) := by
      unfold moveTo
      rw [if_neg (by omega)]
      simp
    refine ⟨.slice H.length 0 0 n sz .full, H ++ [.row 0 cs true], ?_, ?_, .inr ⟨H.length, 0, n, rfl, h1, h2, by simp⟩, ⟨_, rfl⟩, ?_⟩
    · rw [gc_one hp ?_ hid h3 hleaf ?_]
      · simp only [renR, List.map_cons, h6]
        simp only [renA, renB, hm]
      · simp only [fineR, List.all_cons, h5, Bool.and_true]; rfl
      · simp only [refR, List.flatMap_cons, h4, List.append_nil]
        exact fresh_of hid
    · rw [gc_one (v := .slice id g 0 n sz .full) hp rfl hid h3 hleaf (show fresh H.length [(id, g)] = [(id, g)] from fresh_of hid)]
      simp only [renR, renA, renB, hm]
    · rintro id' ⟨g', o, n', z, cp, e⟩
      injection e with e1
      omega
/-- A slice, alone or ahead of plain values, that a function answers. -/
def RetOwn (H : Hp) (sz : Nat) (cs : List V) (ws : List V) (v : V) (H' : Hp) : Prop := ∃ out, v = .tup (out :: ws) ∧ Own H' out sz cs ∧ (∀ id, id < H.length → H'[id]? = H[id]?) ∧ ∀ id, At out id → H.length ≤ id
theorem own_of {k : Nat} {cl : CallT} {args : List V} {sz : Nat} {cs ws : List V} (h : ∃ v' H', RetOwn H sz cs ws v' H' ∧ cl k args H = some (gcC H (v', H'))) (hl : cs.all V.leaf = true) (hw : ws.all V.leaf = true) :
    ∃ v H2, cl k args H = some (.tup (v :: ws), H2) ∧ Own H2 v sz cs ∧ (∃ G, H2 = H ++ G) ∧ ∀ id, At v id → H.length ≤ id := by
  obtain ⟨v', H', ⟨out, rfl, h1, h2, h3⟩, h4⟩ := h
  obtain ⟨v2, H2, h5, _, h6, h7, h8⟩ := own_gc h1 h2 h3 hl hw
  exact ⟨v2, H2, by rw [h4, h5], h6, h7, h8⟩
def RetOwn1 (H : Hp) (sz : Nat) (cs : List V) (v : V) (H' : Hp) : Prop := Own H' v sz cs ∧ (∀ id, id < H.length → H'[id]? = H[id]?) ∧ ∀ id, At v id → H.length ≤ id
theorem own1_of {k : Nat} {cl : CallT} {args : List V} {sz : Nat} {cs : List V} (h : ∃ v' H', RetOwn1 H sz cs v' H' ∧ cl k args H = some (gcC H (v', H'))) (hl : cs.all V.leaf = true) :
    ∃ v H2, cl k args H = some (v, H2) ∧ Own H2 v sz cs ∧ (∃ G, H2 = H ++ G) ∧ ∀ id, At v id → H.length ≤ id := by
  obtain ⟨v', H', ⟨h1, h2, h3⟩, h4⟩ := h
  obtain ⟨v2, H2, _, h5, h6, h7, h8⟩ := own_gc h1 h2 h3 hl (ws := []) rfl
  exact ⟨v2, H2, by rw [h4, h5], h6, h7, h8⟩
theorem row_frame {H' : Hp} {id g : Nat} {r : List V × Bool} (h : getRow H id g = some r) (hf : H'[id]? = H[id]?) : getRow H' id g = some r := by
  unfold getRow at h ⊢
  rw [hf]; exact h
theorem row_app {L : Hp} {id g : Nat} {r : List V × Bool} (h : getRow H id g = some r) : getRow (H ++ L) id g = some r := row_frame h (List.getElem?_append_left (getRow_lt h))
theorem Own.nt {v : V} {sz : Nat} {cs : List V} (h : Own H v sz cs) : v.isTup = false := by
  rcases h with ⟨rfl, _⟩ | ⟨id, g, n, rfl, _⟩ <;> rfl
theorem Own.app {L : Hp} {v : V} {sz : Nat} {cs : List V} (h : Own H v sz cs) : Own (H ++ L) v sz cs := h.frame fun _ ha => List.getElem?_append_left (h.lt ha)
theorem prefix_trans {H1 H2 : Hp} (h : ∃ G, H1 = H ++ G) (k : ∃ G, H2 = H1 ++ G) : ∃ G, H2 = H ++ G := by
  obtain ⟨G, rfl⟩ := h
  obtain ⟨G', rfl⟩ := k
  exact ⟨G ++ G', by simp⟩
/-! Arrays written out. -/
theorem buildArr_eq {t e : TypeId} {n sz : Nat} {z : List V} (hu : P.underlying t = some (.array n e)) (he : szOf P e = some sz) (hz : zeroV P t = some (.agg z)) (ps : List (Nat × V)) : buildV P t ps = (fillV (fun i => some (i * sz, sz)) z ps).map V.agg := by
  unfold buildV
  simp only [hu, he, hz, Option.bind_some]
  rfl
/-! Aggregates compared. -/
theorem agg_eq {t : TypeId} {ks : List CK} (hf : flatT P 8 t = some ks) (ha : aggT P t = some true) (hz : szOf P t = some ks.length) (xs ys : List V) : binV P .eql t (.agg xs) (.agg ys) = if ckOks ks xs = true ∧ ckOks ks ys = true then some (.bool (eqCells xs ys)) else none := by
  simp only [binV, eqV, hf, ha, hz, Option.bind_some, and_true]
  split <;> rfl
theorem agg_ne {t : TypeId} {ks : List CK} (hf : flatT P 8 t = some ks) (ha : aggT P t = some true) (hz : szOf P t = some ks.length) (xs ys : List V) : binV P .neq t (.agg xs) (.agg ys) = if ckOks ks xs = true ∧ ckOks ks ys = true then some (.bool (!eqCells xs ys)) else none := by
  simp only [binV, eqV, hf, ha, hz, Option.bind_some, and_true]
  split <;> rfl
@[go_sem] theorem ckOks_nil : ckOks [] [] = true := rfl
@[go_sem] theorem ckOks_cons (k : CK) (v : V) (ks : List CK) (vs : List V) : ckOks (k :: ks) (v :: vs) = (ckOk k v && ckOks ks vs) := rfl
@[go_sem] theorem ckOk_int (k : IntKind) (n : Int) : ckOk (.int k) (.int k n) = true := by simp [ckOk]
@[go_sem] theorem ckOk_str (s : List UInt8) : ckOk .str (.str s) = true := rfl
@[go_sem] theorem ckOk_bool (b : Bool) : ckOk .bool (.bool b) = true := rfl
@[go_sem] theorem eqCells_nil : eqCells [] [] = true := rfl
@[go_sem] theorem eqCells_cons (a b : V) (x y : List V) : eqCells (a :: x) (b :: y) = (eqCell a b && eqCells x y) := rfl
@[go_sem] theorem eqCell_int (k k' : IntKind) (a b : Int) : eqCell (.int k a) (.int k' b) = decide (a = b) := by simp [eqCell]; rfl
@[go_sem] theorem eqCell_bool (a b : Bool) : eqCell (.bool a) (.bool b) = (a == b) := rfl
@[go_sem] theorem eqCell_str (a b : List UInt8) : eqCell (.str a) (.str b) = decide (a = b) := by
  by_cases h : a = b <;> simp [eqCell, h]

/-! Lists. -/
/-- The number of the first element of which it is told. -/
def findI {α : Type} (p : α → Bool) : List α → Int → Int
  | [], _ => -1
  | x :: xs, i => if p x then i else findI p xs (i + 1)
theorem findI_any {α : Type} (p : α → Bool) : ∀ (xs : List α) (i : Int), 0 ≤ i → decide (0 ≤ findI p xs i) = xs.any p
  | [], i, _ => rfl
  | x :: xs, i, h => by
    unfold findI
    by_cases hp : p x = true
    · simp [hp, h]
    · rw [if_neg hp, findI_any p xs (i + 1) (by omega)]
      simp [hp]
theorem findI_drop {α : Type} (p : α → Bool) {xs : List α} {i : Nat} {x : α} (hx : xs[i]? = some x) (n : Int) : findI p (xs.drop i) n = if p x then n else findI p (xs.drop (i + 1)) (n + 1) := by
  obtain ⟨h1, rfl⟩ := List.getElem?_eq_some_iff.1 hx
  rw [List.drop_eq_getElem_cons h1]
  rfl
theorem take_snoc {α : Type} {l : List α} {i : Nat} {t : α} (h : l[i]? = some t) : l.take (i + 1) = l.take i ++ [t] := by
  rw [List.take_add_one, h]; rfl
/-! A value that is equal to itself. -/
@[go_sem] theorem eqList_nil (f : V → V → Bool) : eqList f [] [] = true := rfl
@[go_sem] theorem eqList_cons (f : V → V → Bool) (a b : V) (x y : List V) : eqList f (a :: x) (b :: y) = (f a b && eqList f x y) := rfl
@[go_sem] theorem eqC_int (k : IntKind) (n : Int) : eqC (.int k n) (.int k n) = true := by simp [eqC, eqBase]
@[go_sem] theorem eqC_bool (b : Bool) : eqC (.bool b) (.bool b) = true := by simp [eqC, eqBase]
@[go_sem] theorem eqC_str (b : List UInt8) : eqC (.str b) (.str b) = true := by simp [eqC, eqBase]
end
end Go.Am
