/-
  The abstract machine, part R: regions that draw their order. No statement of the seat stands here.
-/
import Derived.Test.YtdpdlobaabcjjaaAmQ
namespace Go.Am
open Go

section
variable {P : Program} {cl : CallT} {N b0 : Nat} {ops : Array Oper} {st : Nat → St}

theorem stepV_T {o : Oper} {s s1 : St} {v : V} (h : stepV P cl o s = some (v, s1)) : s1.T = s.T := by
  have key : ((opV P o.op s.T s.H).map fun q => (q.1, { s with H := q.2 })) = some (v, s1) → s1.T = s.T := by
    intro h
    obtain ⟨q, hq, e⟩ := Option.map_eq_some_iff.1 h
    injection e with e1 e2
    subst e2
    rfl
  obtain ⟨dst, op, type, pos, after, guard⟩ := o
  cases op <;> simp only [stepV] at h <;> try exact key h
  case defer c =>
    obtain ⟨q, hq, e⟩ := Option.map_eq_some_iff.1 h
    injection e with e1 e2
    subst e2
    rfl
  case call c =>
    cases hc : c.callee with
    | value f =>
      rw [hc] at h
      simp only at h
      cases hr : calleeV s.T c with
      | none => rw [hr] at h; cases h
      | some r =>
        rw [hr] at h
        obtain ⟨q, hq, e⟩ := Option.map_eq_some_iff.1 h
        injection e with e1 e2
        subst e2
        rfl
    | _ => rw [hc] at h; exact key h

theorem Drawn.lt {all : List Oper} (D : Drawn P all) : ∀ (j i : Nat), j < all.length → Waits all j i → i < j := by
  intro j
  induction j using Nat.strongRecOn with
  | _ j ih =>
    intro i hj h
    obtain ⟨o, ho⟩ : ∃ o, all[j]? = some o := ⟨all[j], by simp [hj]⟩
    obtain ⟨e, he, hb, h⟩ := waits_edge ho (D.back j o ho) h
    have hlt := D.back j o ho e he hb
    rcases h with rfl | h
    · exact hlt
    · exact Nat.lt_trans (ih e.on hlt i (by omega) h) hlt

/-- A step that doesn't act, or only makes a block. -/
def Soft (P : Program) (ops : Array Oper) (st : Nat → St) (i : Nat) : Prop := ∀ o, ops[i]? = some o → kind P o.op ≠ .eff ∨ wantedV ops.toList o (st i).T = some false
theorem Ctx.soft (C : Ctx P cl N b0 ops st) {i : Nat} {o : Oper} (ho : ops[i]? = some o) (hk : kind P o.op ≠ .eff ∨ wantedV ops.toList o (st i).T = some false) :
    (st (i + 1)).D = (st i).D ∧ ((kind P o.op = .alloc ∧ wantedV ops.toList o (st i).T = some true ∧ ∃ b, b ≠ .hole ∧ (st (i + 1)).H = (st i).H ++ [b]) ∨
      (¬ (kind P o.op = .alloc ∧ wantedV ops.toList o (st i).T = some true) ∧ (st (i + 1)).H = (st i).H)) := by
  rcases C.step i o ho with ⟨hw, v, s1, h1, h2⟩ | ⟨hw, h2⟩
  · obtain ⟨e1, e2, _⟩ := setO_fr h2
    rcases hk with hk | hk
    · obtain ⟨h3, h4, _⟩ := stepV_op hk h1
      refine ⟨e1.trans h4, ?_⟩
      cases hkk : kind P o.op with
      | eff => exact absurd hkk hk
      | alloc =>
        obtain ⟨b, hb, e, _⟩ := alloc_law hkk h3
        exact .inl ⟨rfl, hw, b, hb, e2.trans e⟩
      | pure => exact .inr ⟨by simp, e2.trans (pure_law hkk h3).1⟩
      | read => exact .inr ⟨by simp, e2.trans (read_law hkk h3).1⟩
    · rw [hw] at hk; cases hk
  · obtain ⟨e1, e2, _⟩ := setO_fr h2
    exact ⟨e1, .inr ⟨fun h => (by have := h.2; rw [hw] at this; cases this), e2⟩⟩
theorem Ctx.wanted (C : Ctx P cl N b0 ops st) {i : Nat} {o : Oper} (ho : ops[i]? = some o) : wantedV ops.toList o (st i).T = some true ∨ wantedV ops.toList o (st i).T = some false := by
  rcases C.step i o ho with ⟨hw, _⟩ | ⟨hw, _⟩
  · exact .inl hw
  · exact .inr hw
theorem Ctx.prefix_ (C : Ctx P cl N b0 ops st) (x : Nat) : ∀ d, x + d ≤ ops.size → (∀ i, x ≤ i → i < x + d → Soft P ops st i) → ∀ id, id < (st x).H.length → (st (x + d)).H[id]? = (st x).H[id]?
  | 0, _, _, _, _ => rfl
  | d + 1, hn, hs, id, hid => by
    rw [← C.prefix_ x d (by omega) (fun i h1 h2 => hs i h1 (by omega)) id hid]
    have ho : ops[x + d]? = some ops[x + d] := by simp
    rcases (C.soft ho (hs (x + d) (by omega) (by omega) _ ho)).2 with ⟨_, _, b, _, e⟩ | ⟨_, e⟩
    · show (st (x + d + 1)).H[id]? = _
      rw [e]
      exact List.getElem?_append_left (Nat.lt_of_lt_of_le hid (C.len d x (by omega)))
    · show (st (x + d + 1)).H[id]? = _
      rw [e]
theorem Ctx.keep (C : Ctx P cl N b0 ops st) {t : Nat} (x : Nat) : ∀ d, x + d ≤ ops.size → (∀ w o, x ≤ w → w < x + d → ops[w]? = some o → o.dst ≠ some t) → get (st (x + d)).T t = get (st x).T t
  | 0, _, _ => rfl
  | d + 1, hn, hs => by
    rw [← C.keep x d (by omega) (fun w o h1 h2 => hs w o h1 (by omega))]
    have ho : ops[x + d]? = some ops[x + d] := by simp
    have hd := hs (x + d) _ (by omega) (by omega) ho
    rcases C.step _ _ ho with ⟨_, v, s1, h1, h2⟩ | ⟨_, h2⟩
    · have := (setO_fr h2).2.2 t
      rw [if_neg hd, stepV_T h1] at this
      exact this
    · have := (setO_fr h2).2.2 t
      rw [if_neg hd] at this
      exact this

structure Inv (P : Program) (N b0 : Nat) (ops : Array Oper) (st : Nat → St) (ρ0 : Ren) (W0 : World) (L : Nat → Prop) (k : Nat) (ρ : Ren) (Hr : Hp) (a : Act) (W : World) : Prop where
  kn : k ≤ ops.size
  step : Step P b0 ρ0 ρ (st 0).H Hr W0 W
  pre : ∀ id, id < (st k).H.length → Hr[id]? = (st k).H[id]?
  flt : ∀ j o, k ≤ j → ops[j]? = some o → L j → kind P o.op = .alloc → wantedV ops.toList o (st j).T = some true → ∃ b, Hr[(st j).H.length]? = some b ∧ b ≠ .hole ∧ (st (j + 1)).H = (st j).H ++ [b]
  only : ∀ id b, (st k).H.length ≤ id → Hr[id]? = some b → b ≠ .hole → ∃ j o, k ≤ j ∧ ops[j]? = some o ∧ L j ∧ kind P o.op = .alloc ∧ wantedV ops.toList o (st j).T = some true ∧ id = (st j).H.length
  slot : ∀ t x, x ≤ ops.size → (∀ w o, w < x → ops[w]? = some o → o.dst = some t → L w) → (∀ w o, x ≤ w → ops[w]? = some o → o.dst = some t → ¬ L w) → VR ρ (get (st x).T t) (a.tmps.getD t undef)
  df : DfR ρ (st k).D a.defers
  sz : a.tmps.size = N
  down : ∀ j i, L j → Waits ops.toList j i → L i
  done : ∀ i o, i < k → ops[i]? = some o → isEff (kind P o.op) = true → L i
  late : ∀ i o, k ≤ i → ops[i]? = some o → L i → kind P o.op ≠ .eff

variable {ρ0 ρ : Ren} {W0 W : World} {L : Nat → Prop} {k : Nat} {Hr : Hp} {a : Act}

theorem Inv.adv1 (C : Ctx P cl N b0 ops st) (I : Inv P N b0 ops st ρ0 W0 L k ρ Hr a W) {o : Oper} (ho : ops[k]? = some o) (h1 : isEff (kind P o.op) = true → L k) (h2 : kind P o.op ≠ .eff) : Inv P N b0 ops st ρ0 W0 L (k + 1) ρ Hr a W := by
  have hlt : k < ops.size := (Array.getElem?_eq_some_iff.1 ho).1
  obtain ⟨hD, hH⟩ := C.soft ho (.inl h2)
  refine ⟨hlt, I.step, fun id hid => ?_, fun j o hj => I.flt j o (by omega), fun id b hid hb hne => ?_, I.slot, hD ▸ I.df, I.sz, I.down, fun i o' hi ho' he => ?_, fun i o hi => I.late i o (by omega)⟩
  · rcases hH with ⟨ha, hw, b, hb, e⟩ | ⟨_, e⟩
    · obtain ⟨b', hb', _, e'⟩ := I.flt k o (Nat.le_refl _) ho (h1 (by rw [ha]; rfl)) ha hw
      rw [e'] at hid ⊢
      rw [List.length_append, List.length_singleton] at hid
      by_cases hx : id < (st k).H.length
      · rw [I.pre id hx, List.getElem?_append_left hx]
      · have : id = (st k).H.length := by omega
        subst this
        rw [hb']
        simp
    · rw [e] at hid ⊢
      exact I.pre id hid
  · obtain ⟨j, o', hj, r1, r2, r3, r4, r5⟩ := I.only id b (Nat.le_trans (C.len1 k hlt) hid) hb hne
    refine ⟨j, o', ?_, r1, r2, r3, r4, r5⟩
    rcases Nat.lt_or_ge k j with h | h
    · exact h
    · have : j = k := by omega
      subst this
      rw [ho] at r1
      injection r1 with r1
      subst r1
      rcases hH with ⟨_, _, b, _, e⟩ | ⟨hn, _⟩
      · rw [e] at hid
        simp at hid
        omega
      · exact absurd ⟨r3, r4⟩ hn
  · rcases Nat.lt_or_ge i k with h | h
    · exact I.done i o' h ho' he
    · have : i = k := by omega
      subst this
      rw [ho] at ho'
      injection ho' with ho'
      subst ho'
      exact h1 he
theorem Inv.advTo (C : Ctx P cl N b0 ops st) : ∀ (d k : Nat), k + d ≤ ops.size → Inv P N b0 ops st ρ0 W0 L k ρ Hr a W → (∀ i o, k ≤ i → i < k + d → ops[i]? = some o → (isEff (kind P o.op) = true → L i) ∧ kind P o.op ≠ .eff) → Inv P N b0 ops st ρ0 W0 L (k + d) ρ Hr a W
  | 0, _, _, I, _ => I
  | d + 1, k, hn, I, h => by
    have ho : ops[k]? = some ops[k] := by simp
    have h0 := h k _ (Nat.le_refl _) (by omega) ho
    have := Inv.advTo C d (k + 1) (by omega) (I.adv1 C ho h0.1 h0.2) fun i o h1 h2 => h i o (by omega) (by omega)
    rwa [show k + 1 + d = k + (d + 1) from by omega] at this

/-- A frame of which only named slots are looked at. -/
def restr (names : List Nat) (T : Fr) : Fr := (List.range (names.foldl max 0 + 1)).map fun t => if names.contains t then get T t else .undef
theorem foldl_max_le (names : List Nat) (m : Nat) : m ≤ names.foldl max m ∧ ∀ t ∈ names, t ≤ names.foldl max m := by
  induction names generalizing m with
  | nil => exact ⟨Nat.le_refl _, fun t h => by cases h⟩
  | cons x l ih =>
    have := ih (max m x)
    simp only [List.foldl_cons, List.mem_cons]
    refine ⟨by omega, fun t h => ?_⟩
    rcases h with rfl | h
    · omega
    · exact this.2 t h
theorem get_restr (names : List Nat) (T : Fr) (t : Nat) : get (restr names T) t = if t ∈ names then get T t else .undef := by
  show (restr names T).getD t .undef = _
  unfold restr
  rw [List.getD_eq_getElem?_getD, List.getElem?_map]
  by_cases h : t < names.foldl max 0 + 1
  · rw [List.getElem?_range h]
    simp only [Option.map_some, Option.getD_some, List.contains_iff_mem]
  · rw [List.getElem?_eq_none (by simpa using h)]
    simp only [Option.map_none, Option.getD_none]
    rw [if_neg fun hm => h (Nat.lt_succ_of_le ((foldl_max_le names 0).2 t hm))]

theorem Inv.named (C : Ctx P cl N b0 ops st) (I : Inv P N b0 ops st ρ0 W0 L k ρ Hr a W) {i : Nat} {o : Oper} (ho : ops[i]? = some o) (hL : ¬ L i) (hr : ∀ j, Waits ops.toList i j → L j) {t : Nat} (ht : t ∈ namesOf ops.toList o) :
    VR ρ (get (st i).T t) (a.tmps.getD t undef) := by
  have hlt : i < ops.size := (Array.getElem?_eq_some_iff.1 ho).1
  refine I.slot t i (Nat.le_of_lt hlt) (fun w ow hw how hd => ?_) (fun w ow hw how hd hLw => ?_)
  · rcases C.drawn.ord w i ow o hw (by simpa using how) (by simpa using ho) with h | ⟨_, h, _⟩
    · exact hr w h
    · exact absurd ht (h t hd)
  · rcases Nat.lt_or_ge i w with h | h
    · rcases C.drawn.ord i w o ow h (by simpa using ho) (by simpa using how) with h | ⟨_, _, h⟩
      · exact hL (I.down w i hLw h)
      · exact h t hd ht
    · have : w = i := by omega
      subst this
      exact hL hLw
theorem Inv.frame (C : Ctx P cl N b0 ops st) (I : Inv P N b0 ops st ρ0 W0 L k ρ Hr a W) {i : Nat} {o : Oper} (ho : ops[i]? = some o) (hL : ¬ L i) (hr : ∀ j, Waits ops.toList i j → L j) :
    FrR ρ (restr (namesOf ops.toList o) (st i).T) a.tmps ∧ (∀ t ∈ namesOf ops.toList o, get (st i).T t = get (restr (namesOf ops.toList o) (st i).T) t) := by
  refine ⟨fun t => ?_, fun t ht => by rw [get_restr, if_pos ht]⟩
  rw [get_restr]
  split
  · exact I.named C ho hL hr (by assumption)
  · trivial

theorem slot_put (C : Ctx P cl N b0 ops st) (I : Inv P N b0 ops st ρ0 W0 L k ρ Hr a W) {i : Nat} {o : Oper} (ho : ops[i]? = some o) (hL : ¬ L i) {ρ' : Ren} (hle : ρ.Le ρ') {v : V} {u : Value} {a1 : Act} (ha : a1.tmps = a.tmps) (hv : VR ρ' v u) (hlt : ∀ t, o.dst = some t → t < N)
    (hst : ∀ t, o.dst = some t → get (st (i + 1)).T t = v) :
    ∀ t x, x ≤ ops.size → (∀ w o', w < x → ops[w]? = some o' → o'.dst = some t → w = i ∨ L w) → (∀ w o', x ≤ w → ops[w]? = some o' → o'.dst = some t → ¬ (w = i ∨ L w)) → VR ρ' (get (st x).T t) ((a1.put o.dst u).tmps.getD t undef) := by
  intro t x hx h1 h2
  rw [put_get a1 o.dst u (fun t ht => by rw [ha, I.sz]; exact hlt t ht), ha]
  by_cases hd : o.dst = some t
  · rw [if_pos hd]
    have hix : i < x := by
      rcases Nat.lt_or_ge i x with h | h
      · exact h
      · exact absurd (.inl rfl) (h2 i o h ho hd)
    have := C.keep (t := t) (i + 1) (x - (i + 1)) (by omega) fun w ow hw1 hw2 how hdw => by
      have hwi : w ≠ i := by omega
      have hLw : L w := (h1 w ow (by omega) how hdw).resolve_left hwi
      rcases C.drawn.ord i w o ow (by omega) (by simpa using ho) (by simpa using how) with h | ⟨_, h, _⟩
      · exact hL (I.down w i hLw h)
      · exact h t hd (by simp [namesOf, hdw])
    rw [show i + 1 + (x - (i + 1)) = x from by omega] at this
    rw [this, hst t hd]
    exact hv
  · rw [if_neg hd]
    refine (I.slot t x hx (fun w ow hw how hdw => ?_) (fun w ow hw how hdw hLw => h2 w ow hw how hdw (.inr hLw))).mono hle
    refine (h1 w ow hw how hdw).resolve_left fun e => ?_
    subst e
    rw [ho] at how
    injection how with how
    subst how
    exact hd hdw
theorem down_put (I : Inv P N b0 ops st ρ0 W0 L k ρ Hr a W) {i : Nat} (hr : ∀ j, Waits ops.toList i j → L j) : ∀ j x, (j = i ∨ L j) → Waits ops.toList j x → (x = i ∨ L x) := by
  rintro j x (rfl | h) hw
  · exact .inr (hr x hw)
  · exact .inr (I.down j x h hw)

theorem Inv.bdb (C : Ctx P cl N b0 ops st) (I : Inv P N b0 ops st ρ0 W0 L k ρ Hr a W) {i : Nat} (hk : k ≤ i) (hi : i ≤ ops.size) : ∀ id b, id < (st i).H.length → Hr[id]? = some b → b ≠ .hole → BdB P b0 (st i).H.length b := by
  intro id b hid hb hne
  have of_run : ∀ m, m ≤ i → (st m).H[id]? = some b → BdB P b0 (st i).H.length b := by
    intro m hm h
    obtain ⟨ρm, am, Wm, hR⟩ := C.run m (by omega)
    obtain ⟨l, _, hk⟩ := hR.rel.blk id b h hne
    exact ⟨ρm, Wm, l, hk, fun id g h => hR.rel.fresh id g (Nat.le_trans (C.len' hm hi) h)⟩
  by_cases h1 : id < (st k).H.length
  · exact of_run k hk (I.pre id h1 ▸ hb)
  · obtain ⟨j, o, hj, hoj, hLj, hkj, hwj, rfl⟩ := I.only id b (by omega) hb hne
    have hjn : j < ops.size := (Array.getElem?_eq_some_iff.1 hoj).1
    have hji : j < i := by
      rcases Nat.lt_or_ge j i with h | h
      · exact h
      · have := C.len' h (by omega)
        omega
    obtain ⟨b', hb', _, e⟩ := I.flt j o hj hoj hLj hkj hwj
    rw [hb] at hb'
    injection hb' with hb'
    subst hb'
    exact of_run (j + 1) hji (by rw [e]; simp)

/-- An operation that is no act, as the model takes it. -/
theorem op_wp {o : Oper} {T : Fr} {H H' : Hp} {v : V} (hR : Rel P b0 ρ H W) (hT : FrR ρ T a.tmps) (h : opV P o.op T H = some (v, H')) {next : Act → World → Prop} {Q : Exit → Act → World → Prop}
    (hn : ∀ u ρ' W', VR ρ' v u → Step P b0 ρ ρ' H H' W W' → next (a.put o.dst u) W') : o.wp P a W next Q := by
  obtain ⟨nv, u, W', ρ', h1, h2, h3, h4⟩ := op_sim hR hT h
  unfold Oper.wp
  rw [h1]
  rcases h2 with rfl | ⟨rfl, rfl⟩
  · exact hn u ρ' W' h3 h4
  · exact hn undef ρ' W' h3 h4

theorem VR_id {v : V} {u : Value} {id : Nat} (h : VR ρ v u) (hi : v.id? = some id) : ∃ g l, ρ id g = some l := by
  cases v <;> simp only [V.id?, Option.some.injEq, reduceCtorEq] at hi
  · obtain ⟨l, hl, _⟩ := h; exact ⟨_, l, hi ▸ hl⟩
  · obtain ⟨l, _, _, hl, _⟩ := h; exact ⟨_, l, hi ▸ hl⟩
  · obtain ⟨l, hl, _⟩ := h; exact ⟨_, l, hi ▸ hl⟩

/-- What a reader finds in the real memory. -/
theorem Inv.reads (C : Ctx P cl N b0 ops st) (I : Inv P N b0 ops st ρ0 W0 L k ρ Hr a W) {i : Nat} {o : Oper} (ho : ops[i]? = some o) (hL : ¬ L i) (hr : ∀ j, Waits ops.toList i j → L j) (hk : kind P o.op = .read)
    (hw : wantedV ops.toList o (st i).T = some true) {v : V} {H' : Hp} (h : opV P o.op (st i).T (st i).H = some (v, H')) : opV P o.op (st i).T Hr = some (v, Hr) := by
  have hlt : i < ops.size := (Array.getElem?_eq_some_iff.1 ho).1
  have wlt : ∀ {j x}, j < ops.size → Waits ops.toList j x → x < j := fun hj h => C.drawn.lt _ _ (by simpa using hj) h
  have up1 : ∀ m v', m < ops.size → (∀ om, ops[m]? = some om → kind P om.op = .eff → ¬ Waits ops.toList i m ∧ ¬ Waits ops.toList m i) → opV P o.op (st i).T (st m).H = some (v', (st m).H) → opV P o.op (st i).T (st (m + 1)).H = some (v', (st (m + 1)).H) := by
    intro m v' hm hord hq
    have hom : ops[m]? = some ops[m] := by simp
    have soft : kind P ops[m].op ≠ .eff ∨ wantedV ops.toList ops[m] (st m).T = some false → opV P o.op (st i).T (st (m + 1)).H = some (v', (st (m + 1)).H) := by
      intro hs
      rcases (C.soft hom hs).2 with ⟨_, _, b, _, e⟩ | ⟨_, e⟩
      · rw [e]
        refine (read_law hk hq).2 _ fun x _ id _ b' hb' => ?_
        rw [List.getElem?_append_left (List.getElem?_eq_some_iff.1 hb').1, hb']
      · rw [e]; exact hq
    by_cases he : kind P ops[m].op = .eff
    · rcases C.wanted hom with hw' | hw'
      · obtain ⟨n1, n2⟩ := hord _ hom he
        obtain ⟨v0, H1, H2, h1, h2⟩ := C.dyn i o m _ ho hom hk he hw hw' n1 n2
        rw [hq] at h1
        injection h1 with h1
        injection h1 with h1 _
        subst h1
        rw [h2, (read_law hk h2).1]
      · exact soft (.inr hw')
    · exact soft (.inl he)
  have ups : ∀ d m v', m + d ≤ ops.size → (∀ x, m ≤ x → x < m + d → ∀ om, ops[x]? = some om → kind P om.op = .eff → ¬ Waits ops.toList i x ∧ ¬ Waits ops.toList x i) → opV P o.op (st i).T (st m).H = some (v', (st m).H) → opV P o.op (st i).T (st (m + d)).H = some (v', (st (m + d)).H) := by
    intro d
    induction d with
    | zero => intro m v' _ _ h; exact h
    | succ d ih =>
      intro m v' hn hord hq
      have := up1 (m + d) v' (by omega) (hord (m + d) (by omega) (by omega)) (ih m v' (by omega) (fun x h1 h2 => hord x h1 (by omega)) hq)
      exact this
  have h0 : opV P o.op (st i).T (st i).H = some (v, (st i).H) := by rw [h, (read_law hk h).1]
  rcases Nat.lt_or_ge i k with hik | hki
  · have := ups (k - i) i v (by have := I.kn; omega) (fun x h1 h2 om hom he => by
      have hLx : L x := I.done x om (by omega) hom (by rw [he]; rfl)
      refine ⟨fun hwx => ?_, fun hwx => hL (I.down x i hLx hwx)⟩
      have := wlt hlt hwx
      omega) h0
    rw [show i + (k - i) = k from by omega] at this
    refine (read_law hk this).2 Hr fun x _ id _ b hb => ?_
    rw [I.pre id (List.getElem?_eq_some_iff.1 hb).1, hb]
  · have hno : ∀ x, k ≤ x → x < i → ∀ om, ops[x]? = some om → kind P om.op = .eff → ¬ Waits ops.toList i x ∧ ¬ Waits ops.toList x i := by
      intro x h1 h2 om hom he
      refine ⟨fun hwx => I.late x om h1 hom (hr x hwx) he, fun hwx => ?_⟩
      have := wlt (by omega) hwx
      omega
    have find : ∀ d, k + d ≤ i → (∀ x, k ≤ x → x < k + d → Soft P ops st x) ∨ ∃ m, k ≤ m ∧ m < k + d ∧ (∀ x, k ≤ x → x < m → Soft P ops st x) ∧ ∃ om, ops[m]? = some om ∧ kind P om.op = .eff ∧ wantedV ops.toList om (st m).T = some true := by
      intro d
      induction d with
      | zero => intro _; exact .inl fun x h1 h2 => by omega
      | succ d ih =>
        intro hd
        rcases ih (by omega) with hs | ⟨m, h1, h2, r⟩
        · have hom : ops[k + d]? = some ops[k + d] := by simp
          by_cases he : kind P ops[k + d].op = .eff
          · rcases C.wanted hom with hw' | hw'
            · exact .inr ⟨k + d, by omega, by omega, hs, _, hom, he, hw'⟩
            · refine .inl fun x h1 h2 => ?_
              rcases Nat.lt_or_ge x (k + d) with h | h
              · exact hs x h1 h
              · have : x = k + d := by omega
                subst this
                intro om hom'
                rw [hom] at hom'; injection hom' with e; subst e
                exact .inr hw'
          · refine .inl fun x h1 h2 => ?_
            rcases Nat.lt_or_ge x (k + d) with h | h
            · exact hs x h1 h
            · have : x = k + d := by omega
              subst this
              intro om hom'
              rw [hom] at hom'; injection hom' with e; subst e
              exact .inl he
        · exact .inr ⟨m, h1, by omega, r⟩
    obtain ⟨m, hkm, hmi, hsoft, hm⟩ : ∃ m, k ≤ m ∧ m ≤ i ∧ (∀ x, k ≤ x → x < m → Soft P ops st x) ∧ opV P o.op (st i).T (st m).H = some (v, (st m).H) := by
      rcases find (i - k) (by omega) with hs | ⟨m, h1, h2, hs, om, hom, he, hw'⟩
      · exact ⟨i, hki, Nat.le_refl _, fun x h1 h2 => hs x h1 (by omega), h0⟩
      · refine ⟨m, h1, by omega, hs, ?_⟩
        obtain ⟨n1, n2⟩ := hno m h1 (by omega) om hom he
        obtain ⟨v0, H1, H2, e1, e2⟩ := C.dyn i o m om ho hom hk he hw hw' n1 n2
        have e1' := (read_law hk e1).1
        have e2' := (read_law hk e2).1
        subst e1' e2'
        have := ups (i - (m + 1)) (m + 1) v0 (by omega) (fun x h1 h2 => hno x (by omega) (by omega)) e2
        rw [show m + 1 + (i - (m + 1)) = i from by omega, h0] at this
        injection this with this
        injection this with this _
        subst this
        exact e1
    refine (read_law hk hm).2 Hr fun x hx id hid b hb => ?_
    obtain ⟨hT, hnm⟩ := I.frame C ho hL hr
    have hev := ev_sim hT x
    rw [← ev_names hnm x hx] at hev
    obtain ⟨g, l, hl⟩ := VR_id hev hid
    have hR := I.step.rel
    obtain ⟨b', hb', hne⟩ : ∃ b', Hr[id]? = some b' ∧ b' ≠ .hole := by
      cases he : Hr[id]? with
      | none => rw [hR.fresh id g (by simpa using he)] at hl; cases hl
      | some b' => exact ⟨b', rfl, hR.ne he hl⟩
    have hpre : ∀ x, k ≤ x → x ≤ m → id < (st x).H.length → (st m).H[id]? = (st x).H[id]? := by
      intro x h1 h2 h3
      have := C.prefix_ x (m - x) (by omega) (fun y h4 h5 => hsoft y (by omega) (by omega)) id h3
      rwa [show x + (m - x) = m from by omega] at this
    by_cases h1 : id < (st k).H.length
    · rw [I.pre id h1, ← hpre k (Nat.le_refl _) hkm h1, hb]
    · obtain ⟨j, oj, hj, hoj, hLj, hkj, hwj, rfl⟩ := I.only id b' (by omega) hb' hne
      have hjn : j < ops.size := (Array.getElem?_eq_some_iff.1 hoj).1
      obtain ⟨b'', hb'', _, e⟩ := I.flt j oj hj hoj hLj hkj hwj
      have hjm : j < m := by
        rcases Nat.lt_or_ge j m with h | h
        · exact h
        · have h2 := C.len' h (by omega)
          have h3 := (List.getElem?_eq_some_iff.1 hb).1
          omega
      have := hpre (j + 1) (by omega) hjm (by rw [e]; simp)
      rw [hb, e] at this
      simp at this
      rw [hb'', this]
end
end Go.Am
