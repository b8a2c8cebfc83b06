/-
  The abstract machine, part S: a drawn region in whole. No statement of the seat stands here.
-/
import Derived.Test.YtdpdlobaabcjjaaAmR
namespace Go.Am
open Go

section
variable {P : Program} {cl : CallT} {N b0 : Nat} {ops : Array Oper} {st : Nat → St}
variable {ρ0 ρ : Ren} {W0 W : World} {L : Nat → Prop} {k : Nat} {Hr : Hp} {a : Act}

/-- All effects ahead of an effect that is ready are done. -/
theorem Inv.atEff (C : Ctx P cl N b0 ops st) (I : Inv P N b0 ops st ρ0 W0 L k ρ Hr a W) {i : Nat} {o : Oper} (ho : ops[i]? = some o) (hL : ¬ L i) (hr : ∀ j, Waits ops.toList i j → L j) (hk : kind P o.op = .eff) :
    Inv P N b0 ops st ρ0 W0 L i ρ Hr a W := by
  have hlt : i < ops.size := (Array.getElem?_eq_some_iff.1 ho).1
  have hki : k ≤ i := by
    rcases Nat.lt_or_ge i k with h | h
    · exact absurd (I.done i o h ho (by rw [hk]; rfl)) hL
    · exact h
  have := I.advTo C (i - k) k (by omega) fun j oj h1 h2 hoj => by
    have hji : j < i := by omega
    rcases C.drawn.ord j i oj o hji (by simpa using hoj) (by simpa using ho) with h | ⟨h, _⟩
    · exact ⟨fun _ => hr j h, I.late j oj h1 hoj (hr j h)⟩
    · have : ¬ isEff (kind P oj.op) = true := fun e => h ⟨e, hk⟩
      refine ⟨fun e => absurd e this, fun e => this (by rw [e]; rfl)⟩
  rwa [show k + (i - k) = i from by omega] at this

theorem exec_sim (C : Ctx P cl N b0 ops st) (I : Inv P N b0 ops st ρ0 W0 L k ρ Hr a W) {i : Nat} {o : Oper} (ho : ops[i]? = some o) (hL : ¬ L i) (hr : ∀ j, Waits ops.toList i j → L j) {Q : Exit → Act → World → Prop} {K : Act → World → Prop}
    (hK : ∀ k' ρ' Hr' a' W', Inv P N b0 ops st ρ0 W0 (fun x => x = i ∨ L x) k' ρ' Hr' a' W' → K a' W') : wpOp P ops Q i K a W := by
  have hlt : i < ops.size := (Array.getElem?_eq_some_iff.1 ho).1
  obtain ⟨hT, hnm⟩ := I.frame C ho hL hr
  have hwant : ∀ w, wantedV ops.toList o (st i).T = some w → Region.wanted o (yielded ops a.tmps) = w := fun w h =>
    wanted_sim (ρ := ρ) (T := (st i).T) (fun t ht => I.named C ho hL hr ht) h
  unfold wpOp
  simp only [ho]
  rcases C.step i o ho with ⟨hw, v, s1, h1, h2⟩ | ⟨hw, h2⟩
  · rw [hwant _ hw, if_pos rfl]
    obtain ⟨e1, e2, e3⟩ := setO_fr h2
    have hv : ∀ t, o.dst = some t → get (st (i + 1)).T t = v := fun t ht => by rw [e3, if_pos ht]
    have hdl : ∀ t, o.dst = some t → t < N := setO_lt h2
    refine .inl ?_
    have quiet : (kind P o.op = .pure ∨ kind P o.op = .read) → opV P o.op (st i).T Hr = some (v, Hr) → o.wp P a W K Q := by
      intro hk hop
      rw [opV_congr o.op (ev_names hnm)] at hop
      refine op_wp I.step.rel hT hop fun u ρ' W' hvu hst => hK k ρ' Hr _ W' ?_
      refine ⟨I.kn, I.step.trans hst, I.pre, fun j oj hj hoj hLj hkj hwj => ?_, fun id b hid hb hne => ?_, slot_put C I ho hL hst.le rfl hvu hdl hv, by rw [put_defers']; exact I.df.mono hst.le, (put_size _ _ _).trans I.sz, down_put I hr, fun j oj hj hoj he => .inr (I.done j oj hj hoj he), fun j oj hj hoj hLj => ?_⟩
      · rcases hLj with rfl | hLj
        · rw [ho] at hoj; injection hoj with hoj; subst hoj
          rw [hkj] at hk; rcases hk with hk | hk <;> cases hk
        · exact I.flt j oj hj hoj hLj hkj hwj
      · obtain ⟨j, oj, r1, r2, r3, r⟩ := I.only id b hid hb hne
        exact ⟨j, oj, r1, r2, .inr r3, r⟩
      · rcases hLj with rfl | hLj
        · rw [ho] at hoj; injection hoj with hoj; subst hoj
          intro e
          rw [e] at hk; rcases hk with hk | hk <;> cases hk
        · exact I.late j oj hj hoj hLj
    cases hk : kind P o.op with
    | pure => exact quiet (.inl hk) ((pure_law hk (stepV_op (by rw [hk]; nofun) h1).1).2 Hr)
    | read => exact quiet (.inr hk) (I.reads C ho hL hr hk hw (stepV_op (by rw [hk]; nofun) h1).1)
    | alloc =>
      obtain ⟨b, hb, eH, hop⟩ := alloc_law hk (stepV_op (by rw [hk]; nofun) h1).1
      have hki : k ≤ i := by
        rcases Nat.lt_or_ge i k with h | h
        · exact absurd (I.done i o h ho (by rw [hk]; rfl)) hL
        · exact h
      obtain ⟨ρi, ai, Wi, hRi⟩ := C.run i (Nat.le_of_lt hlt)
      have hbd : ρi.Bd (st i).H.length := fun id g h => hRi.rel.fresh id g h
      have hV := I.step.rel.view (I.bdb C hki (Nat.le_of_lt hlt))
      have hop := hop (viewH (st i).H.length Hr) (viewH_length _ _)
      rw [opV_congr o.op (ev_names hnm)] at hop
      have hTc : FrR (ρ.cut (st i).H.length) (restr (namesOf ops.toList o) (st i).T) a.tmps := by
        intro t
        have h := hT t
        rw [get_restr] at h ⊢
        split at h
        · rw [if_pos (by assumption)]; exact h.cut hbd (hRi.fr t)
        · rw [if_neg (by assumption)]; trivial
      have hi1 : (st (i + 1)).H.length = (st i).H.length + 1 := by rw [e2, eH]; simp
      have hapart : ∀ j oj, ops[j]? = some oj → L j → kind P oj.op = .alloc → wantedV ops.toList oj (st j).T = some true → k ≤ j → (st j).H.length ≠ (st i).H.length := by
        intro j oj hoj hLj hkj hwj hj e
        have hjn : j < ops.size := (Array.getElem?_eq_some_iff.1 hoj).1
        rcases Nat.lt_trichotomy j i with h | h | h
        · obtain ⟨_, _, _, ej⟩ := I.flt j oj hj hoj hLj hkj hwj
          have := C.len' (i := j + 1) (j := i) h (by omega)
          rw [ej] at this
          simp at this
          omega
        · subst h; exact hL hLj
        · have := C.len' (i := i + 1) (j := j) h (by omega)
          omega
      refine op_wp hV hTc hop fun u ρ' W' hvu hst => ?_
      have hlen : (viewH (st i).H.length Hr ++ [b]).length = (st i).H.length + 1 := by rw [List.length_append, viewH_length]; rfl
      have hm := Step.merge I.step.rel hV hst fun id b' h3 h4 h5 => by
        rw [hlen] at h4
        have : id = (st i).H.length := by omega
        subst this
        refine Classical.byContradiction fun hne => ?_
        obtain ⟨j, oj, r1, r2, r3, r4, r5, r6⟩ := I.only _ b' (C.len' hki (Nat.le_of_lt hlt)) h5 hne
        exact hapart j oj r2 r3 r4 r5 r1 r6.symm
      have hget : ∀ id, (joinH (viewH (st i).H.length Hr ++ [b]) Hr)[id]? = if id < (st i).H.length then (viewH (st i).H.length Hr)[id]? else if id = (st i).H.length then some b else Hr[id]? := by
        intro id
        rw [joinH_get, hlen]
        by_cases h1 : id < (st i).H.length
        · rw [if_pos (by omega), if_pos h1, List.getElem?_append_left (by rw [viewH_length]; exact h1)]
        · rw [if_neg h1]
          by_cases h2 : id = (st i).H.length
          · rw [if_pos h2, if_pos (by omega), List.getElem?_append_right (by rw [viewH_length]; omega), viewH_length]
            subst h2; simp
          · rw [if_neg h2, if_neg (by omega)]
      have hgl : ∀ id b', id < (st i).H.length → Hr[id]? = some b' → (joinH (viewH (st i).H.length Hr ++ [b]) Hr)[id]? = some b' := by
        intro id b' h1 h2
        rw [hget, if_pos h1, viewH_get, if_pos h1, h2]
      refine hK k _ _ _ W' ⟨I.kn, I.step.trans hm, fun id hid => ?_, fun j oj hj hoj hLj hkj hwj => ?_, fun id b' hid hb' hne => ?_, slot_put C I ho hL hm.le rfl (hvu.mono (join_le hst.rel)) hdl hv, by rw [put_defers']; exact I.df.mono hm.le, (put_size _ _ _).trans I.sz, down_put I hr, fun j oj hj hoj he => .inr (I.done j oj hj hoj he), fun j oj hj hoj hLj => ?_⟩
      · have h3 := C.len' hki (Nat.le_of_lt hlt)
        have h4 := I.pre id hid
        rw [List.getElem?_eq_getElem hid] at h4 ⊢
        exact hgl id _ (by omega) h4
      · rcases hLj with rfl | hLj
        · exact ⟨b, by rw [hget, if_neg (by omega), if_pos rfl], hb, e2.trans eH⟩
        · obtain ⟨bj, h3, h4, h5⟩ := I.flt j oj hj hoj hLj hkj hwj
          refine ⟨bj, ?_, h4, h5⟩
          have hne := hapart j oj hoj hLj hkj hwj hj
          by_cases h6 : (st j).H.length < (st i).H.length
          · exact hgl _ _ h6 h3
          · rw [hget, if_neg h6, if_neg hne, h3]
      · rw [hget] at hb'
        split at hb'
        · obtain ⟨j, oj, r1, r2, r3, r⟩ := I.only id b' hid (viewH_in hb' hne).2 hne
          exact ⟨j, oj, r1, r2, .inr r3, r⟩
        · split at hb'
          · rename_i h3
            exact ⟨i, o, hki, ho, .inl rfl, hk, hw, h3⟩
          · obtain ⟨j, oj, r1, r2, r3, r⟩ := I.only id b' hid hb' hne
            exact ⟨j, oj, r1, r2, .inr r3, r⟩
      · rcases hLj with rfl | hLj
        · rw [ho] at hoj; injection hoj with hoj; subst hoj
          rw [hk]; nofun
        · exact I.late j oj hj hoj hLj
    | eff =>
      have I := I.atEff C ho hL hr hk
      obtain ⟨ρi, ai, Wi, hRi⟩ := C.run i (Nat.le_of_lt hlt)
      have hbd : ρi.Bd (st i).H.length := fun id g h => hRi.rel.fresh id g h
      have hview : viewH (st i).H.length Hr = (st i).H := by
        refine List.ext_getElem? fun id => ?_
        rw [viewH_get]
        split
        · rename_i h3
          have h4 := I.pre id h3
          rw [List.getElem?_eq_getElem h3] at h4 ⊢
          rw [h4]
        · rw [List.getElem?_eq_none (by omega)]
      have hV := I.step.rel.view (I.bdb C (Nat.le_refl _) (Nat.le_of_lt hlt))
      have hV' := hV
      rw [hview] at hV'
      have hTc : FrR (ρ.cut (st i).H.length) (restr (namesOf ops.toList o) (st i).T) a.tmps := by
        intro t
        have h := hT t
        rw [get_restr] at h ⊢
        split at h
        · rw [if_pos (by assumption)]; exact h.cut hbd (hRi.fr t)
        · rw [if_neg (by assumption)]; trivial
      have hs : StR P b0 (ρ.cut (st i).H.length) N { st i with T := restr (namesOf ops.toList o) (st i).T } a W := ⟨hV', hTc, I.sz, I.df.cut hbd hRi.df⟩
      have hstep := stepV_congr (P := P) (cl := cl) hnm
      rw [h1] at hstep
      refine step_sim C.cok hs hstep fun u ρ' a1 W' ea _ hvu hd hst => ?_
      simp only at hd hst
      have hst : Step P b0 (ρ.cut (st i).H.length) ρ' (viewH (st i).H.length Hr) s1.H W W' := by rw [hview]; exact hst
      have hm := Step.merge I.step.rel hV hst fun id b' h3 h4 h5 => by
        refine Classical.byContradiction fun hne => ?_
        obtain ⟨j, oj, r1, r2, r3, r4, r5, r6⟩ := I.only _ b' h3 h5 hne
        have hji : j ≠ i := fun e => by subst e; exact hL r3
        have := C.len' (i := i + 1) (j := j) (by omega) (Nat.le_of_lt (Array.getElem?_eq_some_iff.1 r2).1)
        rw [e2] at this
        omega
      refine hK (i + 1) _ _ _ W' ⟨hlt, I.step.trans hm, fun id hid => ?_, fun j oj hj hoj hLj hkj hwj => ?_, fun id b' hid hb' hne => ?_, slot_put C I ho hL hm.le ea (hvu.mono (join_le hst.rel)) hdl hv, by rw [put_defers', e1]; exact hd.mono (join_le hst.rel), (put_size _ _ _).trans (by rw [ea]; exact I.sz), down_put I hr, fun j oj hj hoj he => ?_, fun j oj hj hoj hLj => ?_⟩
      · rw [e2] at hid ⊢
        rw [joinH_get, if_pos hid]
      · rcases hLj with rfl | hLj
        · omega
        · obtain ⟨bj, h3, h4, h5⟩ := I.flt j oj (by omega) hoj hLj hkj hwj
          refine ⟨bj, ?_, h4, h5⟩
          have := C.len' (i := i + 1) (j := j) hj (Nat.le_of_lt (Array.getElem?_eq_some_iff.1 hoj).1)
          rw [e2] at this
          rw [joinH_get, if_neg (by omega), h3]
      · rw [e2] at hid
        rw [joinH_get, if_neg (by omega)] at hb'
        have := C.len1 i hlt
        rw [e2] at this
        obtain ⟨j, oj, r1, r2, r3, r⟩ := I.only id b' (by omega) hb' hne
        have hji : j ≠ i := fun e => by subst e; exact hL r3
        exact ⟨j, oj, by omega, r2, .inr r3, r⟩
      · rcases Nat.lt_or_ge j i with h | h
        · exact .inr (I.done j oj h hoj he)
        · exact .inl (by omega)
      · rcases hLj with rfl | hLj
        · omega
        · exact I.late j oj (by omega) hoj hLj
  · rw [hwant _ hw, if_neg (by simp)]
    obtain ⟨e1, e2, e3⟩ := setO_fr h2
    have hv : ∀ t, o.dst = some t → get (st (i + 1)).T t = .tup [] := fun t ht => by rw [e3, if_pos ht]
    have hdl : ∀ t, o.dst = some t → t < N := setO_lt h2
    by_cases hk : kind P o.op = .eff
    · have I := I.atEff C ho hL hr hk
      refine hK (i + 1) ρ Hr _ W ⟨hlt, I.step, fun id hid => ?_, fun j oj hj hoj hLj hkj hwj => ?_, fun id b' hid hb' hne => ?_, slot_put C I ho hL (Ren.Le.refl _) rfl (v := .tup []) ⟨_, rfl, trivial⟩ hdl hv, by rw [put_defers', e1]; exact I.df, (put_size _ _ _).trans I.sz, down_put I hr, fun j oj hj hoj he => ?_, fun j oj hj hoj hLj => ?_⟩
      · rw [e2] at hid ⊢
        exact I.pre id hid
      · rcases hLj with rfl | hLj
        · omega
        · exact I.flt j oj (by omega) hoj hLj hkj hwj
      · rw [e2] at hid
        obtain ⟨j, oj, r1, r2, r3, r⟩ := I.only id b' hid hb' hne
        have hji : j ≠ i := fun e => by subst e; exact hL r3
        exact ⟨j, oj, by omega, r2, .inr r3, r⟩
      · rcases Nat.lt_or_ge j i with h | h
        · exact .inr (I.done j oj h hoj he)
        · exact .inl (by omega)
      · rcases hLj with rfl | hLj
        · omega
        · exact I.late j oj (by omega) hoj hLj
    · refine hK k ρ Hr _ W ⟨I.kn, I.step, I.pre, fun j oj hj hoj hLj hkj hwj => ?_, fun id b' hid hb' hne => ?_, slot_put C I ho hL (Ren.Le.refl _) rfl (v := .tup []) ⟨_, rfl, trivial⟩ hdl hv, by rw [put_defers']; exact I.df, (put_size _ _ _).trans I.sz, down_put I hr, fun j oj hj hoj he => .inr (I.done j oj hj hoj he), fun j oj hj hoj hLj => ?_⟩
      · rcases hLj with rfl | hLj
        · rw [ho] at hoj; injection hoj with hoj; subst hoj
          rw [hw] at hwj; cases hwj
        · exact I.flt j oj hj hoj hLj hkj hwj
      · obtain ⟨j, oj, r1, r2, r3, r⟩ := I.only id b' hid hb' hne
        exact ⟨j, oj, r1, r2, .inr r3, r⟩
      · rcases hLj with rfl | hLj
        · rw [ho] at hoj; injection hoj with hoj; subst hoj
          exact hk
        · exact I.late j oj hj hoj hLj

/-- All is done. -/
theorem Inv.final (C : Ctx P cl N b0 ops st) (I : Inv P N b0 ops st ρ0 W0 L k ρ Hr a W) (hall : ∀ i, i < ops.size → L i) : StR P b0 ρ N (st ops.size) a W ∧ Step P b0 ρ0 ρ (st 0).H (st ops.size).H W0 W := by
  have I' := I.advTo C (ops.size - k) k (by have := I.kn; omega) fun i o h1 h2 ho => ⟨fun _ => hall i (Array.getElem?_eq_some_iff.1 ho).1, I.late i o h1 ho (hall i (Array.getElem?_eq_some_iff.1 ho).1)⟩
  rw [show k + (ops.size - k) = ops.size from by have := I.kn; omega] at I'
  have hst := I'.step.trim (C.len' (Nat.zero_le _) (Nat.le_refl _)) I'.pre fun id b hid hb => by
    refine Classical.byContradiction fun hne => ?_
    obtain ⟨j, oj, r1, r2, _⟩ := I'.only id b hid hb hne
    have := (Array.getElem?_eq_some_iff.1 r2).1
    omega
  exact ⟨⟨hst.rel, fun t => I'.slot t ops.size (Nat.le_refl _) (fun w o hw _ _ => hall w hw) (fun w o hw how _ => by have := (Array.getElem?_eq_some_iff.1 how).1; omega), I'.sz, I'.df⟩, hst⟩

theorem filter_lt {α : Type} {p p' : α → Bool} {x : α} : ∀ {l : List α}, x ∈ l → p x = true → p' x = false → (∀ y, p' y = true → p y = true) → (l.filter p').length < (l.filter p).length
  | y :: l, hx, h1, h2, h3 => by
    have hle : (l.filter p').length ≤ (l.filter p).length := by
      clear hx
      induction l with
      | nil => simp
      | cons z l ih =>
        simp only [List.filter_cons]
        by_cases hz : p' z = true
        · rw [if_pos hz, if_pos (h3 z hz)]; simpa using ih
        · rw [if_neg hz]; split <;> (try simp only [List.length_cons]) <;> omega
    simp only [List.filter_cons]
    rcases List.mem_cons.1 hx with rfl | hx
    · rw [if_neg (by simp [h2]), if_pos h1]
      simp only [List.length_cons]; omega
    · have := filter_lt hx h1 h2 h3
      by_cases hz : p' y = true
      · rw [if_pos hz, if_pos (h3 y hz)]; simpa using this
      · rw [if_neg hz]; split <;> (try simp only [List.length_cons]) <;> omega

def unlisted (n : Nat) (listed : Array Bool) : Nat := ((List.range n).filter fun i => !listed.getD i false).length
theorem any_sim (C : Ctx P cl N b0 ops st) {Q : Exit → Act → World → Prop} (hq : ∀ ρ' a' W', StR P b0 ρ' N (st ops.size) a' W' → Step P b0 ρ0 ρ' (st 0).H (st ops.size).H W0 W' → Q .normal a' W') :
    ∀ (fuel : Nat) (listed : Array Bool) (k : Nat) (ρ : Ren) (Hr : Hp) (a : Act) (W : World), listed.size = ops.size → unlisted ops.size listed ≤ fuel → Inv P N b0 ops st ρ0 W0 (fun i => listed.getD i false = true) k ρ Hr a W → wpAny P .any ops Q fuel listed a W := by
  have ready_of : ∀ (listed : Array Bool), listed.size = ops.size → ∀ i, i ∈ Region.ready .any ops listed ↔ ∃ o, ops[i]? = some o ∧ listed.getD i false = false ∧ ∀ e ∈ o.after.toList, Region.binds .any e = true → listed.getD e.on false = true := by
    intro listed hsz i
    unfold Region.ready
    rw [List.mem_filter, List.mem_range]
    constructor
    · rintro ⟨hi, h⟩
      simp only [Bool.and_eq_true] at h
      have ho : ops[i]? = some ops[i] := by simp [hi]
      refine ⟨_, ho, ?_, fun e he hb => ?_⟩
      · have h1 := h.1
        simp only [Array.getD_eq_getD_getElem?, hsz, hi, getElem?_pos, Option.getD_some, Bool.not_eq_true'] at h1 ⊢
        exact h1
      · have h2 := h.2
        rw [ho] at h2
        simp only [Option.map_some, Option.getD_some] at h2
        rw [← Array.all_toList] at h2
        have := List.all_eq_true.1 h2 e he
        simpa [hb] using this
    · rintro ⟨o, ho, h1, h2⟩
      have hi := (Array.getElem?_eq_some_iff.1 ho).1
      refine ⟨hi, ?_⟩
      simp only [Bool.and_eq_true]
      constructor
      · simp only [Array.getD_eq_getD_getElem?, hsz, hi, getElem?_pos, Option.getD_some, Bool.not_eq_true'] at h1 ⊢
        exact h1
      · rw [ho]
        simp only [Option.map_some, Option.getD_some]
        rw [← Array.all_toList, List.all_eq_true]
        intro e he
        cases hb : Region.binds .any e with
        | false => rfl
        | true => simpa using h2 e he hb
  have all_of : ∀ (listed : Array Bool), listed.size = ops.size → Region.ready .any ops listed = [] → ∀ i, i < ops.size → listed.getD i false = true := by
    intro listed hsz hnil i
    induction i using Nat.strongRecOn with
    | _ i ih =>
      intro hi
      cases hl : listed.getD i false with
      | true => rfl
      | false =>
        have ho : ops[i]? = some ops[i] := by simp [hi]
        have : i ∈ Region.ready .any ops listed := (ready_of listed hsz i).2 ⟨_, ho, hl, fun e he hb => by
          have := C.drawn.back i _ (by simp) e he hb
          exact ih e.on this (by omega)⟩
        rw [hnil] at this
        cases this
  intro fuel
  induction fuel with
  | zero =>
    intro listed k ρ Hr a W hsz hu I
    have hall : ∀ i, i < ops.size → listed.getD i false = true := by
      intro i hi
      have h0 : (List.range ops.size).filter (fun i => !listed.getD i false) = [] := List.eq_nil_of_length_eq_zero (by unfold unlisted at hu; omega)
      cases hl : listed.getD i false with
      | true => rfl
      | false =>
        have : i ∈ (List.range ops.size).filter (fun i => !listed.getD i false) := by simp [hi]; simpa using hl
        rw [h0] at this
        cases this
    obtain ⟨h1, h2⟩ := I.final C hall
    refine ⟨?_, hq ρ a W h1 h2⟩
    refine List.eq_nil_iff_forall_not_mem.2 fun i hi => ?_
    obtain ⟨o, ho, hf, _⟩ := (ready_of listed hsz i).1 hi
    rw [hall i (Array.getElem?_eq_some_iff.1 ho).1] at hf
    cases hf
  | succ fuel ih =>
    intro listed k ρ Hr a W hsz hu I
    refine ⟨fun hnil => ?_, fun i hi => ?_⟩
    · obtain ⟨h1, h2⟩ := I.final C (all_of listed hsz hnil)
      exact hq ρ a W h1 h2
    · obtain ⟨o, ho, hf, hedge⟩ := (ready_of listed hsz i).1 hi
      have hlt := (Array.getElem?_eq_some_iff.1 ho).1
      refine exec_sim C I ho (by rw [hf]; nofun) (fun j hw => ?_) fun k' ρ' Hr' a' W' I' => ?_
      · obtain ⟨e, he, hb, h⟩ := waits_edge (by simpa using ho) (C.drawn.back i o (by simpa using ho)) hw
        have h1 := hedge e he hb
        rcases h with rfl | h
        · exact h1
        · exact I.down _ _ h1 h
      · have hL : (fun x => x = i ∨ listed.getD x false = true) = fun x => (listed.setIfInBounds i true).getD x false = true := by
          funext x
          simp only [Array.getD_eq_getD_getElem?, eq_iff_iff]
          by_cases hx : i = x
          · subst hx
            simp [hsz, hlt]
          · rw [Array.getElem?_setIfInBounds_ne hx]
            constructor
            · rintro (h | h)
              · exact absurd h.symm hx
              · exact h
            · exact .inr
        rw [hL] at I'
        refine ih _ k' ρ' Hr' a' W' (by simpa using hsz) ?_ I'
        have hless : unlisted ops.size (listed.setIfInBounds i true) < unlisted ops.size listed := by
          refine filter_lt (x := i) (by simpa using hlt) (by simp [hf]) (by simp [Array.getD_eq_getD_getElem?, hsz, hlt]) fun y hy => ?_
          by_cases hx : i = y
          · subst hx
            simp [Array.getD_eq_getD_getElem?, hsz, hlt] at hy
          · simp only [Array.getD_eq_getD_getElem?] at hy ⊢
            rwa [Array.getElem?_setIfInBounds_ne hx] at hy
        omega

theorem Rel.drawn {H : Hp} (h : Rel P b0 ρ H W) (n : Nat) : Rel P b0 ρ H { W with drawn := n } := ⟨fun id b hb hne => by
    obtain ⟨l, hl, hk⟩ := h.blk id b hb hne
    exact ⟨l, hl, hk.world rfl⟩, h.hole, h.inj, h.fresh, h.gen, h.size⟩
theorem Step.drawn {ρ' : Ren} {H H' : Hp} {W' : World} {n : Nat} (h : Step P b0 ρ ρ' H H' { W with drawn := n } W') : Step P b0 ρ ρ' H H' W W' := ⟨h.rel, h.le, h.frame, h.new, h.size, h.len, h.os, h.tape, h.output⟩

theorem draw_sim (hm : P.follows .mixedOrders = true) (hcl : ClOk P cl) {s sf : St} {tr : List St} {id : Nat} {Q : Exit → Act → World → Prop} (hs : StR P b0 ρ N s a W) (hd : drawOk P ops.toList = true) (ht : traceV P cl N ops.toList ops.toList s = some (tr, sf))
    (hy : drawDyn P ops.toList (tr ++ [sf]) = true) (hq : ∀ ρ' a' W', StR P b0 ρ' N sf a' W' → Step P b0 ρ ρ' s.H sf.H W W' → Q .normal a' W') : (Code.region id ops true).wp P Q a W := by
  have hs' : StR P b0 ρ N s a { W with drawn := W.drawn + 1 } := ⟨hs.rel.drawn _, hs.fr, hs.sz, hs.df⟩
  obtain ⟨st, C, h0, hn⟩ := ctx_of hcl hd ht hy hs'
  refine wp_region_any hm (any_sim (ρ0 := ρ) (W0 := { W with drawn := W.drawn + 1 }) C (fun ρ' a' W' h1 h2 => ?_) ops.size (Array.replicate ops.size false) 0 ρ s.H a _ (by simp) ?_ ?_)
  · rw [hn] at h1 h2
    rw [h0] at h2
    exact hq ρ' a' W' h1 h2.drawn
  · exact Nat.le_trans (List.length_filter_le _ _) (by simp)
  · have hL : ∀ i, ¬ (Array.replicate ops.size false).getD i false = true := by
      intro i
      rw [Array.getD_eq_getD_getElem?, Array.getElem?_replicate]
      split <;> simp
    refine ⟨Nat.zero_le _, (by rw [h0]; exact Step.refl hs'.rel), fun id _ => by rw [h0], fun j o _ _ h => absurd h (hL j), fun id b h1 h2 => ?_, fun t x hx h1 _ => ?_, (by rw [h0]; exact hs.df), hs.sz, fun j i h => absurd h (hL j), fun i o hi => absurd hi (Nat.not_lt_zero _), fun i o _ _ h => absurd h (hL i)⟩
    · rw [h0] at h1
      rw [List.getElem?_eq_none h1] at h2
      cases h2
    · have := C.keep (t := t) 0 x (by omega) fun w o _ hw how hd => by
        exact hL w (h1 w o (by omega) how hd)
      rw [Nat.zero_add] at this
      rw [this, h0]
      exact hs.fr t
end
end Go.Am
