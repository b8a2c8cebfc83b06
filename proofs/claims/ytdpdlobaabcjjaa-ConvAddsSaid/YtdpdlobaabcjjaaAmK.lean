/-
  The abstract machine, part K: maps, the operations on them, held against the model. No statement of the seat stands here.
-/
import Derived.Test.YtdpdlobaabcjjaaAmJ
namespace Go.Am
open Go

section
variable {P : Program} {b0 : Nat} {ρ : Ren} {H : Hp} {W : World}

theorem ck_int (W : World) (d : Nat) (em : Bool) {kt : TypeId} {k : IntKind} (hu : P.underlying kt = some (.int k)) (u : Value) : (Instr.checkKey em (d + 1) kt u).run P W = .ok () W := by
  simp [Instr.checkKey, run_underlying hu]
theorem ck_str (W : World) (d : Nat) (em : Bool) {kt : TypeId} (hu : P.underlying kt = some .string) (u : Value) : (Instr.checkKey em (d + 1) kt u).run P W = .ok () W := by
  simp [Instr.checkKey, run_underlying hu]
theorem ck_bool (W : World) (d : Nat) (em : Bool) {kt : TypeId} (hu : P.underlying kt = some .bool) (u : Value) : (Instr.checkKey em (d + 1) kt u).run P W = .ok () W := by
  simp [Instr.checkKey, run_underlying hu]
theorem checkKey_run {kt : TypeId} {k : V} {u : Value} (em : Bool) (hk : keyOk P kt k = true) (hu : VA ρ k u) (W : World) : (Instr.checkKey em 10000 kt u).run P W = .ok () W := by
  obtain ⟨ks, hf, c1, hs, sh⟩ := keyOk_spec hk
  rcases sh with ⟨ha, cs, rfl⟩ | ⟨ha, hn⟩
  · obtain ⟨X, rfl, hX⟩ := hu
    simp only [V.cells] at c1
    have l1 := ckOks_length c1
    have f1 : (cs.drop 0).take ks.length = cs := by rw [l1]; simp
    obtain ⟨a, e1, e2⟩ := flat_check (P := P) (ρ := ρ) (W := W) 8 kt ks hf 10000 (by omega) em X cs 0 hX (by omega) hs (by rw [f1]; exact c1)
    have sX : X.size = ks.length := by rw [l1]; simpa using hX.length.symm
    have g1 : (part kt X 0).run P W = .ok (.agg X) W := by
      have : X.extract 0 ks.length = X := by rw [← sX]; simp
      simp [part, run_aggT ha, run_szOf hs, this]
    rw [g1] at e1
    injection e1 with e1 _
    subst e1
    exact e2
  · simp only [flatT] at hf
    split at hf
    · rename_i hu; exact ck_int W 9999 em hu u
    · rename_i hu; exact ck_str W 9999 em hu u
    · rename_i hu; exact ck_bool W 9999 em hu u
    · rename_i hu; simp [aggT, hu] at ha
    · rename_i hu; simp [aggT, hu] at ha
    · cases hf

/-- Where a key stands. -/
def findC (es : List (V × V)) (k : V) (i : Nat) : Option Nat := match es with
  | [] => none
  | e :: es => if eqCells e.1.cells k.cells = true then some i else findC es k (i + 1)
theorem findC_eq (k : V) : ∀ (es : List (V × V)) (i : Nat), findC es k i = (findM es k).map (· + i)
  | [], i => rfl
  | e :: es, i => by
    unfold findM
    rw [List.findIdx?_cons]
    simp only [findC]
    split
    · simp
    · rw [findC_eq k es (i + 1)]
      unfold findM
      rw [Option.map_map]
      congr 1
      funext j
      simp
      omega

def EntRel (P : Program) (ρ : Ren) (kt : TypeId) : List (V × V) → List MapEntry → Prop
  | [], [] => True
  | e :: es, m :: ms => (VA ρ e.1 m.key ∧ VA ρ e.2 m.val ∧ keyOk P kt e.1 = true) ∧ EntRel P ρ kt es ms
  | _, _ => False
theorem EntsRel.list {kt : TypeId} {es : List (V × V)} {ents : Array MapEntry} {clk : Nat} (h : EntsRel P ρ kt es ents clk) : EntRel P ρ kt es ents.toList := by
  have hs : es.length = ents.toList.length := by simpa using h.size
  have ha : ∀ (i : Nat) (e : V × V), es[i]? = some e → ∃ m, ents.toList[i]? = some m ∧ VA ρ e.1 m.key ∧ VA ρ e.2 m.val ∧ keyOk P kt e.1 = true := by
    intro i e he
    obtain ⟨m, h1, h2, h3, h4, _⟩ := h.at_ i e he
    exact ⟨m, by simpa using h1, h2, h3, h4⟩
  generalize ents.toList = ms at hs ha
  clear h
  induction es generalizing ms with
  | nil => cases ms with
    | nil => trivial
    | cons => simp at hs
  | cons e es ih => cases ms with
    | nil => simp at hs
    | cons m ms =>
      obtain ⟨m', h1, h2⟩ := ha 0 e rfl
      simp at h1
      subst h1
      exact ⟨h2, ih ms (by simpa using hs) fun i e' he' => by simpa using ha (i + 1) e' (by simpa using he')⟩

theorem eqCells_comm : ∀ x y : List V, eqCells x y = eqCells y x
  | [], [] => rfl
  | [], _ :: _ => rfl
  | _ :: _, [] => rfl
  | a :: x, b :: y => by
    simp only [eqCells]
    rw [eqCells_comm x y]
    congr 1
    cases a <;> cases b <;> simp [eqCell, Bool.beq_comm]

theorem findKey_run {kt : TypeId} {k : V} {u : Value} (hk : keyOk P kt k = true) (hu : VA ρ k u) (W : World) : ∀ (es : List (V × V)) (ms : List MapEntry), EntRel P ρ kt es ms →
    (Instr.findKey kt u ms).run P W = .ok ((findM es k).bind fun i => (ms[i]?).map fun m => (i, m.val)) W := by
  intro es ms hes
  obtain ⟨ks, hf, c1, hs, sh⟩ := keyOk_spec hk
  -- one by one, by '=='
  have asking : ∀ (es : List (V × V)) (ms : List MapEntry) (i : Nat), EntRel P ρ kt es ms → (Instr.findAsking kt u ms i).run P W = .ok ((findC es k i).bind fun j => (ms[j - i]?).map fun m => (j, m.val)) W := by
    intro es
    induction es with
    | nil => intro ms i h; cases ms with
      | nil => simp [Instr.findAsking, findC]
      | cons => exact h.elim
    | cons e es ih => intro ms i h; cases ms with
      | nil => exact h.elim
      | cons m ms =>
        obtain ⟨⟨h1, h2, h3⟩, h4⟩ := h
        obtain ⟨q1, _⟩ := eq_sim (P := P) (W := W) hu.toVR h1.toVR (key_eq hk h3)
        simp only [Instr.findAsking, Sem.run_bind, q1, Result.andThen_ok, Sem.run_ite, findC]
        rw [eqCells_comm e.1.cells k.cells]
        split
        · simp
        · rw [ih ms (i + 1) h4]
          congr 1
          have hge : ∀ j, findC es k (i + 1) = some j → i + 1 ≤ j := by
            intro j hj
            rw [findC_eq] at hj
            obtain ⟨q, _, rfl⟩ := Option.map_eq_some_iff.1 hj
            omega
          cases hq : findC es k (i + 1) with
          | none => rfl
          | some j =>
            have := hge j hq
            simp only [Option.bind_some]
            rw [show j - i = (j - (i + 1)) + 1 from by omega, List.getElem?_cons_succ]
  have final : (Instr.findAsking kt u ms 0).run P W = .ok ((findM es k).bind fun i => (ms[i]?).map fun m => (i, m.val)) W := by
    rw [asking es ms 0 hes, findC_eq]
    congr 1
    simp
  unfold Instr.findKey
  simp only [flatT] at hf
  have now : ∀ (kind : TypeDesc), P.underlying kt = some kind → (∀ (e : V × V) (m : MapEntry), VA ρ e.1 m.key → keyOk P kt e.1 = true → Instr.sameNow kind u m.key = some (eqCells e.1.cells k.cells)) →
      ∀ (es : List (V × V)) (ms : List MapEntry) (i : Nat), EntRel P ρ kt es ms → Instr.findNow kind u ms i = some ((findC es k i).bind fun j => (ms[j - i]?).map fun m => (j, m.val)) := by
    intro kind _ hs es
    induction es with
    | nil => intro ms i h; cases ms with
      | nil => simp [Instr.findNow, findC]
      | cons => exact h.elim
    | cons e es ih => intro ms i h; cases ms with
      | nil => exact h.elim
      | cons m ms =>
        obtain ⟨⟨h1, h2, h3⟩, h4⟩ := h
        simp only [Instr.findNow, hs e m h1 h3, findC]
        split
        · rename_i e1; injection e1 with e1; rw [if_pos e1]; simp
        · rename_i e1
          injection e1 with e1
          rw [if_neg (by simp [e1]), ih ms (i + 1) h4]
          congr 1
          have hge : ∀ j, findC es k (i + 1) = some j → i + 1 ≤ j := by
            intro j hj
            rw [findC_eq] at hj
            obtain ⟨q, _, rfl⟩ := Option.map_eq_some_iff.1 hj
            omega
          cases hq : findC es k (i + 1) with
          | none => rfl
          | some j =>
            have := hge j hq
            simp only [Option.bind_some]
            rw [show j - i = (j - (i + 1)) + 1 from by omega, List.getElem?_cons_succ]
        · rename_i e1; cases e1
  have nowFinal : ∀ kind, P.underlying kt = some kind → (∀ (e : V × V) (m : MapEntry), VA ρ e.1 m.key → keyOk P kt e.1 = true → Instr.sameNow kind u m.key = some (eqCells e.1.cells k.cells)) →
      (do match Instr.findNow (← underlying kt) u ms 0 with | some r => pure r | none => Instr.findAsking kt u ms : Sem (Option (Nat × Value))).run P W = .ok ((findM es k).bind fun i => (ms[i]?).map fun m => (i, m.val)) W := by
    intro kind hu hs
    simp only [Sem.run_bind, run_underlying hu, Result.andThen_ok, now kind hu hs es ms 0 hes, Sem.run_pure]
    rw [findC_eq]
    congr 1
    simp
  have scal : ∀ (q : CK), ks = [q] → (aggT P kt = some false) → ∀ (e : V × V), keyOk P kt e.1 = true → e.1.cells = [e.1] ∧ k.cells = [k] ∧ ckOk q e.1 = true ∧ ckOk q k = true := by
    intro q hq ha e he
    subst hq
    obtain ⟨ks', hf', c2, _, sh2⟩ := keyOk_spec he
    have : ks' = [q] := by
      have h1 : flatT P 8 kt = some [q] := (keyOk_spec hk).elim fun ks2 h2 => by
        have := h2.1
        simp only [flatT] at this
        rw [show flatT P 8 kt = flatT P (7 + 1) kt from rfl]
        simp only [flatT]
        exact hf
      rw [h1] at hf'
      injection hf' with hf'
      exact hf'.symm
    subst this
    have nk : ∀ cs, k ≠ .agg cs := by rcases sh with ⟨hb, _⟩ | ⟨_, hn⟩; (rw [ha] at hb; cases hb); exact hn
    have ne : ∀ cs, e.1 ≠ .agg cs := by rcases sh2 with ⟨hb, _⟩ | ⟨_, hn⟩; (rw [ha] at hb; cases hb); exact hn
    have e1 : k.cells = [k] := by cases k <;> first | rfl | exact absurd rfl (nk _)
    have e2 : e.1.cells = [e.1] := by
      generalize e.1 = x at ne
      cases x <;> first | rfl | exact absurd rfl (ne _)
    rw [e1] at c1
    rw [e2] at c2
    exact ⟨e2, e1, by simpa [ckOks] using c2, by simpa [ckOks] using c1⟩
  split at hf
  · rename_i kk hun
    simp only [Option.some.injEq] at hf
    refine nowFinal _ hun fun e m he hke => ?_
    obtain ⟨e1, e2, c3, c4⟩ := scal _ hf.symm (by simp [aggT, hun]) e hke
    rw [e1, e2]
    generalize e.1 = x at he c3
    cases x <;> simp [ckOk] at c3
    cases k <;> simp [ckOk] at c4
    subst c3 c4
    obtain rfl : u = _ := hu
    rw [show m.key = _ from he]
    simp [Instr.sameNow, eqCells, eqCell, Bool.beq_comm]
  · rename_i hun
    simp only [Option.some.injEq] at hf
    refine nowFinal _ hun fun e m he hke => ?_
    obtain ⟨e1, e2, c3, c4⟩ := scal _ hf.symm (by simp [aggT, hun]) e hke
    rw [e1, e2]
    generalize e.1 = x at he c3
    cases x <;> simp [ckOk] at c3
    cases k <;> simp [ckOk] at c4
    obtain rfl : u = _ := hu
    rw [show m.key = _ from he]
    simp only [Instr.sameNow, eqCells, eqCell, Bool.and_true, Option.some.injEq]
    rw [beq_toListBytes, bytes_toList, bytes_toList, Bool.beq_comm]
  · rename_i hun
    simp only [Option.some.injEq] at hf
    refine nowFinal _ hun fun e m he hke => ?_
    obtain ⟨e1, e2, c3, c4⟩ := scal _ hf.symm (by simp [aggT, hun]) e hke
    rw [e1, e2]
    generalize e.1 = x at he c3
    cases x <;> simp [ckOk] at c3
    cases k <;> simp [ckOk] at c4
    obtain rfl : u = _ := hu
    rw [show m.key = _ from he]
    simp [Instr.sameNow, eqCells, eqCell, Bool.beq_comm]
  all_goals
    have deep : ∀ kind, P.underlying kt = some kind → (∀ m, Instr.sameNow kind u m = none) →
        (do match Instr.findNow (← underlying kt) u ms 0 with | some r => pure r | none => Instr.findAsking kt u ms : Sem (Option (Nat × Value))).run P W = .ok ((findM es k).bind fun i => (ms[i]?).map fun m => (i, m.val)) W := by
      intro kind hu hs
      simp only [Sem.run_bind, run_underlying hu, Result.andThen_ok]
      cases ms with
      | nil => cases es with
        | nil => simp [Instr.findNow, findM]
        | cons => exact hes.elim
      | cons m ms => simp only [Instr.findNow, hs]; exact final
  · rename_i hun
    exact deep _ hun fun m => by cases u <;> cases m <;> rfl
  · rename_i hun
    exact deep _ hun fun m => by cases u <;> cases m <;> rfl
  · cases hf

theorem findM_lt {es : List (V × V)} {k : V} {i : Nat} (h : findM es k = some i) : ∃ e, es[i]? = some e ∧ eqCells e.1.cells k.cells = true := by
  unfold findM at h
  obtain ⟨hlt, h1, _⟩ := List.findIdx?_eq_some_iff_getElem.1 h
  exact ⟨es[i], List.getElem?_eq_getElem hlt, by simpa using h1⟩

/-- A map at its place. -/
theorem map_at (hR : Rel P b0 ρ H W) {id : Nat} {q : TypeId × List (V × V)} (h : getMap H id = some q) {l : Loc} (hl : ρ id 0 = some l) :
    H[id]? = some (.map q.1 q.2) ∧ l.own = true ∧ b0 ≤ l.blk ∧ ∃ ents clk, W.heap[l.blk]? = some (.map ents clk) ∧ EntsRel P ρ q.1 q.2 ents clk := by
  unfold getMap at h
  split at h
  · rename_i kt es hid
    injection h with h
    subst h
    obtain ⟨l', hl', hk⟩ := hR.blk id _ hid nofun
    simp only [AB.gen] at hl'
    rw [hl] at hl'
    injection hl' with hl'
    subst hl'
    obtain ⟨h1, h2, ents, clk, h3, h4⟩ := hk
    exact ⟨hid, h1, h2, ents, clk, h3, h4⟩
  · cases h
theorem run_getObj_map {r : Nat} {ents : Array MapEntry} {clk : Nat} (h : W.heap[r]? = some (.map ents clk)) : (getObj r).run P W = .ok (.map ents clk) W := by
  simp [getObj, Sem.run, h]

theorem elemVA {v : V} {u : Value} (h : VR ρ v u) (he : elemOk v = true) : VA ρ v u :=
  h.va fun vs e => by subst e; simp [elemOk, V.isCell] at he

theorem lookup_sim (hR : Rel P b0 ρ H W) {t : TypeId} {m k v : V} {um uk : Value} {ok : Bool} (hm : VR ρ m um) (hk : VR ρ k uk) (h : lookupV P t H m k ok = some v) : Out P b0 ρ H W ((Instr.lookup t um uk ok).run P W) v H := by
  unfold lookupV at h
  split at h
  case h_2 => cases h
  rename_i kt et hun
  have hz : ∀ z, zeroV P et = some z → ∃ u, (zeroValue et).run P W = .ok u W ∧ VA ρ z u := by
    intro z hz
    obtain ⟨u, hu, rfl⟩ := run_zeroV hz W
    refine ⟨u, hu, (VR_ofVal ρ u).va fun vs e => ?_⟩
    unfold ofVal at e
    split at e
    · cases e
    · exact (ofCell_not _).2 _ e
  have fin : ∀ (x : V) (u : Value) (b : Bool), VA ρ x u → VR ρ (if ok then .tup [x, .bool b] else x) (if ok then .tuple #[u, .bool b] else u) := by
    intro x u b hx
    cases ok
    · exact hx.toVR
    · exact ⟨_, rfl, hx, rfl, trivial⟩
  split at h
  · -- a nil map
    obtain rfl : um = .map none := hm
    simp only [Option.bind_some] at h
    split at h
    · rename_i hc
      have hka : VA ρ k uk := hk.va fun vs e => by
        subst e
        have := hc.2
        obtain ⟨ks, hf, c1, _⟩ := keyOk_spec this
        cases ks <;> simp [V.cells, ckOks, ckOk] at c1
      obtain ⟨r, hr, rfl⟩ := Option.map_eq_some_iff.1 h
      have hr : (zeroV P et).map (fun z => (z, false)) = some r := hr
      obtain ⟨z, hz', rfl⟩ := Option.map_eq_some_iff.1 hr
      obtain ⟨u, hu, hva⟩ := hz z hz'
      have hf := findKey_run (W := W) hc.2 hka [] [] trivial
      refine ⟨_, W, ρ, ?_, fin z u false hva, Step.refl hR⟩
      simp [Instr.lookup, run_underlying hun, checkKey_run true hc.2 hka W, hf, findM, hu]
    · cases h
  · rename_i id
    obtain ⟨l, hloc, rfl⟩ := hm
    cases hg : getMap H id with
    | none => rw [hg] at h; cases h
    | some q =>
    rw [hg] at h
    simp only [Option.bind_some] at h
    split at h
    · rename_i hc
      obtain ⟨hkt, hko⟩ := hc
      subst hkt
      have hka : VA ρ k uk := hk.va fun vs e => by
        subst e
        obtain ⟨ks, hf, c1, _⟩ := keyOk_spec hko
        cases ks <;> simp [V.cells, ckOks, ckOk] at c1
      obtain ⟨hid, hlo, hlb, ents, clk, hC, hE⟩ := map_at hR hg hloc
      have hf := findKey_run (W := W) hko hka q.2 ents.toList hE.list
      have hgo := run_getObj_map (P := P) hC
      obtain ⟨r, hr, rfl⟩ := Option.map_eq_some_iff.1 h
      cases hq : findM q.2 k with
      | none =>
        rw [hq] at hr hf
        obtain ⟨z, hz', rfl⟩ := Option.map_eq_some_iff.1 hr
        obtain ⟨u, hu, hva⟩ := hz z hz'
        refine ⟨_, W, ρ, ?_, fin z u false hva, Step.refl hR⟩
        simp [Instr.lookup, run_underlying hun, hgo, checkKey_run _ hko hka W, hf, hu]
      | some i =>
        rw [hq] at hr hf
        obtain ⟨e, he, rfl⟩ := Option.map_eq_some_iff.1 hr
        obtain ⟨me, hme, _, hva, _⟩ := hE.at_ i e he
        have hme' : ents.toList[i]? = some me := by simpa using hme
        simp only [Option.bind_some, hme', Option.map_some] at hf
        refine ⟨_, W, ρ, ?_, fin e.2 me.val true hva, Step.refl hR⟩
        simp [Instr.lookup, run_underlying hun, hgo, checkKey_run _ hko hka W, hf]
    · cases h
  · cases h

theorem keyVA {kt : TypeId} {k : V} {uk : Value} (hk : VR ρ k uk) (hko : keyOk P kt k = true) : VA ρ k uk := hk.va fun vs e => by
  subst e
  obtain ⟨ks, hf, c1, _⟩ := keyOk_spec hko
  cases ks <;> simp [V.cells, ckOks, ckOk] at c1

/-- A map is written. -/
theorem Rel.putMap (hR : Rel P b0 ρ H W) {id : Nat} {kt : TypeId} {es es' : List (V × V)} (hid : H[id]? = some (.map kt es)) {l : Loc} (hl : ρ id 0 = some l) {ents' : Array MapEntry} {clk' : Nat} (hE : EntsRel P ρ kt es' ents' clk') :
    Step P b0 ρ ρ H (H.set id (.map kt es')) W { W with heap := W.heap.setIfInBounds l.blk (.map ents' clk') } := by
  obtain ⟨l', hl', hk⟩ := hR.blk id _ hid nofun
  simp only [AB.gen] at hl'
  rw [hl] at hl'
  injection hl' with hl'
  subst hl'
  have hlt2 := hk.lt
  obtain ⟨h1, h2, ents, clk, hC, _⟩ := hk
  have hlt : id < H.length := (List.getElem?_eq_some_iff.1 hid).1
  have hadd : renAdd ρ id (AB.gen (.map kt es')) l = ρ := by
    funext i k
    unfold renAdd
    split
    · rename_i e
      obtain ⟨rfl, rfl⟩ := e
      exact hl.symm
    · rfl
  have := hR.upd (W' := { W with heap := W.heap.setIfInBounds l.blk (.map ents' clk') }) id (.map kt es') l (by omega) (fun b' hb' => by rw [hid] at hb'; injection hb' with hb'; subst hb'; exact Nat.le_refl _) (.inr hl)
    (.inl ⟨_, l, hid, hl, h1, rfl⟩) h1 (fun k _ hk => by simp [hk.symm]) (by simp) rfl rfl rfl ?_
  · rw [hadd, updH_set hlt] at this
    exact this
  · rw [hadd]
    exact ⟨h1, h2, ents', clk', by simp [hlt2], hE⟩
theorem run_setObj_map {r : Nat} {ents : Array MapEntry} {clk : Nat} (h : W.heap[r]? = some (.map ents clk)) (o : Obj) : (setObj r o).run P W = .ok () { W with heap := W.heap.setIfInBounds r o } := by
  simp [setObj, Sem.run, h]

theorem update_sim (hR : Rel P b0 ρ H W) {t : TypeId} {m k v : V} {um uk uv : Value} {H' : Hp} (hm : VR ρ m um) (hk : VR ρ k uk) (hv : VR ρ v uv) (h : updateV P t H m k v = some H') : OutU P b0 ρ H W ((Instr.mapUpdate t um uk uv).run P W) H' := by
  unfold updateV at h
  split at h
  case h_2 => cases h
  rename_i kt et id hun
  obtain ⟨l, hloc, rfl⟩ := hm
  cases hg : getMap H id with
  | none => rw [hg] at h; cases h
  | some q =>
  rw [hg] at h
  simp only [Option.bind_some] at h
  split at h
  case isFalse => cases h
  rename_i hc
  obtain ⟨hkt, hko, heo⟩ := hc
  subst hkt
  have hka := keyVA hk hko
  have hva := elemVA hv heo
  obtain ⟨hid, hlo, hlb, ents, clk, hC, hE⟩ := map_at hR hg hloc
  have hf := findKey_run (W := W) hko hka q.2 ents.toList hE.list
  have hgo := run_getObj_map (P := P) hC
  cases hq : findM q.2 k with
  | none =>
    rw [hq] at h hf
    injection h with h
    subst h
    have hE' : EntsRel P ρ q.1 (q.2 ++ [(k, v)]) (ents.push { key := uk, val := uv, born := clk }) (clk + 1) := by
      refine ⟨by simp [hE.size], fun i e he => ?_, fun i j mi mj hij hi hj => ?_⟩
      · rw [List.getElem?_append] at he
        split at he
        · rename_i hlt
          obtain ⟨me, a, b, c, d, e', f⟩ := hE.at_ i e he
          refine ⟨me, ?_, b, c, d, e', by omega⟩
          rw [Array.getElem?_push, if_neg (by have := hE.size; omega)]
          exact a
        · rename_i hlt
          have hi : i = q.2.length := by
            rcases Nat.lt_or_ge (i - q.2.length) 1 with h1 | h1
            · omega
            · rw [List.getElem?_eq_none (by simpa using h1)] at he; cases he
          subst hi
          simp at he
          subst he
          exact ⟨{ key := uk, val := uv, born := clk }, by rw [hE.size]; simp, hka, hva, hko, heo, Nat.lt_succ_self _⟩
      · rw [Array.getElem?_push] at hi hj
        split at hi
        · rename_i e1
          split at hj
          · omega
          · have := (Array.getElem?_eq_some_iff.1 hj).1; omega
        · split at hj
          · injection hj with hj
            subst hj
            have hlt := (Array.getElem?_eq_some_iff.1 hi).1
            have hlt2 : i < q.2.length := by have := hE.size; omega
            have he : q.2[i]? = some q.2[i] := List.getElem?_eq_getElem hlt2
            obtain ⟨me, a, _, _, _, _, f⟩ := hE.at_ i _ he
            rw [hi] at a
            injection a with a
            subst a
            exact f
          · exact hE.born i j mi mj hij hi hj
    refine ⟨_, ρ, ?_, hR.putMap hid hloc hE'⟩
    simp [Instr.mapUpdate, run_underlying hun, hgo, checkKey_run _ hko hka W, hf, run_setObj_map hC]
  | some i =>
    rw [hq] at h hf
    injection h with h
    subst h
    obtain ⟨e, he, hec⟩ := findM_lt hq
    obtain ⟨me, hme, r1, r2, r3, r4, r5⟩ := hE.at_ i e he
    have hme' : ents.toList[i]? = some me := by simpa using hme
    simp only [Option.bind_some, hme', Option.map_some] at hf
    obtain ⟨ek, eu, hsame⟩ := key_same r3 hko r1 hka hec
    have hlt := (Array.getElem?_eq_some_iff.1 hme).1
    have hE' : EntsRel P ρ q.1 (q.2.set i (k, v)) (ents.modify i fun e => { e with key := uk, val := uv }) clk := by
      refine ⟨by simp [hE.size], fun j e' he' => ?_, fun a b ma mb hab ha hb => ?_⟩
      · rw [List.getElem?_set] at he'
        split at he'
        · rename_i hij
          subst hij
          split at he'
          · injection he' with he'
            subst he'
            refine ⟨{ me with key := uk, val := uv }, ?_, hka, hva, hko, heo, r5⟩
            rw [Array.getElem?_modify, if_pos rfl, hme]
            rfl
          · cases he'
        · rename_i hij
          obtain ⟨me2, a, r⟩ := hE.at_ j e' he'
          refine ⟨me2, ?_, r⟩
          rw [Array.getElem?_modify, if_neg hij]
          exact a
      · have hborn : ∀ (c : Nat) (mc : MapEntry), (ents.modify i fun e => { e with key := uk, val := uv })[c]? = some mc → ∃ mc', ents[c]? = some mc' ∧ mc'.born = mc.born := by
          intro c mc hc
          rw [Array.getElem?_modify] at hc
          split at hc
          · obtain ⟨x, hx, rfl⟩ := Option.map_eq_some_iff.1 hc
            exact ⟨x, hx, rfl⟩
          · exact ⟨mc, hc, rfl⟩
        obtain ⟨a', ha1, ha2⟩ := hborn a ma ha
        obtain ⟨b', hb1, hb2⟩ := hborn b mb hb
        rw [← ha2, ← hb2]
        exact hE.born a b a' b' hab ha1 hb1
    have hold : ((ents[i]?).map (·.key)).getD uk = me.key := by rw [hme]; rfl
    refine ⟨_, ρ, ?_, hR.putMap hid hloc hE'⟩
    simp [Instr.mapUpdate, run_underlying hun, hgo, checkKey_run _ hko hka W, hf, hme, Instr.keyThatStays, hsame, run_setObj_map hC]

theorem delete_sim (hR : Rel P b0 ρ H W) {t ty : TypeId} {m k : V} {um uk : Value} {H' : Hp} {ts : Array TypeId} (hts : ts[0]? = some t) (hm : VR ρ m um) (hk : VR ρ k uk) (h : deleteV P t H m k = some H') :
    Out P b0 ρ H W ((Builtin.delete_ ts ty #[um, uk]).run P W) (.tup []) H' := by
  unfold deleteV at h
  split at h
  case h_2 => cases h
  rename_i kt et hun
  split at h
  case isFalse => cases h
  rename_i hko
  have hka := keyVA hk hko
  split at h
  · obtain rfl : um = .map none := hm
    injection h with h
    subst h
    refine ⟨.tuple #[], W, ρ, ?_, ⟨_, rfl, trivial⟩, Step.refl hR⟩
    simp [Builtin.delete_, hts, run_underlying hun, checkKey_run _ hko hka W]
  · rename_i id
    obtain ⟨l, hloc, rfl⟩ := hm
    cases hg : getMap H id with
    | none => rw [hg] at h; cases h
    | some q =>
    rw [hg] at h
    simp only [Option.bind_some] at h
    split at h
    case isFalse => cases h
    rename_i hkt
    subst hkt
    obtain ⟨hid, hlo, hlb, ents, clk, hC, hE⟩ := map_at hR hg hloc
    have hf := findKey_run (W := W) hko hka q.2 ents.toList hE.list
    have hgo := run_getObj_map (P := P) hC
    cases hq : findM q.2 k with
    | none =>
      rw [hq] at h hf
      injection h with h
      subst h
      have hst := hR.putMap hid hloc hE
      have hself : H.set id (.map q.1 q.2) = H := by
        apply List.ext_getElem?
        intro i
        rw [List.getElem?_set]
        by_cases e : id = i
        · subst e; rw [if_pos rfl, if_pos (List.getElem?_eq_some_iff.1 hid).1, hid]
        · rw [if_neg e]
      rw [hself] at hst
      refine ⟨.tuple #[], _, ρ, ?_, ⟨_, rfl, trivial⟩, hst⟩
      simp [Builtin.delete_, hts, run_underlying hun, hgo, checkKey_run _ hko hka W, hf, run_setObj_map hC]
    | some i =>
      rw [hq] at h hf
      injection h with h
      subst h
      obtain ⟨e, he, hec⟩ := findM_lt hq
      obtain ⟨me, hme, r1, r2, r3, r4, r5⟩ := hE.at_ i e he
      have hme' : ents.toList[i]? = some me := by simpa using hme
      simp only [Option.bind_some, hme', Option.map_some] at hf
      have hlt := (Array.getElem?_eq_some_iff.1 hme).1
      have hget : ∀ j, (ents.eraseIdxIfInBounds i)[j]? = if j < i then ents[j]? else ents[j + 1]? := by
        intro j
        have h1 : ents.eraseIdxIfInBounds i = ents.eraseIdx i hlt := by simp [Array.eraseIdxIfInBounds, hlt]
        rw [h1, Array.getElem?_eraseIdx]
      have hE' : EntsRel P ρ q.1 (q.2.eraseIdx i) (ents.eraseIdxIfInBounds i) clk := by
        refine ⟨?_, fun j e' he' => ?_, fun a b ma mb hab ha hb => ?_⟩
        · have := hE.size
          simp [Array.eraseIdxIfInBounds, hlt, List.length_eraseIdx]
          rw [if_pos (by omega)]
          omega
        · rw [List.getElem?_eraseIdx] at he'
          rw [hget j]
          split at he'
          · rename_i hj; rw [if_pos hj]; exact hE.at_ j e' he'
          · rename_i hj; rw [if_neg hj]; exact hE.at_ (j + 1) e' he'
        · rw [hget] at ha hb
          split at ha
          · split at hb
            · exact hE.born a b ma mb hab ha hb
            · exact hE.born a (b + 1) ma mb (by omega) ha hb
          · split at hb
            · omega
            · exact hE.born (a + 1) (b + 1) ma mb (by omega) ha hb
      refine ⟨.tuple #[], _, ρ, ?_, ⟨_, rfl, trivial⟩, hR.putMap hid hloc hE'⟩
      simp [Builtin.delete_, hts, run_underlying hun, hgo, checkKey_run _ hko hka W, hf, run_setObj_map hC]
  · cases h

theorem makeMap_sim (hR : Rel P b0 ρ H W) {t kt et : TypeId} (_hun : P.underlying t = some (.map kt et)) : Out P b0 ρ H W ((Instr.makeMap t none).run P W) (.map H.length) (H ++ [.map kt []]) := by
  have := hR.upd (W' := W.alloc (.map #[] 0)) H.length (.map kt []) ⟨W.heap.size, 0, 0, true⟩ (Nat.le_refl _) (by simp) (.inl (hR.fresh _ _ (Nat.le_refl _))) (.inr (Nat.le_refl _)) rfl
    (fun k hk' _ => heap_alloc_old W _ hk') (by simp) rfl rfl rfl ⟨rfl, hR.size, #[], 0, heap_alloc_new W _, ⟨rfl, fun i e he => by simp at he, fun i j mi mj _ hi => by simp at hi⟩⟩
  rw [updH_push] at this
  refine ⟨_, _, _, ?_, ⟨_, renAdd_same _ _ _ _, rfl⟩, this⟩
  simp [Instr.makeMap]
end
end Go.Am
